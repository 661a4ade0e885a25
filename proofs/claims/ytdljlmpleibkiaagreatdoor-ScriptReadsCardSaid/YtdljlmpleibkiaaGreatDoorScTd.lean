import Derived.Test.YtdljlmpleibkiaaGreatDoorRi
set_option maxRecDepth 1000000
namespace Go.Proofs.YtdljlmpleibkiaaGreatDoor.Sc
open Tryz (prog)
open Go Go.AM
def saysO (o : Option Value) (v : Value) : Bool := match o with | some x => AM.same x v | none => false
theorem saysO_eq {o : Option Value} {v : Value} (h : saysO o v = true) : o = some v := by
 unfold saysO at h
 split at h
 · rw [AM.same_eq _ _ h]
 · cases h
noncomputable def Qt : Orc := tab.orc
theorem q_free : (free.all fun f => tab.all fun e => !Nat.beq e.1 f) = true := by kernel_rfl
theorem q_pd : (texts.all fun s => saysO (Qt 144 [str s]) (.tuple ⟨[str (fieldB s),.int .i64 0]⟩)) = true := by kernel_rfl
theorem q_va : (clients.all fun s => saysO (Qt 140 [str s]) (.bool true)) = true := by kernel_rfl
theorem q_nm : (names.all fun s => saysO (Qt 141 [str s]) (.bool true)) = true := by kernel_rfl
theorem q_fi : (filters.all fun s => saysO (Qt 142 [str s]) (.bool true)) = true := by kernel_rfl
theorem q_ln : ((List.range 128).all fun n : Nat => saysO (Qt 84 [.int .i64 (n : Int)]) (.tuple ⟨[str [UInt8.ofNat n],.int .i64 0]⟩)) = true := by kernel_rfl
theorem q_sz : ((List.range 128).all fun n : Nat => saysO (Qt 105 [.int .i64 (n : Int)]) (.int .i64 1)) = true := by kernel_rfl
theorem q_fd : (kinds.all fun k : Nat => saysO (Qt 57 [.int .u8 (k : Int)]) (str (fldN k))) = true := by kernel_rfl
theorem q_hs : (kinds.all fun k : Nat => letters.all fun c => saysO (Qt 63 [str (fldN k),.int .u8 (c.toNat : Int)]) (.bool (hasL k c))) = true := by kernel_rfl
theorem q_nm2 : (names.all fun s => saysO (Qt 62 [str s]) (.bool true)) = true := by kernel_rfl
theorem q_va2 : (clients.all fun s => saysO (Qt 89 [str s]) (.bool true)) = true := by kernel_rfl
theorem q_fi2 : (filters.all fun s => saysO (Qt 88 [str s]) (.bool true)) = true := by kernel_rfl
theorem q_dt : (texts.all fun s => saysO (Qt 66 [str s]) (str (fieldB s))) = true := by kernel_rfl
theorem q_wd : ((List.range 256).all fun n : Nat => saysO (Qt 67 [.int .u16 (n : Int)]) (str (wordB n))) = true := by kernel_rfl
theorem q_ln2 : ((List.range 128).all fun n : Nat => saysO (Qt 41 [.int .i64 (n : Int)]) (.tuple ⟨[str [UInt8.ofNat n],.int .i64 0]⟩)) = true := by kernel_rfl
theorem q_aw : saysO (Qt 4 []) (.bool true) = true := by kernel_rfl
theorem kn_tab : Kn tab.orc where
 fr := fun f args hf => Tab.none (List.all_eq_true.1 q_free f hf) args
 pd := fun s hs => saysO_eq (List.all_eq_true.1 q_pd s hs)
 va := fun s hs => saysO_eq (List.all_eq_true.1 q_va s hs)
 nm := fun s hs => saysO_eq (List.all_eq_true.1 q_nm s hs)
 fi := fun s hs => saysO_eq (List.all_eq_true.1 q_fi s hs)
 ln := fun n hn => saysO_eq (List.all_eq_true.1 q_ln n (List.mem_range.2 hn))
 sz := fun n hn => saysO_eq (List.all_eq_true.1 q_sz n (List.mem_range.2 hn))
theorem knd_tab : KnD tab.orc where
 kn := kn_tab
 fd := fun k hk => saysO_eq (List.all_eq_true.1 q_fd k hk)
 hs := fun k hk c hc => saysO_eq (List.all_eq_true.1 (List.all_eq_true.1 q_hs k hk) c hc)
 nm := fun s hs => saysO_eq (List.all_eq_true.1 q_nm2 s hs)
 va := fun s hs => saysO_eq (List.all_eq_true.1 q_va2 s hs)
 fi := fun s hs => saysO_eq (List.all_eq_true.1 q_fi2 s hs)
 dt := fun s hs => saysO_eq (List.all_eq_true.1 q_dt s hs)
 wd := fun n hn => saysO_eq (List.all_eq_true.1 q_wd n (List.mem_range.2 hn))
 ln := fun n hn => saysO_eq (List.all_eq_true.1 q_ln2 n (List.mem_range.2 hn))
theorem aw_tab : tab.orc 4 [] = some (.bool true) := saysO_eq q_aw
theorem lawT (n : Nat) {h : H} {x : Value} {full : List UInt8} (sl : SliceE 1 h x (full.map fun b => [u8 b])) : ∃ h',callO prog 0 tab.orc (n + 2024) 3 [x] h = some (.bool true,h') := law3 knd_tab aw_tab n sl
end Go.Proofs.YtdljlmpleibkiaaGreatDoor.Sc
