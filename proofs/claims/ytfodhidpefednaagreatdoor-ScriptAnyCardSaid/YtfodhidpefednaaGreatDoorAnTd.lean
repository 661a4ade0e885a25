import Derived.Test.YtfodhidpefednaaGreatDoorAnTb
set_option maxRecDepth 1000000
namespace Go.Proofs.YtfodhidpefednaaGreatDoor.An
open Go Go.AM
def saysO (o : Option Value) (v : Value) : Bool := match o with | some x => AM.same x v | none => false
theorem saysO_eq {o : Option Value} {v : Value} (h : saysO o v = true) : o = some v := by
 unfold saysO at h
 split at h
 · rw [AM.same_eq _ _ h]
 · cases h
noncomputable def Qt : Orc := tab.orc
theorem q_free : (free.all fun f => tab.all fun e => !Nat.beq e.1 f) = true := by kernel_rfl
theorem q_freeA : ([6,14,7,16,17,18,20,30,31,32,33,34,35,52,53,54,59,76].all fun f => tab.all fun e => !Nat.beq e.1 f) = true := by kernel_rfl
theorem q_freeB : ([160,131,159,161,163,165,166,101,212,213,214,219,251,269,218,102,103,132,133].all fun f => tab.all fun e => !Nat.beq e.1 f) = true := by kernel_rfl
theorem q_pd : (texts.all fun s => saysO (Qt 157 [str s]) (.tuple ⟨[str (fieldB s),.int .i64 0]⟩)) = true := by kernel_rfl
theorem q_va : (clients.all fun s => saysO (Qt 77 [str s]) (.bool true)) = true := by kernel_rfl
theorem q_nm : (names.all fun s => saysO (Qt 78 [str s]) (.bool true)) = true := by kernel_rfl
theorem q_fi : (filters.all fun s => saysO (Qt 79 [str s]) (.bool true)) = true := by kernel_rfl
theorem q_ln : ((List.range 128).all fun n : Nat => saysO (Qt 98 [.int .i64 (n : Int)]) (.tuple ⟨[str [UInt8.ofNat n],.int .i64 0]⟩)) = true := by kernel_rfl
theorem q_sz : ((List.range 128).all fun n : Nat => saysO (Qt 126 [.int .i64 (n : Int)]) (.int .i64 1)) = true := by kernel_rfl
theorem q_fq : ((List.range 256).all fun c : Nat => saysO (Qt 15 [.int .u8 (c : Int)]) (.bool (firstB c))) = true := by kernel_rfl
theorem q_as : saysO (Qt 162 [str PM]) (.tuple ⟨[.agg ⟨asciiPM⟩,.bool true]⟩) = true := by kernel_rfl
theorem q_gt : ((List.range 6).all fun c : Nat => saysO (Qt 27 [.pointer none,.int .i64 (c : Int)]) (.pointer none)) = true := by kernel_rfl
theorem q_aw : saysO (Qt 4 []) (.bool true) = true := by kernel_rfl
theorem q_d1 : (saysO (Qt 8 [.pointer none,.agg ⟨(Ent.mk 1 0 0 0 0 0 []).cells⟩]) (.agg ⟨told 8⟩) && saysO (Qt 8 [.pointer none,.agg ⟨(Ent.mk 7 0 0 0 0 0 []).cells⟩]) (.agg ⟨told 0⟩)) = true := by kernel_rfl
theorem q_d3 : ((List.range 6).all fun c => saysO (Qt 8 [.pointer none,.agg ⟨(Ent.mk 3 c 0 0 0 0 []).cells⟩]) (.agg ⟨told 8⟩)) = true := by kernel_rfl
theorem q_d4 : ((List.range 4).all fun n => saysO (Qt 8 [.pointer none,.agg ⟨(Ent.mk 4 0 n 0 0 0 []).cells⟩]) (.agg ⟨told 0⟩)) = true := by kernel_rfl
theorem q_d5 : ((List.range 6).all fun c => saysO (Qt 8 [.pointer none,.agg ⟨(Ent.mk 5 c 0 0 0 0 []).cells⟩]) (.agg ⟨told 0⟩)) = true := by kernel_rfl
def noFeed : List Value → Bool
 | [_,.agg ⟨.int _ k :: _⟩] => !(k == 2)
 | _ => false
theorem q_d2 : (tab.all fun e => !Nat.beq e.1 8 || noFeed e.2.1) = true := by kernel_rfl
theorem tab_mem {f : FuncId} {args : List Value} {v : Value} (h : tab.orc f args = some v) : (f,args,v) ∈ tab := by
 unfold Tab.orc at h
 cases hf : tab.find? (fun e => Nat.beq e.1 f && AM.sameL e.2.1 args) with
 | none => rw [hf] at h; cases h
 | some e =>
  rw [hf] at h
  have hm := List.mem_of_find?_eq_some hf
  have hp := List.find?_some hf
  simp only [Bool.and_eq_true] at hp
  have e1 := beq_iff.1 hp.1
  have e2 := AM.sameL_eq _ _ hp.2
  have e3 : e.2.2 = v := Option.some.inj h
  subst e1; subst e2; subst e3
  exact hm
theorem q_sl : (t7.all fun e => Nat.beq e.1 8 && AM.sameL e.2.1 e.2.1) = true := by kernel_rfl
def kind6 : List Value → Bool
 | [_,.agg ⟨.int _ k :: _⟩] => k == 6
 | _ => false
theorem q_k6 : (tab.all fun e => !Nat.beq e.1 8 || (!kind6 e.2.1 || AM.same e.2.2 (.agg ⟨told 0⟩))) = true := by kernel_rfl
theorem q_d6 {a b c : Nat} (ha : a < 5) (hb : b < 8) (hc : c < 7) : tab.orc 8 [.pointer none,.agg ⟨(Ent.mk 6 0 0 a b c []).cells⟩] = some (.agg ⟨told 0⟩) := by
 have hm : d8 6 0 0 a b c 0 ∈ t7 := List.mem_flatten.2 ⟨_,List.mem_map.2 ⟨a,List.mem_range.2 ha,rfl⟩,List.mem_flatten.2 ⟨_,List.mem_map.2 ⟨b,List.mem_range.2 hb,rfl⟩,List.mem_map.2 ⟨c,List.mem_range.2 hc,rfl⟩⟩⟩
 have hs := List.all_eq_true.1 q_sl _ hm
 have ht : d8 6 0 0 a b c 0 ∈ tab := by
  unfold tab
  simp only [List.mem_append]
  exact Or.inl (Or.inl (Or.inl (Or.inl (Or.inl (Or.inl (Or.inl hm))))))
 cases hq : tab.orc 8 [.pointer none,.agg ⟨(Ent.mk 6 0 0 a b c []).cells⟩] with
 | none =>
  unfold Tab.orc at hq
  rw [Option.map_eq_none_iff,List.find?_eq_none] at hq
  exact absurd hs (hq _ ht)
 | some v =>
  have := List.all_eq_true.1 q_k6 _ (tab_mem hq)
  have h8 : Nat.beq 8 8 = true := rfl
  have h6 : kind6 [.pointer none,.agg ⟨(Ent.mk 6 0 0 a b c []).cells⟩] = true := rfl
  simp only [h8,h6,Bool.not_true,Bool.false_or] at this
  rw [AM.same_eq _ _ this]
def inL (L : List (List UInt8)) (args : List Value) (v : Value) : Bool :=
 match args,v with
 | [.string b],.bool true => L.contains b.data.toList
 | _,_ => false
theorem tab_in {f : FuncId} {L : List (List UInt8)} (c : (tab.all fun e => !Nat.beq e.1 f || inL L e.2.1 e.2.2) = true) :
 ∀ s v,tab.orc f [str s] = some v → v = .bool true ∧ s ∈ L := by
 intro s v h
 have := List.all_eq_true.1 c _ (tab_mem h)
 have hb : Nat.beq f f = true := beq_iff.2 rfl
 simp only [hb,Bool.not_true,Bool.false_or] at this
 have this : inL L [str s] v = true := this
 cases v with
 | bool t =>
  cases t with
  | true =>
   have h : L.contains s = true := this
   exact ⟨rfl,by simpa using h⟩
  | false => cases this
 | _ => cases this
theorem q_v : (tab.all fun e => !Nat.beq e.1 77 || inL clients e.2.1 e.2.2) = true := by kernel_rfl
theorem q_n : (tab.all fun e => !Nat.beq e.1 78 || inL names e.2.1 e.2.2) = true := by kernel_rfl
theorem q_f : (tab.all fun e => !Nat.beq e.1 79 || inL filters e.2.1 e.2.2) = true := by kernel_rfl
theorem kn_tab : Kn tab.orc where
 fr := fun f args hf => Tab.none (List.all_eq_true.1 q_free f hf) args
 pd := fun s hs => saysO_eq (List.all_eq_true.1 q_pd s hs)
 va := fun s hs => saysO_eq (List.all_eq_true.1 q_va s hs)
 nm := fun s hs => saysO_eq (List.all_eq_true.1 q_nm s hs)
 fi := fun s hs => saysO_eq (List.all_eq_true.1 q_fi s hs)
 ln := fun n hn => saysO_eq (List.all_eq_true.1 q_ln n (List.mem_range.2 hn))
 sz := fun n hn => saysO_eq (List.all_eq_true.1 q_sz n (List.mem_range.2 hn))
theorem kna_tab : KnA tab.orc where
 kn := kn_tab
 fq := fun c hc => saysO_eq (List.all_eq_true.1 q_fq c (List.mem_range.2 hc))
 fr := fun f args hf => Tab.none (List.all_eq_true.1 q_freeA f hf) args
theorem knb_tab : KnB tab.orc where
 ka := kna_tab
 fr := fun f args hf => Tab.none (List.all_eq_true.1 q_freeB f hf) args
 gt := fun c hc => saysO_eq (List.all_eq_true.1 q_gt c (List.mem_range.2 hc))
 aw := saysO_eq q_aw
 d1 := by have := q_d1; rw [Bool.and_eq_true] at this; exact saysO_eq this.1
 d3 := fun c hc => saysO_eq (List.all_eq_true.1 q_d3 c (List.mem_range.2 hc))
 d4 := fun c hc => saysO_eq (List.all_eq_true.1 q_d4 c (List.mem_range.2 hc))
 d5 := fun c hc => saysO_eq (List.all_eq_true.1 q_d5 c (List.mem_range.2 hc))
 d6 := fun _ _ _ ha hb hc => q_d6 ha hb hc
 d7 := by have := q_d1; rw [Bool.and_eq_true] at this; exact saysO_eq this.2
 d2 := fun e h2 => by
  cases hq : tab.orc 8 [.pointer none,.agg ⟨e.cells⟩] with
  | none => rfl
  | some v =>
   have := List.all_eq_true.1 q_d2 _ (tab_mem hq)
   have hb : Nat.beq 8 8 = true := rfl
   have hn : noFeed [.pointer none,.agg ⟨e.cells⟩] = !((e.kind : Int) == 2) := rfl
   simp only [hb,hn,h2] at this
   cases this
 qa := saysO_eq q_as
 vq := tab_in q_v
 nq := tab_in q_n
 fq := tab_in q_f
end Go.Proofs.YtfodhidpefednaaGreatDoor.An
