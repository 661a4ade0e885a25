import Derived.Test.YtohapjojkjjflaaDoorWcTb
set_option maxRecDepth 1000000
namespace Go.Proofs.YtohapjojkjjflaaDoor.Wc
open Go Go.AM
def saysO (o : Option Value) (v : Value) : Bool := match o with | some x => AM.same x v | none => false
theorem saysO_eq {o : Option Value} {v : Value} (h : saysO o v = true) : o = some v := by
 unfold saysO at h
 split at h
 · rw [AM.same_eq _ _ h]
 · cases h
noncomputable def Qt : Orc := tab.orc
theorem q_free : (frL.all fun f => tab.all fun e => !Nat.beq e.1 f) = true := by kernel_rfl
theorem q_fq : ((List.range 256).all fun c : Nat => saysO (Qt 32 [.int .u8 (c : Int)]) (.bool (firstB c))) = true := by kernel_rfl
theorem q_as : saysO (Qt 68 [str PM]) (.tuple ⟨[.agg ⟨asciiPM⟩,.bool true]⟩) = true := by kernel_rfl
theorem q_aw : saysO (Qt 4 []) (.bool true) = true := by kernel_rfl
theorem aw_tab : tab.orc 4 [] = some (.bool true) := saysO_eq q_aw
theorem kna_tab : KnA tab.orc where
 fr := fun f args hf => Tab.none (List.all_eq_true.1 q_free f hf) args
 fq := fun c hc => saysO_eq (List.all_eq_true.1 q_fq c (List.mem_range.2 hc))
 qa := saysO_eq q_as
end Go.Proofs.YtohapjojkjjflaaDoor.Wc
