import Derived.Test.YtfodhidpefednaaGreatDoorRg
namespace Go.Proofs.YtfodhidpefednaaGreatDoor.An
open Tryz (prog)
open Go Go.AM
theorem or_word (a b : UInt8) : ∃ x,A.bin prog .shl 3 (.int .i64 (a.toNat : Int)) (.int .u64 8) = some (.int .i64 x) ∧ A.bin prog .or 3 (.int .i64 x) (.int .i64 (b.toNat : Int)) = some (.int .i64 ((256 * a.toNat + b.toNat : Nat) : Int)) := by
 have sh : A.bin prog .shl 3 (.int .i64 (a.toNat : Int)) (.int .u64 8) = some (.int .i64 ((256 * a.toNat : Nat) : Int)) := by
  have all : ((List.range 256).all fun m => match A.bin prog .shl 3 (.int .i64 (m : Int)) (.int .u64 8) with | some v => AM.same v (.int .i64 ((256 * m : Nat) : Int)) | none => false) = true := by kernel_rfl
  have := List.all_eq_true.1 all a.toNat (List.mem_range.2 a.toNat_lt)
  split at this
  · rename_i v hv
    rw [hv,same_eq _ _ this]
  · cases this
 refine ⟨_,sh,?_⟩
 have all : ((List.range 256).all fun m => (List.range 256).all fun k => match A.bin prog .or 3 (.int .i64 ((256 * m : Nat) : Int)) (.int .i64 (k : Int)) with | some v => AM.same v (.int .i64 ((256 * m + k : Nat) : Int)) | none => false) = true := by kernel_rfl
 have := List.all_eq_true.1 (List.all_eq_true.1 all a.toNat (List.mem_range.2 a.toNat_lt)) b.toNat (List.mem_range.2 b.toNat_lt)
 split at this
 · rename_i v hv
   rw [hv,same_eq _ _ this]
 · cases this
end Go.Proofs.YtfodhidpefednaaGreatDoor.An
