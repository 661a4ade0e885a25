/-
  MailKnown returns true. No condition.
-/
import Derived.Test.YtdjhkdogpbiglaaMailK3
import Derived.Test.YtdjhkdogpbiglaaRows
import Derived.Test.YtdjhkdogpbiglaaAmLaw
namespace Go.Proofs.Ytdjhkdogpbiglaa.MailD
open Go Go.AM

abbrev O1 : List Nat := [9]
noncomputable def c9a : Code := (Try.f9.body).getD .skip

theorem mailKnownRun (h : H) (xs : List Value) (_ : Go.AM.Start h) (ty : TyAll Try.prog h [] xs) : ∃ n h', callB Try.prog 0 O1 n 6 xs h = some (.bool true, h') := by
  cases xs with
  | nil =>
    obtain ⟨h', e⟩ := law6 0 h
    exact ⟨_, h', e⟩
  | cons x xs => exact ty.elim
end Go.Proofs.Ytdjhkdogpbiglaa.MailD

namespace Go.Proofs.Ytdjhkdogpbiglaa.mailKnown
open Go Go.AM Go.RowKit Go.ChangeShapes Go.WideShapes Go.ChangeAt

theorem own : ownKnob Try.prog.godebug = none := by kernel_rfl
theorem zeros : zerosPlain Try.prog = true := by kernel_rfl
theorem mixed : Try.prog.follows .mixedOrders = true := by kernel_rfl
theorem names : namesOK Try.prog = true := by kernel_rfl
theorem awake : ClosedTrue Try.prog 9 :=
  closedTrue (n := 100) zeros mixed names ⟨Try.f9, MailD.c9a, Try.func9, by kernel_rfl, by decide +kernel⟩ (by kernel_rfl)

set_option maxRecDepth 100000 in
theorem lifted (os : Os) (started : os.Started) (H : Type) (enc : TypeId × Value → H) :
    ReturnsInHanded {} Try.checked os 6 .any (Rows.mailKnownSpec.pre6 enc Try.prog Try.f6 Rows.mailKnownRow.domain false) (Rows.mailKnownSpec.post enc Try.prog Try.f6 false true false false) :=
  law_lifted (C := Try.checked) (ts := []) (tb := 4) (O := MailD.O1) (n := 20) own started (by kernel_rfl) Try.func6
    (ChangeSpec.witness6 (enc := enc) (C := Try.checked) false ⟨#[], #[], []⟩ 8 (by kernel_rfl) (by kernel_rfl) (by kernel_rfl) (by kernel_rfl))
    (by kernel_rfl) (by kernel_rfl) (by kernel_rfl) Try.underlying4 rfl
    (fun ds hd => by match ds, hd with | [], _ => exact ⟨rfl, rfl, rfl⟩)
    (by kernel_rfl) (by kernel_rfl) (by kernel_rfl) zeros mixed names (fun f hf => by simp at hf; subst hf; exact awake) (by kernel_rfl) MailD.mailKnownRun

theorem over : Rows.mailKnownRow.holds Try.pinned (OpenSpec.ofChange Rows.mailKnownSpec) :=
  OpenClaim.holds_of_wide 6 Try.f6 rfl rfl rfl rfl rfl rfl rfl ⟨rfl, rfl, rfl, rfl, rfl⟩ rfl rfl rfl rfl rfl (by kernel_rfl) Try.func6 (by kernel_rfl)
    (of_decide_eq_true (by kernel_rfl)) (by unfold Func.isWrapper; first | (rw [if_pos (by decide +kernel)]; kernel_rfl) | (rw [if_neg (by decide +kernel)]; exact ⟨rfl, rfl⟩))
    (fun os started H enc _ => lifted os started H enc)

theorem proved : Rows.MailKnownSaid := over
#print axioms proved
end Go.Proofs.Ytdjhkdogpbiglaa.mailKnown
