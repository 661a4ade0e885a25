/-
  MailSame returns true: of any two commands. No condition.
-/
import Derived.Test.YtdjhkdogpbiglaaMailE9
import Derived.Test.YtdjhkdogpbiglaaRows
import Derived.Test.YtdjhkdogpbiglaaAmLaw
namespace Go.Proofs.Ytdjhkdogpbiglaa.MailD
open Go Go.AM

abbrev O1 : List Nat := [9]
noncomputable def c9a : Code := (Try.f9.body).getD .skip

theorem bool_in {h : H} {v : Value} (ty : TyV Try.prog h 4 v) : ∃ b : Bool, v = .bool b := by
  cases ty with
  | agg hu _ => rw [Try.underlying4] at hu; simp at hu
  | one hu ty =>
    obtain ⟨n, h3⟩ := ty.bool_inv Try.underlying4
    simp only [List.cons.injEq, and_true] at h3
    exact ⟨n, h3⟩

theorem cmd_in {h : H} {v : Value} (ty : TyV Try.prog h 29 v) : ∃ els c, SliceE 38 h v els ∧ (∀ x ∈ els, ItC h x) ∧ All2 (ItIn SliceE h) els c := by
  cases ty with
  | agg hu _ => rw [Try.underlying29] at hu; simp at hu
  | one hu ty =>
    obtain ⟨w, els, c, e, r⟩ := cmd_open ty
    simp only [List.cons.injEq, and_true] at e
    subst e
    exact ⟨els, c, r⟩

theorem mailSameRun (h : H) (xs : List Value) (_ : Go.AM.Start h) (ty : TyAll Try.prog h [29, 29, 4] xs) : ∃ n h', callB Try.prog 0 O1 n 7 xs h = some (.bool true, h') := by
  match xs, ty with
  | [a, b, c], ⟨t1, t2, t3, _⟩ =>
    obtain ⟨ea, xa, sa, ha, aa⟩ := cmd_in t1
    obtain ⟨eb, xb, sb, hb, ab⟩ := cmd_in t2
    obtain ⟨l, rfl⟩ := bool_in t3
    obtain ⟨h', e⟩ := law7 0 sa ha aa sb hb ab l
    exact ⟨_, h', e⟩
end Go.Proofs.Ytdjhkdogpbiglaa.MailD

namespace Go.Proofs.Ytdjhkdogpbiglaa.mailSame
open Go Go.AM Go.RowKit Go.ChangeShapes Go.WideShapes Go.ChangeAt

theorem own : ownKnob Try.prog.godebug = none := by kernel_rfl
theorem zeros : zerosPlain Try.prog = true := by kernel_rfl
theorem mixed : Try.prog.follows .mixedOrders = true := by kernel_rfl
theorem names : namesOK Try.prog = true := by kernel_rfl
theorem awake : ClosedTrue Try.prog 9 :=
  closedTrue (n := 100) zeros mixed names ⟨Try.f9, MailD.c9a, Try.func9, by kernel_rfl, by decide +kernel⟩ (by kernel_rfl)

set_option maxRecDepth 100000 in
theorem lifted (os : Os) (started : os.Started) (H : Type) (enc : TypeId × Value → H) :
    ReturnsInHanded {} Try.checked os 7 .any (Rows.mailSameSpec.pre6 enc Try.prog Try.f7 Rows.mailSameRow.domain false) (Rows.mailSameSpec.post enc Try.prog Try.f7 false true false false) :=
  law_lifted (C := Try.checked) (ts := [29, 29, 4]) (tb := 4) (O := MailD.O1) (n := 20) own started (by kernel_rfl) Try.func7
    (ChangeSpec.witness6 (enc := enc) (C := Try.checked) false ⟨#[], #[.slice none 0 0, .slice none 0 0, .bool false], []⟩ 8 (by kernel_rfl) (by kernel_rfl) (by kernel_rfl) (by kernel_rfl))
    (by kernel_rfl) (by kernel_rfl) (by kernel_rfl) Try.underlying4 rfl
    (fun ds hd => by match ds, hd with | [d0, d1, d2], _ => exact ⟨rfl, rfl, rfl⟩)
    (by kernel_rfl) (by kernel_rfl) (by kernel_rfl) zeros mixed names (fun f hf => by simp at hf; subst hf; exact awake) (by kernel_rfl) MailD.mailSameRun

theorem over : Rows.mailSameRow.holds Try.pinned (OpenSpec.ofChange Rows.mailSameSpec) :=
  OpenClaim.holds_of_wide 7 Try.f7 rfl rfl rfl rfl rfl rfl rfl ⟨rfl, rfl, rfl, rfl, rfl⟩ rfl rfl rfl rfl rfl (by kernel_rfl) Try.func7 (by kernel_rfl)
    (of_decide_eq_true (by kernel_rfl)) (by unfold Func.isWrapper; first | (rw [if_pos (by decide +kernel)]; kernel_rfl) | (rw [if_neg (by decide +kernel)]; exact ⟨rfl, rfl⟩))
    (fun os started H enc _ => lifted os started H enc)

theorem proved : Rows.MailSameSaid := over
#print axioms proved
end Go.Proofs.Ytdjhkdogpbiglaa.mailSame
