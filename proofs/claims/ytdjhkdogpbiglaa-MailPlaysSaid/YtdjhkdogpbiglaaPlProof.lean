import Derived.Test.YtdjhkdogpbiglaaPlX
import Derived.Test.YtdjhkdogpbiglaaRows
import Derived.Test.YtdjhkdogpbiglaaAmLaw
namespace Go.Proofs.Ytdjhkdogpbiglaa.MailD
open Go Go.AM
abbrev O1 : List Nat := [9]
noncomputable def c9a : Code := (Try.f9.body).getD .skip
theorem int_in {h : H} {v : Value} (ty : TyV Try.prog h 3 v) : ∃ n : Int, v = .int .i64 n := by
  cases ty with
  | agg hu _ => rw [Try.underlying3] at hu; simp at hu
  | one hu ty =>
    obtain ⟨n, h3, _⟩ := ty.int_inv Try.underlying3
    simp only [List.cons.injEq, and_true] at h3
    exact ⟨n, h3⟩
theorem acts_in {h : H} {v : Value} (ty : TyV Try.prog h 22 v) : ∃ l, SliceE 5 h v l ∧ (∀ x ∈ l, ActC h x) ∧ ∀ x ∈ l, ActO h x := by
  cases ty with
  | agg hu _ => rw [Try.underlying22] at hu; simp at hu
  | one hu ty =>
    obtain ⟨w, l, e, s, _, t⟩ := ty.slice_inv Try.underlying22
    simp only [List.cons.injEq, and_true] at e
    subst e
    have c31 : Try.prog.cellsOf 31 = 5 := by kernel_rfl
    rw [c31] at s
    exact ⟨l, s, fun x hx => act_open (t x hx), fun x hx => act_openD (t x hx)⟩
theorem mailPlaysRun (h : H) (xs : List Value) (_ : Go.AM.Start h) (ty : TyAll Try.prog h [3, 3, 22, 3, 3] xs) : ∃ n h', callB Try.prog 0 O1 n 3 xs h = some (.bool true, h') := by
  match xs, ty with
  | [a, b, c, d, e], ⟨t1, t2, t3, t4, t5, _⟩ =>
    obtain ⟨w, rfl⟩ := int_in t1
    obtain ⟨m, rfl⟩ := int_in t2
    obtain ⟨fr, rfl⟩ := int_in t4
    obtain ⟨la, rfl⟩ := int_in t5
    obtain ⟨l, s, hc, ho⟩ := acts_in t3
    obtain ⟨h', e⟩ := law3 0 (w := w) (m := m) (fr := fr) (la := la) s hc ho
    exact ⟨_, h', e⟩
end Go.Proofs.Ytdjhkdogpbiglaa.MailD
namespace Go.Proofs.Ytdjhkdogpbiglaa.mailPlays
open Go Go.AM Go.RowKit Go.ChangeShapes Go.WideShapes Go.ChangeAt
theorem own : ownKnob Try.prog.godebug = none := by kernel_rfl
theorem zeros : zerosPlain Try.prog = true := by kernel_rfl
theorem mixed : Try.prog.follows .mixedOrders = true := by kernel_rfl
theorem names : namesOK Try.prog = true := by kernel_rfl
theorem awake : ClosedTrue Try.prog 9 :=
  closedTrue (n := 100) zeros mixed names ⟨Try.f9, MailD.c9a, Try.func9, by kernel_rfl, by decide +kernel⟩ (by kernel_rfl)
set_option maxRecDepth 100000 in
theorem lifted (os : Os) (started : os.Started) (H : Type) (enc : TypeId × Value → H) :
    ReturnsInHanded {} Try.checked os 3 .any (Rows.mailPlaysSpec.pre6 enc Try.prog Try.f3 Rows.mailPlaysRow.domain false) (Rows.mailPlaysSpec.post enc Try.prog Try.f3 false true false false) :=
  law_lifted (C := Try.checked) (ts := [3, 3, 22, 3, 3]) (tb := 4) (O := MailD.O1) (n := 20) own started (by kernel_rfl) Try.func3
    (ChangeSpec.witness6 (enc := enc) (C := Try.checked) false ⟨#[], #[.int .i64 0, .int .i64 0, .slice none 0 0, .int .i64 0, .int .i64 0], []⟩ 8 (by kernel_rfl) (by kernel_rfl) (by kernel_rfl) (by kernel_rfl))
    (by kernel_rfl) (by kernel_rfl) (by kernel_rfl) Try.underlying4 rfl
    (fun ds hd => by match ds, hd with | [d0, d1, d2, d3, d4], _ => exact ⟨rfl, rfl, rfl⟩)
    (by kernel_rfl) (by kernel_rfl) (by kernel_rfl) zeros mixed names (fun f hf => by simp at hf; subst hf; exact awake) (by kernel_rfl) MailD.mailPlaysRun
theorem over : Rows.mailPlaysRow.holds Try.pinned (OpenSpec.ofChange Rows.mailPlaysSpec) :=
  OpenClaim.holds_of_wide 3 Try.f3 rfl rfl rfl rfl rfl rfl rfl ⟨rfl, rfl, rfl, rfl, rfl⟩ rfl rfl rfl rfl rfl (by kernel_rfl) Try.func3 (by kernel_rfl)
    (of_decide_eq_true (by kernel_rfl)) (by unfold Func.isWrapper; first | (rw [if_pos (by decide +kernel)]; kernel_rfl) | (rw [if_neg (by decide +kernel)]; exact ⟨rfl, rfl⟩))
    (fun os started H enc _ => lifted os started H enc)
theorem proved : Rows.MailPlaysSaid := over
#print axioms proved
end Go.Proofs.Ytdjhkdogpbiglaa.mailPlays
