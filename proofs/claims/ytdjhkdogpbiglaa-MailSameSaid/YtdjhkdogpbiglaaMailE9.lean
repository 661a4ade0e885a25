/-
  Mail: MailSame, the law.
-/
import Derived.Test.YtdjhkdogpbiglaaMailE8
namespace Go.Proofs.Ytdjhkdogpbiglaa.MailD
open Go Go.AM

theorem OwnW.lt {S : Nat → Prop} {n : Nat} {h : H} {v : Value} {els : List (List Value)} (x : OwnW S n h v els) : OwnW (fun i => S i ∧ i < h.next) n h v els := ⟨x.1, fun i hi => ⟨x.2.1 i hi, x.1.sid_lt i hi⟩, x.2.2⟩

/-- A command handed in. -/
theorem cmd_open {h : H} {cs : List Value} (ty : Ty Try.prog h 29 cs) : ∃ v els c, cs = [v] ∧ SliceE 38 h v els ∧ (∀ x ∈ els, ItC h x) ∧ All2 (ItIn SliceE h) els c := by
  obtain ⟨v, els, rfl, s, _, t⟩ := ty.slice_inv Try.underlying29
  have c71 : Try.prog.cellsOf 71 = 38 := by kernel_rfl
  rw [c71] at s
  obtain ⟨c, ac⟩ := All2.of (R := ItIn SliceE h) els fun x hx => item_openD (t x hx)
  exact ⟨v, els, c, rfl, s, fun x hx => item_open (t x hx), ac⟩

theorem small_all {h : H} {els : List (List Value)} {c : List ItD} (ac : All2 (ItIn SliceE h) els c) (hl : els.length ≤ 20) (hb : ∀ y ∈ els, ItB h y) : SmallC c := ⟨by have := ac.1; omega, fun x hx => by
  obtain ⟨j, hj⟩ := List.mem_iff_getElem?.1 hx
  obtain ⟨y, hy, i⟩ := ac.at2 hj
  exact small_of i (hb y (List.mem_of_getElem? hy))⟩

theorem rest7 (k : Nat) {h0 h2 h3 : H} {a b : Value} {xa xb : List ItD} (ca : CmdIn SliceE h0 a xa) (cb : CmdIn SliceE h3 b xb) (x02 : Ext h0 h2) (x23 : Ext h2 h3) (sa : SmallC xa) (sb : SmallC xb) :
    ∃ h', MailD7.p7arrr (callB Try.prog 0 [9] (k + 700)) (k + 700) b a h3 (fun x6 h => some (x6, h)) = some (.bool true, h') := by
  have aw : ∀ h, callB Try.prog 0 [9] (k + 700) 9 [] h = some (.bool true, h) := fun h => by kernel_rfl
  have x03 := x02.trans x23
  obtain ⟨v7, h4, e16, o7, x34⟩ := S16 (k + 498) (ca.ext x03) sa
  have c7 : CmdIn SliceE h4 v7 xa := o7.map fun _ _ _ s => s.slice
  obtain ⟨v8, h5, e32, o8, x45⟩ := S32 (k + 498) c7 sa
  have c8 : CmdIn SliceE h5 v8 xa := o8.map fun _ _ _ s => s.slice
  have x35 := x34.trans x45
  obtain ⟨h6, e1, x56⟩ := S31c (k + 88) (ca.ext (x03.trans x35)) (cb.ext x35) sa
  have x36 := x35.trans x56
  obtain ⟨h7, e2, x67⟩ := S19c (k + 89) (ca.ext (x03.trans x36)) (cb.ext x36) sa
  have x37 := x36.trans x67
  obtain ⟨h8, e3, x78⟩ := S31c (k + 88) (cb.ext x37) (ca.ext (x03.trans x37)) sb
  have x38 := x37.trans x78
  obtain ⟨h9, e4, x89⟩ := S31c (k + 88) (ca.ext (x03.trans x38)) (cb.ext x38) sa
  have x39 := x38.trans x89
  have x59 := ((x56.trans x67).trans x78).trans x89
  obtain ⟨hA, e5, x9A⟩ := S31c (k + 88) (ca.ext (x03.trans x39)) (c8.ext x59) sa
  have x3A := x39.trans x9A
  have x5A := x59.trans x9A
  obtain ⟨hB, e6, xAB⟩ := S19c (k + 89) (ca.ext (x03.trans x3A)) (c8.ext x5A) sa
  have x3B := x3A.trans xAB
  have x5B := x5A.trans xAB
  -- all is written over
  have o7' : CmdIn (OwnW (fun i => h3.next ≤ i ∧ i < h4.next)) hB v7 xa := o7.map fun _ _ _ s => s.lt.ext (x45.trans x5B)
  obtain ⟨hC, e20, sp⟩ := S20 (k + 399) o7' sa
  have n03 := x03.next
  have caC : CmdIn SliceE hC a xa := ca.map fun _ _ _ s => (s.ext (x03.trans x3B)).extBut sp.but fun i hi ⟨h1, _⟩ => by have := s.sid_lt i hi; omega
  have c8C : CmdIn SliceE hC v8 xa := o8.map fun _ _ _ s => (s.slice.ext x5B).extBut sp.but fun i hi ⟨_, h2⟩ => by have := s.2.1 i hi; omega
  obtain ⟨hD, e7, _⟩ := S19c (k + 89) caC c8C sa
  have ta : decide (SameC xa xa) = true := decide_eq_true (SameC.rfl xa)
  have sy : decide (SameC xb xa) = decide (SameC xa xb) := decide_eq_decide.2 ⟨SameC.symm, SameC.symm⟩
  rw [ta] at e5 e6 e7
  rw [sy] at e3
  refine ⟨hD, ?_⟩
  have bb : ∀ p : Bool, A.bin Try.prog .neq 4 (.bool p) (.bool p) = some (.bool false) := fun p => by rw [bin_bool_neq Try.underlying4]; simp
  simp only [MailD7.p7arrr, MailD7.p7arrrl, e16, bnd2_some, MailD7.p7arrrr, MailD7.p7arrrrl, e32, MailD7.p7arrrrr, MailD7.p7arrrrrl, MailD7.p7arrrrrll, e1, toBK_bool, e2, bb, bnd_some, cond_false, e3, e4, e5, un_not, Bool.not_true, e6, MailD7.p7arrrrrlr, condV_bool, MailD7.p7arrrrrr, e20, e7, cond_true, aw]

theorem law7 (k : Nat) {h0 : H} {a b : Value} {ea eb : List (List Value)} {xa xb : List ItD} (sa : SliceE 38 h0 a ea) (ha : ∀ x ∈ ea, ItC h0 x) (aa : All2 (ItIn SliceE h0) ea xa) (sb : SliceE 38 h0 b eb) (hb : ∀ x ∈ eb, ItC h0 x) (ab : All2 (ItIn SliceE h0) eb xb) (like : Bool) :
    ∃ h', callB Try.prog 0 [9] (k + 701) 7 [a, b, .bool like] h0 = some (.bool true, h') := by
  rw [MailD7.F7eq [9] rfl]
  have aw : ∀ h, callB Try.prog 0 [9] (k + 700) 9 [] h = some (.bool true, h) := fun h => by kernel_rfl
  obtain ⟨b1, h1, e1, x1, g1⟩ := T33b (k + 399) (Ext.refl h0) sa ha
  obtain ⟨b2, h2, e2, x2, g2⟩ := T33b (k + 399) x1 sb hb
  have e1 : callB Try.prog 0 [9] (k + 700) 33 [a] h0 = some (.bool b1, h1) := e1
  have e2 : callB Try.prog 0 [9] (k + 700) 33 [b] h1 = some (.bool b2, h2) := e2
  cases b1 with
  | true =>
    refine ⟨h1, ?_⟩
    simp only [MailD7.F7, MailD7.p7a, MailD7.p7al, MailD7.p7ar, MailD7.p7arl, e1, bnd2_some, toBK_bool, cond_true, aw]
  | false =>
    cases b2 with
    | true =>
      refine ⟨h2, ?_⟩
      simp only [MailD7.F7, MailD7.p7a, MailD7.p7al, MailD7.p7ar, MailD7.p7arl, e1, e2, bnd2_some, toBK_bool, cond_true, cond_false, aw]
    | false =>
      have sma := small_all aa (g1 rfl).1 (g1 rfl).2
      have smb := small_all ab (g2 rfl).1 (g2 rfl).2
      have ca : CmdIn SliceE h0 a xa := ⟨ea, sa, aa⟩
      have cb : CmdIn SliceE h0 b xb := ⟨eb, sb, ab⟩
      cases like with
      | true =>
        obtain ⟨v, h3, e16, o, x3⟩ := S16 (k + 498) (ca.ext x2) sma
        obtain ⟨h', e⟩ := rest7 k ca (o.map fun _ _ _ s => s.slice) x2 x3 sma sma
        refine ⟨h', ?_⟩
        simp only [MailD7.F7, MailD7.p7a, MailD7.p7al, MailD7.p7ar, MailD7.p7arl, e1, e2, bnd2_some, toBK_bool, cond_false, MailD7.p7arr, MailD7.p7arrl, cond_true, e16]
        exact e
      | false =>
        obtain ⟨h', e⟩ := rest7 k ca (cb.ext x2) x2 (Ext.refl h2) sma smb
        refine ⟨h', ?_⟩
        simp only [MailD7.F7, MailD7.p7a, MailD7.p7al, MailD7.p7ar, MailD7.p7arl, e1, e2, bnd2_some, toBK_bool, cond_false, MailD7.p7arr, MailD7.p7arrl]
        exact e
end Go.Proofs.Ytdjhkdogpbiglaa.MailD
