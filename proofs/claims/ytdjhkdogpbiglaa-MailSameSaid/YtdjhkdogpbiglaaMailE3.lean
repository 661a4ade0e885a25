/-
  Mail: whether packets are the same: both texts.
-/
import Derived.Test.YtdjhkdogpbiglaaMailE2
namespace Go.Proofs.Ytdjhkdogpbiglaa.MailD
open Go Go.AM

theorem box24 (f : PkF) (h : H) : A.box 24 (.agg ⟨f.cells⟩) h = some (ptrV h.next, h.push (.cells f.cells (some 0))) := rfl


theorem T47 (k : Nat) {h : H} {x y : List Value} {p q : PkD} (px : PkIn SliceE h x p) (py : PkIn SliceE h y q) (hp : p.Small) : ∃ h', callB Try.prog 0 [9] (k + 200) 47 [.agg ⟨x⟩, .agg ⟨y⟩] h = some (.bool (decide (SameP p q)), h') ∧ Ext h h' := by
  obtain ⟨w, rfl, sw⟩ := px
  obtain ⟨v, rfl, sv⟩ := py
  obtain ⟨f, hf⟩ : ∃ f : PkF, f = { p.f with w := w } := ⟨_, rfl⟩
  obtain ⟨g, hg⟩ : ∃ g : PkF, g = { q.f with w := v } := ⟨_, rfl⟩
  have ef : p.cells w = f.cells := by rw [hf]; rfl
  have eg : q.cells v = g.cells := by rw [hg]; rfl
  have hE : SameP p q ↔ EqP f g ∧ p.subs = q.subs := by rw [hf, hg]; exact Iff.rfl
  have sw : SliceE 2 h f.w (p.subs.map sbC) := by rw [hf]; exact sw
  have sv : SliceE 2 h g.w (q.subs.map sbC) := by rw [hg]; exact sv
  rw [ef, eg, MailD7.F47eq [9] rfl]
  clear hf hg ef eg
  obtain ⟨h1, hh1⟩ : ∃ h1, h1 = h.push (.cells f.cells (some 0)) := ⟨_, rfl⟩
  obtain ⟨h2, hh2⟩ : ∃ h2, h2 = h1.push (.cells g.cells (some 0)) := ⟨_, rfl⟩
  have b1 : A.box 24 (.agg ⟨f.cells⟩) h = some (ptrV h.next, h1) := by rw [hh1]; rfl
  have b2 : A.box 24 (.agg ⟨g.cells⟩) h1 = some (ptrV h1.next, h2) := by rw [hh2]; rfl
  have x1 : Ext h h1 := hh1 ▸ Ext.push h _
  have x2 : Ext h1 h2 := hh2 ▸ Ext.push h1 _
  have n1 : h1.next = h.next + 1 := by rw [hh1]; rfl
  have g2 : h2.get h.next = some (.cells f.cells (some 0)) := by rw [x2.get _ (by omega), hh1, H.get_push, if_pos rfl]
  have g3 : h2.get h1.next = some (.cells g.cells (some 0)) := by rw [hh2, H.get_push, if_pos rfl]
  have sw2 := sw.ext (x1.trans x2)
  have sv2 := sv.ext (x1.trans x2)
  have lf : A.lenS f.w = some (.int .i64 (p.subs.length : Int)) := by have := sw.len.1; rwa [List.length_map] at this
  have lg : A.lenS g.w = some (.int .i64 (q.subs.length : Int)) := by have := sv.len.1; rwa [List.length_map] at this
  refine ⟨h2, ?_, x1.trans x2⟩
  have e1 := fun (kn : Value → Value → Value → H → Option (Value × H)) => H47a (callB Try.prog 0 [9] (k + 199)) (k + 199) g2 g3 kn
  have e2 := fun (kn : Value → Value → Value → H → Option (Value × H)) => H47b (callB Try.prog 0 [9] (k + 199)) (k + 199) g2 g3 lf lg kn
  simp only [MailD7.F47, MailD7.p47a, MailD7.p47al, b1, b2, bnd2_some, MailD7.p47ar, MailD7.p47arl]
  rw [e1]
  by_cases ca : f.i 0 = g.i 0 ∧ f.b 1 = g.b 1 ∧ f.i 2 = g.i 2 ∧ f.b 3 = g.b 3 ∧ f.i 4 = g.i 4 ∧ f.s 5 = g.s 5 ∧ f.s 6 = g.s 6 ∧ f.i 7 = g.i 7 ∧ f.b 8 = g.b 8 ∧ f.i 9 = g.i 9 ∧ f.s 10 = g.s 10
  · simp only [decide_eq_true ca, Bool.not_true, MailD7.p47arlr, condV_bool, cond_false, MailD7.p47arr, MailD7.p47arrl]
    rw [e2]
    by_cases cb : f.b 11 = g.b 11 ∧ (f.s 12 = g.s 12 ∧ f.s 13 = g.s 13 ∧ f.i 14 = g.i 14 ∧ f.b 15 = g.b 15) ∧ f.b 16 = g.b 16 ∧ f.b 17 = g.b 17 ∧ f.s 18 = g.s 18 ∧ f.s 19 = g.s 19 ∧ f.b 20 = g.b 20 ∧ f.i 21 = g.i 21 ∧ f.s 23 = g.s 23 ∧ ((p.subs.length : Int) = (q.subs.length : Int))
    · have hl : p.subs.length = q.subs.length := by
        obtain ⟨q11, ⟨q12, q13, q14, q15⟩, q16, q17, q18, q19, q20, q21, q23, ql⟩ := cb
        omega
      have e := lp47 (callB Try.prog 0 [9] (k + 199)) (k + 199) (fun x4 h => some (x4, h)) (fun h => MailD7.p47arrrr (callB Try.prog 0 [9] (k + 199)) (k + 199) h (fun x4 h => some (x4, h))) (ld_pk g2 (i := 22) (v := f.w) rfl) (ld_pk g3 (i := 22) (v := g.w) rfl) sw2 sv2 hl (by have := hp; unfold PkD.Small at this; omega) p.subs.length 0 (k + 199) (by omega) (by have := hp; unfold PkD.Small at this; omega)
      have e' : MailD7.p47arrrlrbw (callB Try.prog 0 [9] (k + 199)) (k + 199) (fun x4 h => some (x4, h)) (fun h => MailD7.p47arrrr (callB Try.prog 0 [9] (k + 199)) (k + 199) h (fun x4 h => some (x4, h))) (k + 199) (.int .i64 0) (ptrV h1.next) (ptrV h.next) h2 = _ := e
      have ee : decide (All2 Eq (p.subs.drop 0) (q.subs.drop 0)) = decide (p.subs = q.subs) := decide_eq_decide.2 (by simp [all2_eq])
      rw [ee] at e'
      simp only [decide_eq_true cb, Bool.not_true, MailD7.p47arrlr, condV_bool, cond_false, MailD7.p47arrr, MailD7.p47arrrl, MailD7.p47arrrll, MailD7.p47arrrlr, MailD7.p47arrrlrb]
      rw [e']
      have hEP : EqP f g := by
        obtain ⟨q0, q1, q2, q3, q4, q5, q6, q7, q8, q9, q10⟩ := ca
        obtain ⟨q11, ⟨q12, q13, q14, q15⟩, q16, q17, q18, q19, q20, q21, q23, ql⟩ := cb
        exact ⟨q0, q1, q2, q3, q4, q5, q6, q7, q8, q9, q10, q11, q12, q13, q14, q15, q16, q17, q18, q19, q20, q21, q23⟩
      by_cases hs : p.subs = q.subs
      · simp only [decide_eq_true hs, cond_true, MailD7.p47arrrr, decide_eq_true (hE.2 ⟨hEP, hs⟩)]
      · have hn : ¬ SameP p q := fun h => hs (hE.1 h).2
        simp only [decide_eq_false hs, cond_false, decide_eq_false hn]
    · have hn : ¬ SameP p q := fun hsm => cb (by
        obtain ⟨⟨q0, q1, q2, q3, q4, q5, q6, q7, q8, q9, q10, q11, q12, q13, q14, q15, q16, q17, q18, q19, q20, q21, q23⟩, hs⟩ := hE.1 hsm
        exact ⟨q11, ⟨q12, q13, q14, q15⟩, q16, q17, q18, q19, q20, q21, q23, by rw [hs]⟩)
      simp only [decide_eq_false cb, Bool.not_false, MailD7.p47arrlr, condV_bool, cond_true, decide_eq_false hn]
  · have hn : ¬ SameP p q := fun hsm => ca (by
      obtain ⟨⟨q0, q1, q2, q3, q4, q5, q6, q7, q8, q9, q10, q11, q12, q13, q14, q15, q16, q17, q18, q19, q20, q21, q23⟩, hs⟩ := hE.1 hsm
      exact ⟨q0, q1, q2, q3, q4, q5, q6, q7, q8, q9, q10⟩)
    simp only [decide_eq_false ca, Bool.not_false, MailD7.p47arlr, condV_bool, cond_true, decide_eq_false hn]

/-- A packet laid flat. -/
def plainF (f : PkF) : List Value := [.int .u8 (f.i 0), .int .u8 (f.i 2), .int .u8 (f.i 7), .int .u8 (f.i 21), .bool (f.b 1), .bool (f.b 3), .bool (f.b 8), .bool (f.b 11), .bool (f.b 16), .bool (f.b 17), .bool (f.b 20), .int .u16 (f.i 4), .int .u16 (f.i 9), .string (f.s 5), .string (f.s 6), .string (f.s 10), .string (f.s 18), .string (f.s 19), .string (f.s 23), .string (f.s 12), .string (f.s 13), .int .u8 (f.i 14), .bool (f.b 15)]
theorem build87 (f : PkF) : A.build MailD7.Z87L [(0, 1, .int .u8 (f.i 0)), (1, 1, .int .u8 (f.i 2)), (2, 1, .int .u8 (f.i 7)), (3, 1, .int .u8 (f.i 21)), (4, 1, .bool (f.b 1)), (5, 1, .bool (f.b 3)), (6, 1, .bool (f.b 8)), (7, 1, .bool (f.b 11)), (8, 1, .bool (f.b 16)), (9, 1, .bool (f.b 17)), (10, 1, .bool (f.b 20)), (11, 1, .int .u16 (f.i 4)), (12, 1, .int .u16 (f.i 9)), (13, 1, .string (f.s 5)), (14, 1, .string (f.s 6)), (15, 1, .string (f.s 10)), (16, 1, .string (f.s 18)), (17, 1, .string (f.s 19)), (18, 1, .string (f.s 23)), (19, 4, .agg ⟨[.string (f.s 12), .string (f.s 13), .int .u8 (f.i 14), .bool (f.b 15)]⟩)] = some (.agg ⟨plainF f⟩) := by kernel_rfl
theorem splice87 (f : PkF) : splice MailD7.Z87L 0 (plainF f) = plainF f := by kernel_rfl
theorem T54 (k : Nat) (h : H) (f : PkF) : ∃ h', callB Try.prog 0 [9] (k + 1) 54 [.agg ⟨f.cells⟩] h = some (.agg ⟨plainF f⟩, h') ∧ Ext h h' := by
  rw [MailD7.F54eq [9] rfl]
  obtain ⟨h1, hh1⟩ : ∃ h1, h1 = h.push (.cells f.cells (some 0)) := ⟨_, rfl⟩
  obtain ⟨h2, hh2⟩ : ∃ h2, h2 = h1.push (.cells MailD7.Z87L (some 0)) := ⟨_, rfl⟩
  have b1 : A.box 24 (.agg ⟨f.cells⟩) h = some (ptrV h.next, h1) := by rw [hh1]; rfl
  have b2 : A.box 23 MailD7.Z87 h1 = some (ptrV h1.next, h2) := by rw [hh2]; rfl
  have x1 : Ext h h1 := hh1 ▸ Ext.push h _
  have x2 : Ext h1 h2 := hh2 ▸ Ext.push h1 _
  have n1 : h1.next = h.next + 1 := by rw [hh1]; rfl
  have g2 : h2.get h.next = some (.cells f.cells (some 0)) := by rw [x2.get _ (by omega), hh1, H.get_push, if_pos rfl]
  have g3 : h2.get h1.next = some (.cells MailD7.Z87L (some 0)) := by rw [hh2, H.get_push, if_pos rfl]
  have a0 := ld_pk g2 (i := 0) (v := .int .u8 (f.i 0)) rfl
  have a2 := ld_pk g2 (i := 2) (v := .int .u8 (f.i 2)) rfl
  have a7 := ld_pk g2 (i := 7) (v := .int .u8 (f.i 7)) rfl
  have a21 := ld_pk g2 (i := 21) (v := .int .u8 (f.i 21)) rfl
  have a1 := ld_pk g2 (i := 1) (v := .bool (f.b 1)) rfl
  have a3 := ld_pk g2 (i := 3) (v := .bool (f.b 3)) rfl
  have a8 := ld_pk g2 (i := 8) (v := .bool (f.b 8)) rfl
  have a11 := ld_pk g2 (i := 11) (v := .bool (f.b 11)) rfl
  have a16 := ld_pk g2 (i := 16) (v := .bool (f.b 16)) rfl
  have a17 := ld_pk g2 (i := 17) (v := .bool (f.b 17)) rfl
  have a20 := ld_pk g2 (i := 20) (v := .bool (f.b 20)) rfl
  have a4 := ld_pk g2 (i := 4) (v := .int .u16 (f.i 4)) rfl
  have a9 := ld_pk g2 (i := 9) (v := .int .u16 (f.i 9)) rfl
  have a5 := ld_pk g2 (i := 5) (v := .string (f.s 5)) rfl
  have a6 := ld_pk g2 (i := 6) (v := .string (f.s 6)) rfl
  have a10 := ld_pk g2 (i := 10) (v := .string (f.s 10)) rfl
  have a18 := ld_pk g2 (i := 18) (v := .string (f.s 18)) rfl
  have a19 := ld_pk g2 (i := 19) (v := .string (f.s 19)) rfl
  have a23 := ld_pk g2 (i := 23) (v := .string (f.s 23)) rfl
  have aw := ld_will g2
  obtain ⟨h3, hh3⟩ : ∃ h3, h3 = h2.put h1.next (.cells (plainF f) (some 0)) := ⟨_, rfl⟩
  have es : A.store 23 (ptrV h1.next) (.agg ⟨plainF f⟩) h2 = some h3 := by
    rw [store_eq, g3, hh3]
    have c1 : Nat.beq (plainF f).length 23 = true := rfl
    have c2 : Nat.ble (0 + 23) MailD7.Z87L.length = true := rfl
    simp only [cellsL_agg, c1, c2, Bool.and_self, cond_true, splice87]
  have gr : h3.get h1.next = some (.cells (plainF f) (some 0)) := by rw [hh3, H.get_put, if_pos rfl]
  have lr : A.load true 23 (ptrV h1.next) h3 = some (.agg ⟨plainF f⟩) := by rw [loadN_eq, gr]; rfl
  have bl := build87 f
  refine ⟨h3, ?_, hh3 ▸ (x1.trans x2).put _ _ (by omega)⟩
  simp only [MailD7.F54, MailD7.p54a, MailD7.p54al, b1, b2, bnd2_some, MailD7.p54ar, MailD7.p54arl, fieldAddr_eq, Nat.zero_add, bnd_some, toBK_bool, aw, a0, a2, a7, a21, a1, a3, a8, a11, a16, a17, a20, a4, a9, a5, a6, a10, a18, a19, a23, bl, es, MailD7.p54arr, lr, resC, packA]

theorem plain_eqv (f g : PkF) : A.eqV Try.prog 20 87 (.agg ⟨plainF f⟩) (.agg ⟨plainF g⟩) = some (decide (EqP f g)) := by
  have e : A.eqV Try.prog 20 87 (.agg ⟨plainF f⟩) (.agg ⟨plainF g⟩) = (bif (f.i 0 == g.i 0) then (bif (f.i 2 == g.i 2) then (bif (f.i 7 == g.i 7) then (bif (f.i 21 == g.i 21) then (bif (f.b 1 == g.b 1) then (bif (f.b 3 == g.b 3) then (bif (f.b 8 == g.b 8) then (bif (f.b 11 == g.b 11) then (bif (f.b 16 == g.b 16) then (bif (f.b 17 == g.b 17) then (bif (f.b 20 == g.b 20) then (bif (f.i 4 == g.i 4) then (bif (f.i 9 == g.i 9) then (bif ((f.s 5).data.toList == (g.s 5).data.toList) then (bif ((f.s 6).data.toList == (g.s 6).data.toList) then (bif ((f.s 10).data.toList == (g.s 10).data.toList) then (bif ((f.s 18).data.toList == (g.s 18).data.toList) then (bif ((f.s 19).data.toList == (g.s 19).data.toList) then (bif ((f.s 23).data.toList == (g.s 23).data.toList) then (match (bif ((f.s 12).data.toList == (g.s 12).data.toList) then (bif ((f.s 13).data.toList == (g.s 13).data.toList) then (bif (f.i 14 == g.i 14) then (bif (f.b 15 == g.b 15) then some true else some false) else some false) else some false) else some false) with | some q => (bif q then some true else some false) | none => none) else some false) else some false) else some false) else some false) else some false) else some false) else some false) else some false) else some false) else some false) else some false) else some false) else some false) else some false) else some false) else some false) else some false) else some false) else some false) := by kernel_rfl
  rw [e]
  simp only [bytes_beq, int_beq, bool_beq]
  have hw : (bif decide (f.s 12 = g.s 12) then (bif decide (f.s 13 = g.s 13) then (bif decide (f.i 14 = g.i 14) then (bif decide (f.b 15 = g.b 15) then some true else some false) else some false) else some false) else some false) = some (decide (f.s 12 = g.s 12 ∧ f.s 13 = g.s 13 ∧ f.i 14 = g.i 14 ∧ f.b 15 = g.b 15)) := by
    refine and_step (F := some) (and_step (F := some) (and_step (F := some) ?_))
    cases decide (f.b 15 = g.b 15) <;> rfl
  have hc : decide (EqP f g) = decide (f.i 0 = g.i 0 ∧ f.i 2 = g.i 2 ∧ f.i 7 = g.i 7 ∧ f.i 21 = g.i 21 ∧ f.b 1 = g.b 1 ∧ f.b 3 = g.b 3 ∧ f.b 8 = g.b 8 ∧ f.b 11 = g.b 11 ∧ f.b 16 = g.b 16 ∧ f.b 17 = g.b 17 ∧ f.b 20 = g.b 20 ∧ f.i 4 = g.i 4 ∧ f.i 9 = g.i 9 ∧ f.s 5 = g.s 5 ∧ f.s 6 = g.s 6 ∧ f.s 10 = g.s 10 ∧ f.s 18 = g.s 18 ∧ f.s 19 = g.s 19 ∧ f.s 23 = g.s 23 ∧ (f.s 12 = g.s 12 ∧ f.s 13 = g.s 13 ∧ f.i 14 = g.i 14 ∧ f.b 15 = g.b 15)) := decide_eq_decide.2 ⟨fun ⟨q0, q1, q2, q3, q4, q5, q6, q7, q8, q9, q10, q11, q12, q13, q14, q15, q16, q17, q18, q19, q20, q21, q23⟩ => ⟨q0, q2, q7, q21, q1, q3, q8, q11, q16, q17, q20, q4, q9, q5, q6, q10, q18, q19, q23, ⟨q12, q13, q14, q15⟩⟩, fun ⟨q0, q2, q7, q21, q1, q3, q8, q11, q16, q17, q20, q4, q9, q5, q6, q10, q18, q19, q23, ⟨q12, q13, q14, q15⟩⟩ => ⟨q0, q1, q2, q3, q4, q5, q6, q7, q8, q9, q10, q11, q12, q13, q14, q15, q16, q17, q18, q19, q20, q21, q23⟩⟩
  rw [hc, hw]
  refine and_step (F := some) (and_step (F := some) (and_step (F := some) (and_step (F := some) (and_step (F := some) (and_step (F := some) (and_step (F := some) (and_step (F := some) (and_step (F := some) (and_step (F := some) (and_step (F := some) (and_step (F := some) (and_step (F := some) (and_step (F := some) (and_step (F := some) (and_step (F := some) (and_step (F := some) (and_step (F := some) (and_step (F := some) (?_)))))))))))))))))))
  cases decide (f.s 12 = g.s 12 ∧ f.s 13 = g.s 13 ∧ f.i 14 = g.i 14 ∧ f.b 15 = g.b 15) <;> rfl
theorem plain_neq (f g : PkF) : A.bin Try.prog .neq 87 (.agg ⟨plainF f⟩) (.agg ⟨plainF g⟩) = some (.bool (!decide (EqP f g))) := bin_agg_neq rfl rfl (by kernel_rfl) (plain_eqv f g)

theorem cells_same (f : PkF) (hw : same f.w f.w = true) : same (.agg ⟨f.cells⟩) (.agg ⟨f.cells⟩) = true := by
  have hb : ∀ b : Bool, (bif b then b else (bif b then false else true)) = true := fun b => by cases b <;> rfl
  simp [same, sameA, PkF.cells, sameL, hw, hb, kind_beq]

theorem lp50 (k L : Nat) {β : Type} (kr : Value → H → Option β) (kx : H → Option β) {h0 : H} {t3 : Nat} {a : Value} (ht : t3 < h0.next) {g : PkF} {o : Option Nat} (gg : h0.get t3 = some (.cells g.cells o)) {x y : List SbD} (sa : SliceE 2 h0 a (x.map sbC)) (sb : SliceE 2 h0 g.w (y.map sbC)) (hl : x.length = y.length) (hx : x.length ≤ 1000) :
    ∀ (d i m : Nat) (h : H), i + d = x.length → d < m → Ext h0 h → ∃ h', Ext h0 h' ∧ MailD7.p50arrlrbw (callB Try.prog 0 [9] k) L kr kx m (.int .i64 (x.length : Int)) (.int .i64 (i : Int)) (ptrV t3) a h = bif decide (All2 Eq (x.drop i) (y.drop i)) then kx h' else kr (.bool false) h' := by
  intro d
  induction d with
  | zero =>
    intro i m h hi hm xx
    obtain ⟨m, rfl⟩ : ∃ q, m = q + 1 := ⟨m - 1, by omega⟩
    have hd : decide ((i : Int) < (x.length : Int)) = false := by rw [decide_eq_false_iff_not]; omega
    have ha : decide (All2 Eq (x.drop i) (y.drop i)) = true := by rw [decide_eq_true_iff, List.drop_eq_nil_of_le (by omega), List.drop_eq_nil_of_le (by omega)]; exact All2.nil
    refine ⟨h, xx, ?_⟩
    simp only [MailD7.p50arrlrbw, MailD7.p50arrlrbo, bnd_some, bin_lss, hd, toBK_bool, condV_bool, cond_false, ha, cond_true]
  | succ d ih =>
    intro i m h hi hm xx
    obtain ⟨m, rfl⟩ : ∃ q, m = q + 1 := ⟨m - 1, by omega⟩
    have hd : decide ((i : Int) < (x.length : Int)) = true := by rw [decide_eq_true_iff]; omega
    have hwr : IntKind.i64.wrap ((i : Int) + 1) = ((i + 1 : Nat) : Int) := wrap_succ (by omega)
    obtain ⟨u, hu⟩ : ∃ u, x[i]? = some u := ⟨_, List.getElem?_eq_getElem (by omega)⟩
    obtain ⟨v, hv⟩ : ∃ v, y[i]? = some v := ⟨_, List.getElem?_eq_getElem (by omega)⟩
    obtain ⟨id1, off1, cells1, own1, e11, _, e31, e41, e51, e61⟩ := (sa.ext xx).at (e := sbC u) (by rw [List.getElem?_map, hu]; rfl) .i64
    have l1 : A.load true 2 (.pointer (some ⟨id1, off1, none⟩)) h = some (.agg ⟨sbC u⟩) := load_of e31 e41 e51
    obtain ⟨h1, hh1⟩ : ∃ h1, h1 = h.push (.cells MailD7.Z75L (some 0)) := ⟨_, rfl⟩
    have b1 : A.box 2 MailD7.Z75 h = some (ptrV h.next, h1) := by rw [hh1]; rfl
    have g1 : h1.get h.next = some (.cells MailD7.Z75L (some 0)) := by rw [hh1, H.get_push, if_pos rfl]
    obtain ⟨h2, hh2⟩ : ∃ h2, h2 = h1.put h.next (.cells (sbC u) (some 0)) := ⟨_, rfl⟩
    have s1 : A.store 2 (ptrV h.next) (.agg ⟨sbC u⟩) h1 = some h2 := by rw [store_eq, g1, hh2]; rfl
    have x2 : Ext h h2 := by rw [hh2, hh1]; exact (Ext.push h _).put _ _ (Nat.le_refl _)
    have xx2 := xx.trans x2
    have gt : h2.get h.next = some (.cells (sbC u) (some 0)) := by rw [hh2, H.get_put, if_pos rfl]
    have lt : A.load true 2 (ptrV h.next) h2 = some (.agg ⟨sbC u⟩) := by rw [loadN_eq, gt]; rfl
    have gw : A.load false 1 (.pointer (some ⟨t3, 22, none⟩)) h2 = some g.w := ld_pk (by rw [xx2.get _ ht]; exact gg) rfl
    obtain ⟨id2, off2, cells2, own2, e12, _, e32, e42, e52, e62⟩ := (sb.ext xx2).at (e := sbC v) (by rw [List.getElem?_map, hv]; rfl) .i64
    have l2 : A.load true 2 (.pointer (some ⟨id2, off2, none⟩)) h2 = some (.agg ⟨sbC v⟩) := load_of e32 e42 e52
    have hA := all2_drop (R := Eq) hu hv
    by_cases c : u = v
    · have hA2 : decide (All2 Eq (x.drop i) (y.drop i)) = decide (All2 Eq (x.drop (i + 1)) (y.drop (i + 1))) := decide_eq_decide.2 (by rw [hA]; simp [c])
      have c2 : (!decide (u = v)) = false := by simp [c]
      obtain ⟨h', x', e⟩ := ih (i + 1) m h2 (by omega) (by omega) xx2
      refine ⟨h', x', ?_⟩
      simp only [MailD7.p50arrlrbw, MailD7.p50arrlrbo, bnd_some, bin_lss, hd, toBK_bool, condV_bool, cond_true, cond_false, e11, l1, b1, bnd2_some, s1, lt, fieldAddr_eq, Nat.zero_add, gw, e12, l2, sub_neq, c2, bin_add, hwr, hA2]
      exact e
    · have hA2 : decide (All2 Eq (x.drop i) (y.drop i)) = false := by rw [decide_eq_false_iff_not, hA]; exact fun h => c h.1
      have c2 : (!decide (u = v)) = true := by simp [c]
      refine ⟨h2, xx2, ?_⟩
      simp only [MailD7.p50arrlrbw, MailD7.p50arrlrbo, bnd_some, bin_lss, hd, toBK_bool, condV_bool, cond_true, cond_false, e11, l1, b1, bnd2_some, s1, lt, fieldAddr_eq, Nat.zero_add, gw, e12, l2, sub_neq, c2, hA2]

theorem T50 (k : Nat) {h : H} {x y : List Value} {p q : PkD} (px : PkIn SliceE h x p) (py : PkIn SliceE h y q) (hp : p.Small) : ∃ h', callB Try.prog 0 [9] (k + 200) 50 [.agg ⟨x⟩, .agg ⟨y⟩] h = some (.bool (decide (SameP p q)), h') ∧ Ext h h' := by
  obtain ⟨w, rfl, sw⟩ := px
  obtain ⟨v, rfl, sv⟩ := py
  obtain ⟨f, hf⟩ : ∃ f : PkF, f = { p.f with w := w } := ⟨_, rfl⟩
  obtain ⟨g, hg⟩ : ∃ g : PkF, g = { q.f with w := v } := ⟨_, rfl⟩
  have ef : p.cells w = f.cells := by rw [hf]; rfl
  have eg : q.cells v = g.cells := by rw [hg]; rfl
  have hE : SameP p q ↔ EqP f g ∧ p.subs = q.subs := by rw [hf, hg]; exact Iff.rfl
  have sw : SliceE 2 h f.w (p.subs.map sbC) := by rw [hf]; exact sw
  have sv : SliceE 2 h g.w (q.subs.map sbC) := by rw [hg]; exact sv
  rw [ef, eg, MailD7.F50eq [9] rfl]
  clear hf hg ef eg
  obtain ⟨h1, hh1⟩ : ∃ h1, h1 = h.push (.cells f.cells (some 0)) := ⟨_, rfl⟩
  obtain ⟨h2, hh2⟩ : ∃ h2, h2 = h1.push (.cells g.cells (some 0)) := ⟨_, rfl⟩
  have b1 : A.box 24 (.agg ⟨f.cells⟩) h = some (ptrV h.next, h1) := by rw [hh1]; rfl
  have b2 : A.box 24 (.agg ⟨g.cells⟩) h1 = some (ptrV h1.next, h2) := by rw [hh2]; rfl
  have x1 : Ext h h1 := hh1 ▸ Ext.push h _
  have x2 : Ext h1 h2 := hh2 ▸ Ext.push h1 _
  have n1 : h1.next = h.next + 1 := by rw [hh1]; rfl
  have n2 : h2.next = h1.next + 1 := by rw [hh2]; rfl
  have g2 : h2.get h.next = some (.cells f.cells (some 0)) := by rw [x2.get _ (by omega), hh1, H.get_push, if_pos rfl]
  have g3 : h2.get h1.next = some (.cells g.cells (some 0)) := by rw [hh2, H.get_push, if_pos rfl]
  obtain ⟨h3, e3, x3⟩ := T54 (k + 198) h2 f
  have g33 : h3.get h1.next = some (.cells g.cells (some 0)) := by rw [x3.get _ (by omega)]; exact g3
  obtain ⟨h4, e4, x4⟩ := T54 (k + 198) h3 g
  have nx3 := x3.next
  have x24 := x3.trans x4
  have g24 : h4.get h.next = some (.cells f.cells (some 0)) := by rw [x24.get _ (by omega)]; exact g2
  have g34 : h4.get h1.next = some (.cells g.cells (some 0)) := by rw [x24.get _ (by omega)]; exact g3
  have x04 := (x1.trans x2).trans x24
  have kc : chk (bnd (A.load true 24 (ptrV h1.next) h2) fun v => some v) (.agg ⟨g.cells⟩) = true := chk_same _ (ld_all g3) (cells_same g sv.same)
  have lf : A.lenS f.w = some (.int .i64 (p.subs.length : Int)) := by have := sw.len.1; rwa [List.length_map] at this
  have lg : A.lenS g.w = some (.int .i64 (q.subs.length : Int)) := by have := sv.len.1; rwa [List.length_map] at this
  have w2 := ld_pk g24 (i := 22) (v := f.w) rfl
  have w3 := ld_pk g34 (i := 22) (v := g.w) rfl
  have hd : MailD7.F50 (callB Try.prog 0 [9] (k + 199)) (k + 199) (.agg ⟨f.cells⟩) (.agg ⟨g.cells⟩) h = bif !decide (EqP f g) then some (.bool false, h4) else (bif !decide ((p.subs.length : Int) = (q.subs.length : Int)) then some (.bool false, h4) else
      MailD7.p50arrlrbw (callB Try.prog 0 [9] (k + 199)) (k + 199) (fun x4 h => some (x4, h)) (fun h => MailD7.p50arrr (callB Try.prog 0 [9] (k + 199)) (k + 199) h (fun x4 h => some (x4, h))) (k + 199) (.int .i64 (p.subs.length : Int)) (.int .i64 ((0 : Nat) : Int)) (ptrV h1.next) f.w h4) := by
    have la2 := ld_all g2
    have la3 := ld_all g33
    simp only [MailD7.F50, MailD7.p50a, MailD7.p50al, b1, b2, bnd2_some, MailD7.p50ar, MailD7.p50arl, la2, e3, la3, kc, bnd_some, e4, Bool.and_true, cond_true, plain_neq, toBK_bool, fieldAddr_eq, Nat.zero_add, w2, w3, lf, lg, bin_neq, MailD7.p50arr, MailD7.p50arrl, MailD7.p50arrll, MailD7.p50arrlr, MailD7.p50arrlrb]
    rfl
  rw [hd]
  by_cases ca : EqP f g
  · by_cases hl : p.subs.length = q.subs.length
    · have cl : (!decide ((p.subs.length : Int) = (q.subs.length : Int))) = false := by simp [hl]
      obtain ⟨h', x', e⟩ := lp50 (k + 199) (k + 199) (fun x4 h => some (x4, h)) (fun h => MailD7.p50arrr (callB Try.prog 0 [9] (k + 199)) (k + 199) h (fun x4 h => some (x4, h))) (h0 := h4) (t3 := h1.next) (by have := x24.next; omega) g34 (sw.ext x04) (sv.ext x04) hl (by have := hp; unfold PkD.Small at this; omega) p.subs.length 0 (k + 199) h4 (by omega) (by have := hp; unfold PkD.Small at this; omega) (Ext.refl _)
      have ee : decide (All2 Eq (p.subs.drop 0) (q.subs.drop 0)) = decide (p.subs = q.subs) := decide_eq_decide.2 (by simp [all2_eq])
      rw [ee] at e
      refine ⟨h', ?_, x04.trans x'⟩
      rw [cl, decide_eq_true ca, e]
      by_cases hs : p.subs = q.subs
      · simp only [decide_eq_true hs, Bool.not_true, cond_false, cond_true, MailD7.p50arrr, decide_eq_true (hE.2 ⟨ca, hs⟩)]
      · have hn : ¬ SameP p q := fun h => hs (hE.1 h).2
        simp only [decide_eq_false hs, Bool.not_true, cond_false, decide_eq_false hn]
    · have cl : (!decide ((p.subs.length : Int) = (q.subs.length : Int))) = true := by simp; omega
      have hn : ¬ SameP p q := fun h => hl (by rw [(hE.1 h).2])
      refine ⟨h4, ?_, x04⟩
      rw [cl, decide_eq_true ca, decide_eq_false hn]
      rfl
  · have hn : ¬ SameP p q := fun h => ca (hE.1 h).1
    refine ⟨h4, ?_, x04⟩
    rw [decide_eq_false ca, decide_eq_false hn]
    rfl
end Go.Proofs.Ytdjhkdogpbiglaa.MailD
