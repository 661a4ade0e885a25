/-
  Mail: any command is copied, as a whole.
-/
import Derived.Test.YtdjhkdogpbiglaaMailCG
namespace Go.Proofs.Ytdjhkdogpbiglaa.MailD
open Go Go.AM

theorem mid_get {A cs B : List Value} (ha : A.length = 5) (hc : cs.length = 24) (j : Nat) : (A ++ cs ++ B)[29 + j]? = B[j]? := by
  rw [List.getElem?_append_right (by simp; omega)]
  congr 1
  simp; omega
theorem mid_set {A cs B : List Value} (ha : A.length = 5) (hc : cs.length = 24) (j : Nat) (v : Value) : (A ++ cs ++ B).set (29 + j) v = A ++ cs ++ B.set j v := by
  rw [List.set_append_right _ _ (by simp; omega)]
  congr 2
  simp; omega

theorem storeB {g : H} {t : Nat} {A cs B : List Value} (ha : A.length = 5) (hc : cs.length = 24) (hb : B.length = 9) (hg : g.get t = some (.cells (A ++ cs ++ B) (some 0))) {j : Nat} (hj : j < 9) {v : Value} (hv : cellsL v = some [v]) :
    AM.A.store 1 (.pointer (some ⟨t, 29 + j, none⟩)) v g = some (g.put t (.cells (A ++ cs ++ B.set j v) (some 0))) := by
  rw [store_eq, hg, hv]
  have c1 : Nat.beq [v].length 1 = true := rfl
  have c2 : Nat.ble (29 + j + 1) (A ++ cs ++ B).length = true := by rw [ble_dec, decide_eq_true_iff]; simp; omega
  simp only [c1, c2, Bool.and_self, cond_true]
  rw [splice_one (by simp; omega), mid_set ha hc]

/-- Its packets. -/
theorem pksC (k L : Nat) {β : Type} (kx : Value → Value → Value → Value → Value → Value → H → Option β) {h0 : H} {t b : Nat} {itc : List Value} {w : Value} (hw : itc[35]? = some w) (ht : t < b) (h0b : h0.next ≤ b) {els : List (List Value)} (he : ∀ y ∈ els, PkB h0 y) (hl : els.length ≤ 20) (x4 x12 x11 x10 x3 : Value) :
    ∀ (d i m : Nat) (h : H) (cur : List (List Value)), i + d = els.length → d < m → Ext h0 h → h.get t = some (.cells itc (some 0)) → b ≤ h.next → Cl 24 h w cur b → cur.length = els.length → (∀ j, i ≤ j → cur[j]? = els[j]?) →
      ∃ h', p32arrlrborrlbrrrrrlrbw (callB Try.prog 0 [9] (k + 1)) L kx m (.int .i64 (els.length : Int)) (.int .i64 (i : Int)) w x4 (ptrV t) x12 x11 x10 x3 h = kx x4 (ptrV t) x12 x11 x10 x3 h' ∧ h.next ≤ h'.next ∧ ∀ j, j < b → h'.get j = h.get j := by
  intro d
  induction d with
  | zero =>
    intro i m h cur hi hm x hg hb c hcl hcur
    obtain ⟨m, rfl⟩ : ∃ q, m = q + 1 := ⟨m - 1, by omega⟩
    have hd : decide ((i : Int) < (els.length : Int)) = false := by rw [decide_eq_false_iff_not]; omega
    refine ⟨h, ?_, Nat.le_refl _, fun _ _ => rfl⟩
    simp only [p32arrlrborrlbrrrrrlrbw, p32arrlrborrlbrrrrrlrbo, bin_lss, hd, bnd_some, condV_bool, cond_false]
  | succ d ih =>
    intro i m h cur hi hm x hg hb c hcl hcur
    obtain ⟨m, rfl⟩ : ∃ q, m = q + 1 := ⟨m - 1, by omega⟩
    have hd : decide ((i : Int) < (els.length : Int)) = true := by rw [decide_eq_true_iff]; omega
    have hwr : IntKind.i64.wrap ((i : Int) + 1) = ((i + 1 : Nat) : Int) := wrap_succ (by omega)
    have hil : i < els.length := by omega
    have hic : i < cur.length := by omega
    obtain ⟨f, e22, hx, s22, c22, l22⟩ := he _ (List.getElem_mem hil)
    obtain ⟨q, ix, bq, hsw, ld, st⟩ := c.at hic
    have hci : cur[i] = f.cells := by
      have := hcur i (Nat.le_refl _)
      rw [List.getElem?_eq_getElem hic, List.getElem?_eq_getElem hil] at this
      rw [Option.some.inj this, hx]
    rw [hci] at ld
    have fl : f.cells.length = 24 := rfl
    obtain ⟨t7, ht7⟩ : ∃ t7, t7 = h.next := ⟨_, rfl⟩
    have b1 : AM.A.box 24 Z66 h = some (ptrV t7, h.push (.cells Z66L (some 0))) := by rw [ht7]; rfl
    have gz : (h.push (.cells Z66L (some 0))).get t7 = some (.cells Z66L (some 0)) := by rw [H.get_push, if_pos ht7]
    obtain ⟨h2, hh2⟩ : ∃ h2, h2 = (h.push (.cells Z66L (some 0))).put t7 (.cells f.cells (some 0)) := ⟨_, rfl⟩
    have s1 : AM.A.store 24 (ptrV t7) (.agg ⟨f.cells⟩) (h.push (.cells Z66L (some 0))) = some h2 := by rw [store_eq, gz, hh2]; rfl
    have x2 : Ext h h2 := hh2 ▸ (Ext.push h _).put _ _ (by omega)
    have n2 : h2.next = h.next + 1 := by rw [hh2]; rfl
    have g7 : h2.get t7 = some (.cells f.cells (some 0)) := by rw [hh2, H.get_put, if_pos rfl]
    have gt2 : h2.get t = some (.cells itc (some 0)) := by rw [x2.get t (by omega)]; exact hg
    have lw2 : AM.A.load false 1 (.pointer (some ⟨t, 35, none⟩)) h2 = some w := by rw [load1_eq, gt2]; exact hw
    have l7 : AM.A.load true 24 (ptrV t7) h2 = some (.agg ⟨f.cells⟩) := by rw [loadN_eq, g7]; rfl
    obtain ⟨cs, h3, e42, csl, x3'⟩ := T42g k ((s22.ext x).ext x2) l22
    have lw3 : AM.A.load false 1 (.pointer (some ⟨t, 35, none⟩)) h3 = some w := by rw [load1_eq, x3'.get t (by omega), gt2]; exact hw
    have kc := chk_same _ lw3 c.same
    have hqn : q < h.next := by
      rcases c.2 with ⟨h1, _⟩ | ⟨q', hv, _, hq', _⟩
      · rw [h1] at hic; simp at hic
      · have : sid w = some q' := by rw [hv]; rfl
        have h2' := hsw
        rw [this] at h2'
        have := Option.some.inj h2'
        omega
    have nx3 := x3'.next
    obtain ⟨es, c4⟩ := st cs h3 csl (by rw [x3'.get q (by omega), x2.get q hqn]) (by omega)
    obtain ⟨h4, hh4⟩ : ∃ h4, h4 = h3.put q (.cells (cur.set i cs).flatten (some 24)) := ⟨_, rfl⟩
    rw [← hh4] at es c4
    have n4 : h4.next = h3.next := by rw [hh4]; rfl
    have keep : ∀ j, j < b → h4.get j = h.get j := fun j hj => by rw [hh4, H.get_put, if_neg (by omega), x3'.get j (by omega), x2.get j (by omega)]
    have x4' : Ext h0 h4 := ⟨by have := x.next; omega, fun j hj => by rw [keep j (by omega)]; exact x.get j hj⟩
    obtain ⟨h', e, hn, hk⟩ := ih (i + 1) m h4 (cur.set i cs) (by omega) (by omega) x4' (by rw [keep t ht]; exact hg) (by omega) c4 (by rw [List.length_set]; exact hcl) (fun j hj => by rw [List.getElem?_set, if_neg (by omega)]; exact hcur j (by omega))
    refine ⟨h', ?_, by omega, fun j hj => by rw [hk j hj, keep j hj]⟩
    simp only [p32arrlrborrlbrrrrrlrbw, p32arrlrborrlbrrrrrlrbo, bin_lss, hd, bnd_some, condV_bool, cond_true, ix, ld, b1, bnd2_some, s1, fieldAddr_eq, Nat.zero_add, lw2, l7, e42, kc, Bool.and_true, es, bin_add, hwr]
    exact e

/-- One item. -/
theorem round32g (k L : Nat) (hL : 100 ≤ L) {β : Type} (kn : Value → Value → Value → Value → H → Option β) {h0 hS h : H} (x0S : Ext h0 hS) (xS : Ext hS h) {x3 : Value} {cur : List (List Value)} (c : Cl 38 h x3 cur hS.next) {i n : Nat} (hi : i < cur.length) (hc : ItB h0 cur[i]) :
    ∃ h' new, p32arrlrborrlb (callB Try.prog 0 [9] (k + 1)) L (.int .i64 (i : Int)) (.int .i64 (n : Int)) x3 x3 h kn = kn (.int .i64 (i : Int)) (.int .i64 (n : Int)) x3 x3 h' ∧ Cl 38 h' x3 (cur.set i new) hS.next ∧ Ext hS h' := by
  obtain ⟨q, ix, bq, hsq, ld, st⟩ := c.at hi
  obtain ⟨it, hit⟩ : ∃ it, it = cur[i] := ⟨_, rfl⟩
  rw [← hit] at hc ld
  obtain ⟨kd, op, cn, s3, s4, f, s29, s30, qq, r, w33, w34, w35, fr, mn, e22, e33, e34, e35, R, l22, l33, l34, l35, p35⟩ := hc
  have x0 := x0S.trans xS
  have nxS := xS.next
  have hqn : q < h.next := by
    rcases c.2 with ⟨h1, _⟩ | ⟨q', hv, _, hq', _⟩
    · rw [h1] at hi; simp at hi
    · have : sid x3 = some q' := by rw [hv]; rfl
      rw [this] at hsq
      have := Option.some.inj hsq
      omega
  obtain ⟨A, hA⟩ : ∃ A : List Value, A = [kd, op, cn, .string s3, .string s4] := ⟨_, rfl⟩
  have hAl : A.length = 5 := by rw [hA]; rfl
  have itl : it.length = 38 := by rw [R.eq]; rfl
  obtain ⟨t, ht⟩ : ∃ t, t = h.next := ⟨_, rfl⟩
  have b1 : AM.A.box 38 Z71 h = some (ptrV t, h.push (.cells Z71L (some 0))) := by rw [ht]; rfl
  have gz : (h.push (.cells Z71L (some 0))).get t = some (.cells Z71L (some 0)) := by rw [H.get_push, if_pos ht]
  obtain ⟨h1, hh1⟩ : ∃ h1, h1 = (h.push (.cells Z71L (some 0))).put t (.cells it (some 0)) := ⟨_, rfl⟩
  have s1 : AM.A.store 38 (ptrV t) (.agg ⟨it⟩) (h.push (.cells Z71L (some 0))) = some h1 := by
    have e0 : splice Z71L 0 it = it := by
      have hz : Z71L.length = 38 := rfl
      simp [splice, itl, hz]
    rw [store_eq, gz, hh1]
    have c1 : Nat.beq it.length 38 = true := by rw [itl]; rfl
    have c2 : Nat.ble (0 + 38) Z71L.length = true := rfl
    simp only [cellsL_agg, c1, c2, Bool.and_self, cond_true, e0]
  have x1 : Ext h h1 := hh1 ▸ (Ext.push h _).put _ _ (by omega)
  have n1 : h1.next = h.next + 1 := by rw [hh1]; rfl
  have g1 : h1.get t = some (.cells it (some 0)) := by rw [hh1, H.get_put, if_pos rfl]
  have l5 : AM.A.load true 24 (.pointer (some ⟨t, 5, none⟩)) h1 = some (.agg ⟨f.cells⟩) := by
    rw [loadN_eq, g1]
    have : Nat.ble (5 + 24) it.length = true := by rw [itl]; rfl
    simp only [this, cond_true]
    rw [R.eq]; rfl
  obtain ⟨cs, h2, e42, csl, x2⟩ := T42g k ((R.s22.ext x0).ext x1) l22
  have nx2 := x2.next
  have g2 : h2.get t = some (.cells it (some 0)) := by rw [x2.get t (by omega)]; exact g1
  obtain ⟨B, hB⟩ : ∃ B : List Value, B = [.string s29, .string s30, qq, r, w33, w34, w35, fr, mn] := ⟨_, rfl⟩
  have hBl : B.length = 9 := by rw [hB]; rfl
  have hsp : splice it 5 cs = A ++ cs ++ B := by
    rw [R.eq, splice, csl, hA, hB]; rfl
  obtain ⟨h3, hh3⟩ : ∃ h3, h3 = h2.put t (.cells (A ++ cs ++ B) (some 0)) := ⟨_, rfl⟩
  have s2 : AM.A.store 24 (.pointer (some ⟨t, 5, none⟩)) (.agg ⟨cs⟩) h2 = some h3 := by
    rw [store_eq, g2, hh3]
    have c1 : Nat.beq cs.length 24 = true := by rw [csl]; rfl
    have c2 : Nat.ble (5 + 24) it.length = true := by rw [itl]; rfl
    simp only [cellsL_agg, c1, c2, Bool.and_self, cond_true, hsp]
  have n3 : h3.next = h2.next := by rw [hh3]; rfl
  have g3 : h3.get t = some (.cells (A ++ cs ++ B) (some 0)) := by rw [hh3, H.get_put, if_pos rfl]
  have xh3 : Ext h h3 := hh3 ▸ (x1.trans x2).put _ _ (by omega)
  have ldB : ∀ (g : H) (B' : List Value) (j : Nat) (v : Value), g.get t = some (.cells (A ++ cs ++ B') (some 0)) → B'[j]? = some v → AM.A.load false 1 (.pointer (some ⟨t, 29 + j, none⟩)) g = some v := fun g B' j v hg hv => by
    rw [load1_eq, hg]
    show (A ++ cs ++ B')[29 + j]? = some v
    rw [mid_get hAl csl]; exact hv
  have m33 : AM.A.load false 1 (.pointer (some ⟨t, 33, none⟩)) h3 = some w33 := ldB h3 B 4 w33 g3 (by rw [hB]; rfl)
  obtain ⟨v33, h4, e43, c33, x4⟩ := T43g k ((R.s33.ext x0).ext xh3) (by omega)
  have nx4 := x4.next
  have g4 : h4.get t = some (.cells (A ++ cs ++ B) (some 0)) := by rw [x4.get t (by omega)]; exact g3
  have s3' := storeB hAl csl hBl g4 (j := 4) (by omega) c33.cells
  obtain ⟨h5, hh5⟩ : ∃ h5, h5 = h4.put t (.cells (A ++ cs ++ B.set 4 v33) (some 0)) := ⟨_, rfl⟩
  rw [← hh5] at s3'
  have n5 : h5.next = h4.next := by rw [hh5]; rfl
  have g5 : h5.get t = some (.cells (A ++ cs ++ B.set 4 v33) (some 0)) := by rw [hh5, H.get_put, if_pos rfl]
  have xh5 : Ext h h5 := hh5 ▸ (xh3.trans x4).put _ _ (by omega)
  have m34 : AM.A.load false 1 (.pointer (some ⟨t, 34, none⟩)) h5 = some w34 := ldB h5 _ 5 w34 g5 (by rw [hB]; rfl)
  obtain ⟨v34, h6, e44, c34, x6⟩ := T44g k ((R.s34.ext x0).ext xh5) (by omega)
  have nx6 := x6.next
  have g6 : h6.get t = some (.cells (A ++ cs ++ B.set 4 v33) (some 0)) := by rw [x6.get t (by omega)]; exact g5
  have s4' := storeB hAl csl (by rw [List.length_set]; exact hBl) g6 (j := 5) (by omega) c34.cells
  obtain ⟨h7, hh7⟩ : ∃ h7, h7 = h6.put t (.cells (A ++ cs ++ (B.set 4 v33).set 5 v34) (some 0)) := ⟨_, rfl⟩
  rw [← hh7] at s4'
  have n7 : h7.next = h6.next := by rw [hh7]; rfl
  have g7 : h7.get t = some (.cells (A ++ cs ++ (B.set 4 v33).set 5 v34) (some 0)) := by rw [hh7, H.get_put, if_pos rfl]
  have xh7 : Ext h h7 := hh7 ▸ (xh5.trans x6).put _ _ (by omega)
  have m35 : AM.A.load false 1 (.pointer (some ⟨t, 35, none⟩)) h7 = some w35 := ldB h7 _ 6 w35 g7 (by rw [hB]; rfl)
  obtain ⟨v35, h8, e45, c35, x8⟩ := T45g k ((R.s35.ext x0).ext xh7) (by omega)
  have nx8 := x8.next
  have g8 : h8.get t = some (.cells (A ++ cs ++ (B.set 4 v33).set 5 v34) (some 0)) := by rw [x8.get t (by omega)]; exact g7
  have s5' := storeB hAl csl (by rw [List.length_set, List.length_set]; exact hBl) g8 (j := 6) (by omega) c35.cells
  obtain ⟨B4, hB4⟩ : ∃ B4, B4 = ((B.set 4 v33).set 5 v34).set 6 v35 := ⟨_, rfl⟩
  rw [← hB4] at s5'
  obtain ⟨h9, hh9⟩ : ∃ h9, h9 = h8.put t (.cells (A ++ cs ++ B4) (some 0)) := ⟨_, rfl⟩
  rw [← hh9] at s5'
  have n9 : h9.next = h8.next := by rw [hh9]; rfl
  have g9 : h9.get t = some (.cells (A ++ cs ++ B4) (some 0)) := by rw [hh9, H.get_put, if_pos rfl]
  have xh9 : Ext h h9 := hh9 ▸ (xh7.trans x8).put _ _ (by omega)
  have hB46 : B4[6]? = some v35 := by rw [hB4, hB]; rfl
  have m35b : AM.A.load false 1 (.pointer (some ⟨t, 35, none⟩)) h9 = some v35 := ldB h9 _ 6 v35 g9 hB46
  have c35' : Cl 24 h9 v35 e35 h7.next := c35.extBut (S := fun j => j = t) (hh9 ▸ ExtBut.put ⟨Nat.le_refl _, fun _ _ _ => rfl⟩ t _ rfl) fun j hj e => by
    have := c35.sid j hj
    omega
  have l35c : (A ++ cs ++ B4)[35]? = some v35 := by
    have := mid_get (B := B4) hAl csl 6
    rw [show 29 + 6 = 35 from rfl] at this
    rw [this]; exact hB46
  have hlen35 := c35'.len
  obtain ⟨h10, e10, n10, k10⟩ := pksC k L (β := β) (fun x4 x5 x12 x11 x10 x3 h => p32arrlrborrlbrrrrrr (callB Try.prog 0 [9] (k + 1)) L x4 x5 x12 x11 x10 x3 h kn) (h0 := h0) (t := t) (b := h7.next) (itc := A ++ cs ++ B4) (w := v35) l35c (by omega) (by have := x0.next; omega) p35 l35 (.int .i64 (i : Int)) (.int .i64 (i : Int)) (.int .i64 (n : Int)) x3 x3 e35.length 0 L h9 e35 (by omega) (by omega) (x0.trans xh9) g9 (by omega) c35' rfl (fun _ _ => rfl)
  have e10' : p32arrlrborrlbrrrrrlrbw (callB Try.prog 0 [9] (k + 1)) L (fun x4 x5 x12 x11 x10 x3 h => p32arrlrborrlbrrrrrr (callB Try.prog 0 [9] (k + 1)) L x4 x5 x12 x11 x10 x3 h kn) L (.int .i64 (e35.length : Int)) (.int .i64 0) v35 (.int .i64 (i : Int)) (ptrV t) (.int .i64 (i : Int)) (.int .i64 (n : Int)) x3 x3 h9 = _ := e10
  have g10 : h10.get t = some (.cells (A ++ cs ++ B4) (some 0)) := by rw [k10 t (by omega)]; exact g9
  obtain ⟨new, hnew⟩ : ∃ new, new = A ++ cs ++ B4 := ⟨_, rfl⟩
  have newl : new.length = 38 := by
    rw [hnew, hB4]
    simp only [List.length_append, List.length_set]
    omega
  have l10 : AM.A.load true 38 (ptrV t) h10 = some (.agg ⟨new⟩) := by
    rw [loadN_eq, g10, ← hnew]
    have : Nat.ble (0 + 38) new.length = true := by rw [newl]; rfl
    simp only [this, cond_true]
    rw [List.drop_zero, List.take_of_length_le (by omega)]
  have keepq : h10.get q = h.get q := by rw [k10 q (by omega), xh9.get q hqn]
  obtain ⟨es, c'⟩ := st new h10 newl keepq (by have := xh9.next; omega)
  have xS10 : Ext hS h10 := ⟨by have := xh9.next; omega, fun j hj => by rw [k10 j (by omega), xh9.get j (by omega), xS.get j hj]⟩
  refine ⟨_, new, ?_, c', xS10.put _ _ bq⟩
  simp only [p32arrlrborrlb, p32arrlrborrlbl, ix, bnd_some, ld, b1, bnd2_some, s1, p32arrlrborrlbr, p32arrlrborrlbrl, fieldAddr_eq, Nat.zero_add, l5, e42, s2, p32arrlrborrlbrr, p32arrlrborrlbrrl, m33, e43, s3', p32arrlrborrlbrrr, p32arrlrborrlbrrrl, m34, e44, s4',
    p32arrlrborrlbrrrr, p32arrlrborrlbrrrrl, m35, e45, s5', p32arrlrborrlbrrrrr, p32arrlrborrlbrrrrrl, p32arrlrborrlbrrrrrll, m35b, hlen35, p32arrlrborrlbrrrrrlr, p32arrlrborrlbrrrrrlrb]
  refine Eq.trans e10' ?_
  simp only [p32arrlrborrlbrrrrrr, l10, bnd_some, ix, es]

/-- All items. -/
theorem main32 (k L : Nat) (hL : 100 ≤ L) {β : Type} (kx : Value → H → Option β) {h0 hS : H} (x0S : Ext h0 hS) {x3 : Value} {its : List (List Value)} (hb : ∀ y ∈ its, ItB h0 y) (hl : its.length ≤ 20) :
    ∀ (d i m : Nat) (h : H) (cur : List (List Value)), i + d = its.length → d < m → Ext hS h → Cl 38 h x3 cur hS.next → cur.length = its.length → (∀ j, i ≤ j → cur[j]? = its[j]?) →
      ∃ h', p32arrlrbw (callB Try.prog 0 [9] (k + 1)) L kx m (.int .i64 (its.length : Int)) (.int .i64 (i : Int)) x3 x3 h = kx x3 h' ∧ Ext hS h' := by
  intro d
  induction d with
  | zero =>
    intro i m h cur hi hm x c hcl hcur
    obtain ⟨m, rfl⟩ : ∃ q, m = q + 1 := ⟨m - 1, by omega⟩
    have hd : decide ((i : Int) < (its.length : Int)) = false := by rw [decide_eq_false_iff_not]; omega
    refine ⟨h, ?_, x⟩
    simp only [p32arrlrbw, p32arrlrbo, p32arrlrbol, bin_lss, hd, bnd_some, p32arrlrbor, p32arrlrborl, condV_bool, cond_false]
  | succ d ih =>
    intro i m h cur hi hm x c hcl hcur
    obtain ⟨m, rfl⟩ : ∃ q, m = q + 1 := ⟨m - 1, by omega⟩
    have hd : decide ((i : Int) < (its.length : Int)) = true := by rw [decide_eq_true_iff]; omega
    have hwr : IntKind.i64.wrap ((i : Int) + 1) = ((i + 1 : Nat) : Int) := wrap_succ (by omega)
    have hil : i < its.length := by omega
    have hic : i < cur.length := by omega
    have hci : cur[i] = its[i] := by
      have := hcur i (Nat.le_refl _)
      rw [List.getElem?_eq_getElem hic, List.getElem?_eq_getElem hil] at this
      exact Option.some.inj this
    obtain ⟨h1, new, e1, c1, x1⟩ := round32g k L hL (fun x12 x11 x10 x3 h => p32arrlrborrr (callB Try.prog 0 [9] (k + 1)) L x12 x11 x10 x3 h (fun x11 x12 x10 x3 h => p32arrlrbw (callB Try.prog 0 [9] (k + 1)) L kx m x11 x12 x10 x3 h)) x0S x c (n := its.length) hic (by rw [hci]; exact hb _ (List.getElem_mem hil))
    obtain ⟨h', e2, x2⟩ := ih (i + 1) m h1 (cur.set i new) (by omega) (by omega) x1 c1 (by rw [List.length_set]; exact hcl) (fun j hj => by rw [List.getElem?_set, if_neg (by omega)]; exact hcur j (by omega))
    refine ⟨h', ?_, x2⟩
    simp only [p32arrlrbw, p32arrlrbo, p32arrlrbol, bin_lss, hd, bnd_some, p32arrlrbor, p32arrlrborl, condV_bool, cond_true, p32arrlrborr, p32arrlrborrl]
    refine Eq.trans e1 ?_
    simp only [p32arrlrborrr, bin_add, bnd_some, hwr]
    exact e2

theorem T32g (k : Nat) {h0 h : H} (x0 : Ext h0 h) {v : Value} {its : List (List Value)} (s : SliceE 38 h0 v its) (hb : ∀ y ∈ its, ItB h0 y) (hl : its.length ≤ 20) : ∃ v' h', callB Try.prog 0 [9] (k + 202) 32 [v] h = some (v', h') ∧ cellsL v' = some [v'] ∧ Ext h h' := by
  rw [F32eq [9] rfl]
  obtain ⟨x3, h1, e41, c1, x1⟩ := T41g (k + 200) (s.ext x0) (by omega)
  have hlen := c1.len
  obtain ⟨h', e, x'⟩ := main32 (k + 200) (k + 201) (by omega) (fun x3 h => p32arrr (callB Try.prog 0 [9] (k + 201)) (k + 201) x3 h (fun x2 h => some (x2, h))) x0 (x3 := x3) hb hl its.length 0 (k + 201) h1 its (by omega) (by omega) x1 c1 rfl (fun _ _ => rfl)
  have e' : p32arrlrbw (callB Try.prog 0 [9] (k + 201)) (k + 201) (fun x3 h => p32arrr (callB Try.prog 0 [9] (k + 201)) (k + 201) x3 h (fun x2 h => some (x2, h))) (k + 201) (.int .i64 (its.length : Int)) (.int .i64 0) x3 x3 h1 = _ := e
  refine ⟨x3, h', ?_, c1.cells, x'⟩
  simp only [F32, p32a, p32al, p32ar, p32arl, e41, bnd2_some, p32arr, p32arrl, p32arrll, hlen, bnd_some, p32arrlr, p32arrlrb]
  refine Eq.trans e' ?_
  simp only [p32arrr]
end Go.Proofs.Ytdjhkdogpbiglaa.MailD
