/-
  Mail: whether commands are the same: both texts.
-/
import Derived.Test.YtdjhkdogpbiglaaMailE3
import Derived.Test.YtdjhkdogpbiglaaMailD2
namespace Go.Proofs.Ytdjhkdogpbiglaa.MailD
open Go Go.AM

theorem callV50 (C : CF) (a b : Value) (h : H) : callM Try.prog C (.func (.func 50) ⟨[]⟩ ⟨[]⟩) [a, b] h = C 50 [a, b] h := by kernel_rfl
theorem callV40' (C : CF) (a b : Value) (h : H) : callM Try.prog C (.func (.func 40) ⟨[]⟩ ⟨[]⟩) [a, b] h = C 40 [a, b] h := by kernel_rfl

theorem and_ex {p q : Prop} [Decidable p] [Decidable q] {rest : Option (Value × H)} {E : H → Prop} {h0 : H} (h1 : E h0) (hr : ∃ h', rest = some (.bool (decide q), h') ∧ E h') : ∃ h', (bif decide p then rest else some (.bool false, h0)) = some (.bool (decide (p ∧ q)), h') ∧ E h' := by
  by_cases hp : p
  · obtain ⟨h', e, x⟩ := hr
    exact ⟨h', by simp [hp, e], x⟩
  · exact ⟨h0, by simp [hp], h1⟩

theorem box_put {n : Nat} {z : Value} {zl vs : List Value} {h : H} (hz : cellsL z = some zl) (hzl : zl.length = n) (hv : vs.length = n) : ∃ h1 h2, A.box n z h = some (ptrV h.next, h1) ∧ A.store n (ptrV h.next) (.agg ⟨vs⟩) h1 = some h2 ∧ h2.get h.next = some (.cells vs (some 0)) ∧ Ext h h2 ∧ h2.next = h.next + 1 := by
  refine ⟨h.push (.cells zl (some 0)), (h.push (.cells zl (some 0))).put h.next (.cells vs (some 0)), ?_, ?_, by rw [H.get_put, if_pos rfl], (Ext.push h _).put _ _ (Nat.le_refl _), rfl⟩
  · have : Nat.beq zl.length n = true := by rw [beq_dec', decide_eq_true_iff]; exact hzl
    rw [box_eq, hz]
    simp only [this, cond_true]
  · rw [store_eq, H.get_push, if_pos rfl]
    have c1 : Nat.beq vs.length n = true := by rw [beq_dec', decide_eq_true_iff]; exact hv
    have c2 : Nat.ble (0 + n) zl.length = true := by rw [ble_dec, decide_eq_true_iff]; omega
    have sp : splice zl 0 vs = vs := by simp [splice]; omega
    simp only [cellsL_agg, c1, c2, Bool.and_self, cond_true, sp]
theorem load_box {n t : Nat} {vs : List Value} {h : H} {o : Option Nat} (hg : h.get t = some (.cells vs o)) (hv : vs.length = n) : A.load true n (ptrV t) h = some (.agg ⟨vs⟩) :=
  load_of hg (by omega) (by rw [List.drop_zero, List.take_of_length_le (by omega)])
theorem PkD.len (p : PkD) (w : Value) : (p.cells w).length = 24 := rfl
theorem ItD.len (x : ItD) (a b c d : Value) : (x.cells a b c d).length = 38 := rfl
theorem PkIn.len {W : SW} {h : H} {x : List Value} {p : PkD} (i : PkIn W h x p) : x.length = 24 := by obtain ⟨w, rfl, _⟩ := i; rfl
theorem ItIn.len {W : SW} {h : H} {x : List Value} {p : ItD} (i : ItIn W h x p) : x.length = 38 := by obtain ⟨_, _, _, _, _, rfl, _⟩ := i; rfl
theorem PkIn.ext {h h' : H} {v : List Value} {c : PkD} (x : PkIn SliceE h v c) (e : Ext h h') : PkIn SliceE h' v c := x.map fun _ _ _ s => s.ext e
theorem ItIn.ext {h h' : H} {v : List Value} {c : ItD} (x : ItIn SliceE h v c) (e : Ext h h') : ItIn SliceE h' v c := x.map fun _ _ _ s => s.ext e

theorem lp49 (k L : Nat) {β : Type} (kr : Value → H → Option β) (kx : H → Option β) {h0 : H} {a b : Value} {ea eb : List (List Value)} {x y : List PkD} (sa : SliceE 24 h0 a ea) (sb : SliceE 24 h0 b eb) (pa : All2 (PkIn SliceE h0) ea x) (pb : All2 (PkIn SliceE h0) eb y) (hl : x.length = y.length) (hx : x.length ≤ 1000) (hs : ∀ p ∈ x, p.Small) :
    ∀ (d i m : Nat) (h : H), i + d = x.length → d < m → Ext h0 h → ∃ h', Ext h0 h' ∧ MailD7.p49arrlrbw (callB Try.prog 0 [9] (k + 200)) L kr kx m (.int .i64 (i : Int)) b a h = bif decide (All2 SameP (x.drop i) (y.drop i)) then kx h' else kr (.bool false) h' := by
  have hlen : A.lenS a = some (.int .i64 (x.length : Int)) := by have := sa.len.1; rwa [pa.1] at this
  intro d
  induction d with
  | zero =>
    intro i m h hi hm xx
    obtain ⟨m, rfl⟩ : ∃ q, m = q + 1 := ⟨m - 1, by omega⟩
    have hd : decide ((i : Int) < (x.length : Int)) = false := by rw [decide_eq_false_iff_not]; omega
    have ha : decide (All2 SameP (x.drop i) (y.drop i)) = true := by rw [decide_eq_true_iff, List.drop_eq_nil_of_le (by omega), List.drop_eq_nil_of_le (by omega)]; exact All2.nil
    refine ⟨h, xx, ?_⟩
    simp only [MailD7.p49arrlrbw, MailD7.p49arrlrbo, hlen, bnd_some, bin_lss, hd, toBK_bool, condV_bool, cond_false, ha, cond_true]
  | succ d ih =>
    intro i m h hi hm xx
    obtain ⟨m, rfl⟩ : ∃ q, m = q + 1 := ⟨m - 1, by omega⟩
    have hd : decide ((i : Int) < (x.length : Int)) = true := by rw [decide_eq_true_iff]; omega
    have hwr : IntKind.i64.wrap ((i : Int) + 1) = ((i + 1 : Nat) : Int) := wrap_succ (by omega)
    obtain ⟨p, hp⟩ : ∃ p, x[i]? = some p := ⟨_, List.getElem?_eq_getElem (by omega)⟩
    obtain ⟨q, hq⟩ : ∃ q, y[i]? = some q := ⟨_, List.getElem?_eq_getElem (by omega)⟩
    obtain ⟨u, hu, pu⟩ := pa.at2 hp
    obtain ⟨v, hv, pv⟩ := pb.at2 hq
    have hA := all2_drop (R := SameP) hp hq
    obtain ⟨id1, off1, cells1, own1, e11, _, e31, e41, e51, _⟩ := (sa.ext xx).at hu .i64
    have l1 : A.load true 24 (.pointer (some ⟨id1, off1, none⟩)) h = some (.agg ⟨u⟩) := load_of e31 e41 e51
    obtain ⟨id2, off2, cells2, own2, e12, _, e32, e42, e52, _⟩ := (sb.ext xx).at hv .i64
    have l2 : A.load true 24 (.pointer (some ⟨id2, off2, none⟩)) h = some (.agg ⟨v⟩) := load_of e32 e42 e52
    obtain ⟨h1, ec, x1⟩ := T47 k (pu.ext xx) (pv.ext xx) (hs p (List.mem_of_getElem? hp))
    have xx1 := xx.trans x1
    by_cases c : SameP p q
    · have hA2 : decide (All2 SameP (x.drop i) (y.drop i)) = decide (All2 SameP (x.drop (i + 1)) (y.drop (i + 1))) := decide_eq_decide.2 (by rw [hA]; simp [c])
      obtain ⟨h', x', e⟩ := ih (i + 1) m h1 (by omega) (by omega) xx1
      refine ⟨h', x', ?_⟩
      simp only [MailD7.p49arrlrbw, MailD7.p49arrlrbo, hlen, bnd_some, bin_lss, hd, toBK_bool, condV_bool, cond_true, cond_false, e11, l1, e12, l2, ec, bnd2_some, decide_eq_true c, un_not, Bool.not_true, bin_add, hwr, hA2]
      exact e
    · have hA2 : decide (All2 SameP (x.drop i) (y.drop i)) = false := by rw [decide_eq_false_iff_not, hA]; exact fun h => c h.1
      refine ⟨h1, xx1, ?_⟩
      simp only [MailD7.p49arrlrbw, MailD7.p49arrlrbo, hlen, bnd_some, bin_lss, hd, toBK_bool, condV_bool, cond_true, cond_false, e11, l1, e12, l2, ec, bnd2_some, decide_eq_false c, un_not, Bool.not_false, hA2]

theorem lp53 (k L : Nat) {β : Type} (kr : Value → H → Option β) (kx : H → Option β) {h0 : H} {a b : Value} {ea eb : List (List Value)} {x y : List PkD} (sa : SliceE 24 h0 a ea) (sb : SliceE 24 h0 b eb) (pa : All2 (PkIn SliceE h0) ea x) (pb : All2 (PkIn SliceE h0) eb y) (hl : x.length = y.length) (hx : x.length ≤ 1000) (hs : ∀ p ∈ x, p.Small) :
    ∀ (d i m : Nat) (h : H), i + d = x.length → d < m → Ext h0 h → ∃ h', Ext h0 h' ∧ MailD7.p53arrlrbw (callB Try.prog 0 [9] (k + 200)) L kr kx m (.int .i64 (x.length : Int)) (.int .i64 (i : Int)) (.func (.func 50) ⟨[]⟩ ⟨[]⟩) b a h = bif decide (All2 SameP (x.drop i) (y.drop i)) then kx h' else kr (.bool false) h' := by
  have hlen : A.lenS a = some (.int .i64 (x.length : Int)) := by have := sa.len.1; rwa [pa.1] at this
  intro d
  induction d with
  | zero =>
    intro i m h hi hm xx
    obtain ⟨m, rfl⟩ : ∃ q, m = q + 1 := ⟨m - 1, by omega⟩
    have hd : decide ((i : Int) < (x.length : Int)) = false := by rw [decide_eq_false_iff_not]; omega
    have ha : decide (All2 SameP (x.drop i) (y.drop i)) = true := by rw [decide_eq_true_iff, List.drop_eq_nil_of_le (by omega), List.drop_eq_nil_of_le (by omega)]; exact All2.nil
    refine ⟨h, xx, ?_⟩
    simp only [MailD7.p53arrlrbw, MailD7.p53arrlrbo, hlen, bnd_some, bin_lss, hd, toBK_bool, condV_bool, cond_false, ha, cond_true]
  | succ d ih =>
    intro i m h hi hm xx
    obtain ⟨m, rfl⟩ : ∃ q, m = q + 1 := ⟨m - 1, by omega⟩
    have hd : decide ((i : Int) < (x.length : Int)) = true := by rw [decide_eq_true_iff]; omega
    have hwr : IntKind.i64.wrap ((i : Int) + 1) = ((i + 1 : Nat) : Int) := wrap_succ (by omega)
    obtain ⟨p, hp⟩ : ∃ p, x[i]? = some p := ⟨_, List.getElem?_eq_getElem (by omega)⟩
    obtain ⟨q, hq⟩ : ∃ q, y[i]? = some q := ⟨_, List.getElem?_eq_getElem (by omega)⟩
    obtain ⟨u, hu, pu⟩ := pa.at2 hp
    obtain ⟨v, hv, pv⟩ := pb.at2 hq
    have hA := all2_drop (R := SameP) hp hq
    obtain ⟨id1, off1, cells1, own1, e11, _, e31, e41, e51, _⟩ := (sa.ext xx).at hu .i64
    have l1 : A.load true 24 (.pointer (some ⟨id1, off1, none⟩)) h = some (.agg ⟨u⟩) := load_of e31 e41 e51
    obtain ⟨h2, h3, b1, s1, g1, x2, n2⟩ := box_put (n := 24) (z := MailD7.Z66) (zl := MailD7.Z66L) (vs := u) (h := h) rfl rfl pu.len
    have xx2 := xx.trans x2
    obtain ⟨id2, off2, cells2, own2, e12, _, e32, e42, e52, _⟩ := (sb.ext xx2).at hv .i64
    have l2 : A.load true 24 (.pointer (some ⟨id2, off2, none⟩)) h3 = some (.agg ⟨v⟩) := load_of e32 e42 e52
    obtain ⟨h4, h5, b2, s2, g2, x3, n3⟩ := box_put (n := 24) (z := MailD7.Z66) (zl := MailD7.Z66L) (vs := v) (h := h3) rfl rfl pv.len
    have xx3 := xx2.trans x3
    have l3 := load_box (n := 24) (show h5.get h.next = some (.cells u (some 0)) by rw [x3.get _ (by omega)]; exact g1) pu.len
    have l4 := load_box (n := 24) g2 pv.len
    obtain ⟨h1, ec, x1⟩ := T50 k (pu.ext xx3) (pv.ext xx3) (hs p (List.mem_of_getElem? hp))
    have xx1 := xx3.trans x1
    by_cases c : SameP p q
    · have hA2 : decide (All2 SameP (x.drop i) (y.drop i)) = decide (All2 SameP (x.drop (i + 1)) (y.drop (i + 1))) := decide_eq_decide.2 (by rw [hA]; simp [c])
      obtain ⟨h', x', e⟩ := ih (i + 1) m h1 (by omega) (by omega) xx1
      refine ⟨h', x', ?_⟩
      simp only [MailD7.p53arrlrbw, MailD7.p53arrlrbo, hlen, bnd_some, bin_lss, hd, toBK_bool, condV_bool, cond_true, cond_false, e11, l1, b1, bnd2_some, s1, e12, l2, b2, s2, l3, l4, callV50, ec, decide_eq_true c, un_not, Bool.not_true, bin_add, hwr, hA2]
      exact e
    · have hA2 : decide (All2 SameP (x.drop i) (y.drop i)) = false := by rw [decide_eq_false_iff_not, hA]; exact fun h => c h.1
      refine ⟨h1, xx1, ?_⟩
      simp only [MailD7.p53arrlrbw, MailD7.p53arrlrbo, hlen, bnd_some, bin_lss, hd, toBK_bool, condV_bool, cond_true, cond_false, e11, l1, b1, bnd2_some, s1, e12, l2, b2, s2, l3, l4, callV50, ec, decide_eq_false c, un_not, Bool.not_false, hA2]

theorem T49 (k : Nat) {h : H} {a b : Value} {ea eb : List (List Value)} {x y : List PkD} (sa : SliceE 24 h a ea) (sb : SliceE 24 h b eb) (pa : All2 (PkIn SliceE h) ea x) (pb : All2 (PkIn SliceE h) eb y) (hx : x.length ≤ 100) (hs : ∀ p ∈ x, p.Small) : ∃ h', callB Try.prog 0 [9] (k + 401) 49 [a, b] h = some (.bool (decide (All2 SameP x y)), h') ∧ Ext h h' := by
  have la : A.lenS a = some (.int .i64 (x.length : Int)) := by have := sa.len.1; rwa [pa.1] at this
  have lb : A.lenS b = some (.int .i64 (y.length : Int)) := by have := sb.len.1; rwa [pb.1] at this
  rw [MailD7.F49eq [9] rfl]
  by_cases hl : x.length = y.length
  · have c : (!decide ((x.length : Int) = (y.length : Int))) = false := by simp [hl]
    obtain ⟨h', x', e⟩ := lp49 (k + 200) (k + 400) (fun x4 h => some (x4, h)) (fun h => MailD7.p49arrr (callB Try.prog 0 [9] (k + 400)) (k + 400) h (fun x4 h => some (x4, h))) sa sb pa pb hl (by omega) hs x.length 0 (k + 400) h (by omega) (by omega) (Ext.refl h)
    have run : MailD7.F49 (callB Try.prog 0 [9] (k + 400)) (k + 400) a b h = MailD7.p49arrlrbw (callB Try.prog 0 [9] (k + 400)) (k + 400) (fun x4 h => some (x4, h)) (fun h => MailD7.p49arrr (callB Try.prog 0 [9] (k + 400)) (k + 400) h (fun x4 h => some (x4, h))) (k + 400) (.int .i64 ((0 : Nat) : Int)) b a h := by
      simp only [MailD7.F49, MailD7.p49a, MailD7.p49al, MailD7.p49ar, MailD7.p49arl, la, lb, bnd_some, bin_neq, c, toBK_bool, cond_false, MailD7.p49arr, MailD7.p49arrl, MailD7.p49arrll, MailD7.p49arrlr, MailD7.p49arrlrb]
      rfl
    refine ⟨h', ?_, x'⟩
    rw [run, e]
    simp only [List.drop_zero]
    by_cases hxy : All2 SameP x y
    · simp only [decide_eq_true hxy, cond_true, MailD7.p49arrr]
    · simp only [decide_eq_false hxy, cond_false]
  · have c : (!decide ((x.length : Int) = (y.length : Int))) = true := by simp; omega
    have hxy : ¬ All2 SameP x y := fun e => hl e.1
    refine ⟨h, ?_, Ext.refl h⟩
    simp only [MailD7.F49, MailD7.p49a, MailD7.p49al, MailD7.p49ar, MailD7.p49arl, la, lb, bnd_some, bin_neq, c, toBK_bool, cond_true, decide_eq_false hxy]

theorem T53 (k : Nat) {h : H} {a b : Value} {ea eb : List (List Value)} {x y : List PkD} (sa : SliceE 24 h a ea) (sb : SliceE 24 h b eb) (pa : All2 (PkIn SliceE h) ea x) (pb : All2 (PkIn SliceE h) eb y) (hx : x.length ≤ 100) (hs : ∀ p ∈ x, p.Small) : ∃ h', callB Try.prog 0 [9] (k + 401) 53 [a, b, .func (.func 50) ⟨[]⟩ ⟨[]⟩] h = some (.bool (decide (All2 SameP x y)), h') ∧ Ext h h' := by
  have la : A.lenS a = some (.int .i64 (x.length : Int)) := by have := sa.len.1; rwa [pa.1] at this
  have lb : A.lenS b = some (.int .i64 (y.length : Int)) := by have := sb.len.1; rwa [pb.1] at this
  rw [MailD7.F53eq [9] rfl]
  by_cases hl : x.length = y.length
  · have c : (!decide ((x.length : Int) = (y.length : Int))) = false := by simp [hl]
    obtain ⟨h', x', e⟩ := lp53 (k + 200) (k + 400) (fun x4 h => some (x4, h)) (fun h => MailD7.p53arrr (callB Try.prog 0 [9] (k + 400)) (k + 400) h (fun x4 h => some (x4, h))) sa sb pa pb hl (by omega) hs x.length 0 (k + 400) h (by omega) (by omega) (Ext.refl h)
    have run : MailD7.F53 (callB Try.prog 0 [9] (k + 400)) (k + 400) a b (.func (.func 50) ⟨[]⟩ ⟨[]⟩) h = MailD7.p53arrlrbw (callB Try.prog 0 [9] (k + 400)) (k + 400) (fun x4 h => some (x4, h)) (fun h => MailD7.p53arrr (callB Try.prog 0 [9] (k + 400)) (k + 400) h (fun x4 h => some (x4, h))) (k + 400) (.int .i64 (x.length : Int)) (.int .i64 ((0 : Nat) : Int)) (.func (.func 50) ⟨[]⟩ ⟨[]⟩) b a h := by
      simp only [MailD7.F53, MailD7.p53a, MailD7.p53al, MailD7.p53ar, MailD7.p53arl, la, lb, bnd_some, bin_neq, c, toBK_bool, cond_false, MailD7.p53arr, MailD7.p53arrl, MailD7.p53arrll, MailD7.p53arrlr, MailD7.p53arrlrb]
      rfl
    refine ⟨h', ?_, x'⟩
    rw [run, e]
    simp only [List.drop_zero]
    by_cases hxy : All2 SameP x y
    · simp only [decide_eq_true hxy, cond_true, MailD7.p53arrr]
    · simp only [decide_eq_false hxy, cond_false]
  · have c : (!decide ((x.length : Int) = (y.length : Int))) = true := by simp; omega
    have hxy : ¬ All2 SameP x y := fun e => hl e.1
    refine ⟨h, ?_, Ext.refl h⟩
    simp only [MailD7.F53, MailD7.p53a, MailD7.p53al, MailD7.p53ar, MailD7.p53arl, la, lb, bnd_some, bin_neq, c, toBK_bool, cond_true, decide_eq_false hxy]

theorem T40 (k : Nat) {h : H} {x y : List Value} {p q : ItD} (px : ItIn SliceE h x p) (py : ItIn SliceE h y q) (hp : p.Small) : ∃ h', callB Try.prog 0 [9] (k + 410) 40 [.agg ⟨x⟩, .agg ⟨y⟩] h = some (.bool (decide (SameI p q)), h') ∧ Ext h h' := by
  rw [MailD2.F40eq [9] rfl]
  obtain ⟨t2, ht2⟩ : ∃ t, t = h.next := ⟨_, rfl⟩
  obtain ⟨h1, hh1⟩ : ∃ h1, h1 = h.push (.cells x (some 0)) := ⟨_, rfl⟩
  obtain ⟨t3, ht3⟩ : ∃ t, t = h1.next := ⟨_, rfl⟩
  obtain ⟨h2, hh2⟩ : ∃ h2, h2 = h1.push (.cells y (some 0)) := ⟨_, rfl⟩
  have b1 : A.box 38 (.agg ⟨x⟩) h = some (ptrV t2, h1) := by
    have : Nat.beq x.length 38 = true := by rw [px.len]; rfl
    rw [box_eq, hh1, ht2]; simp only [cellsL_agg, this, cond_true]
  have b2 : A.box 38 (.agg ⟨y⟩) h1 = some (ptrV t3, h2) := by
    have : Nat.beq y.length 38 = true := by rw [py.len]; rfl
    rw [box_eq, hh2, ht3]; simp only [cellsL_agg, this, cond_true]
  have x1 : Ext h h1 := hh1 ▸ Ext.push h _
  have x2 : Ext h1 h2 := hh2 ▸ Ext.push h1 _
  have n1 : h1.next = h.next + 1 := by rw [hh1]; rfl
  have n2 : h2.next = h1.next + 1 := by rw [hh2]; rfl
  have x12 := x1.trans x2
  have g2 : h2.get t2 = some (.cells x (some 0)) := by rw [x2.get _ (by omega), hh1, H.get_push, if_pos ht2]
  have g3 : h2.get t3 = some (.cells y (some 0)) := by rw [hh2, H.get_push, if_pos ht3]
  clear hh1 hh2
  obtain ⟨p22, p33, p34, p35, pe, rfl, ps22, ps33, ps34, ps35, pap⟩ := px
  obtain ⟨q22, q33, q34, q35, qe, rfl, qs22, qs33, qs34, qs35, qap⟩ := py
  obtain ⟨sm1, sm2, sm3, sm4, sm5⟩ := hp
  have a0 : A.load false 1 (.pointer (some ⟨t2, 0, none⟩)) h2 = some (.int .u8 p.kd) := by rw [load1_eq, g2]; rfl
  have b0 : A.load false 1 (.pointer (some ⟨t3, 0, none⟩)) h2 = some (.int .u8 q.kd) := by rw [load1_eq, g3]; rfl
  have a1 : A.load false 1 (.pointer (some ⟨t2, 1, none⟩)) h2 = some (.int .i64 p.op) := by rw [load1_eq, g2]; rfl
  have b1' : A.load false 1 (.pointer (some ⟨t3, 1, none⟩)) h2 = some (.int .i64 q.op) := by rw [load1_eq, g3]; rfl
  have a2 : A.load false 1 (.pointer (some ⟨t2, 2, none⟩)) h2 = some (.int .i64 p.cn) := by rw [load1_eq, g2]; rfl
  have b2' : A.load false 1 (.pointer (some ⟨t3, 2, none⟩)) h2 = some (.int .i64 q.cn) := by rw [load1_eq, g3]; rfl
  have a3 : A.load false 1 (.pointer (some ⟨t2, 3, none⟩)) h2 = some (.string p.s3) := by rw [load1_eq, g2]; rfl
  have b3 : A.load false 1 (.pointer (some ⟨t3, 3, none⟩)) h2 = some (.string q.s3) := by rw [load1_eq, g3]; rfl
  have a4 : A.load false 1 (.pointer (some ⟨t2, 4, none⟩)) h2 = some (.string p.s4) := by rw [load1_eq, g2]; rfl
  have b4 : A.load false 1 (.pointer (some ⟨t3, 4, none⟩)) h2 = some (.string q.s4) := by rw [load1_eq, g3]; rfl
  have a5 : A.load true 24 (.pointer (some ⟨t2, 5, none⟩)) h2 = some (.agg ⟨p.pk.cells p22⟩) := by rw [loadN_eq, g2]; rfl
  have b5 : A.load true 24 (.pointer (some ⟨t3, 5, none⟩)) h2 = some (.agg ⟨q.pk.cells q22⟩) := by rw [loadN_eq, g3]; rfl
  obtain ⟨h3, c50, x3⟩ := T50 (k + 209) (h := h2) (p := p.pk) (q := q.pk) ⟨p22, rfl, ps22.ext x12⟩ ⟨q22, rfl, qs22.ext x12⟩ sm1
  have x13 := x12.trans x3
  have g23 : h3.get t2 = some (.cells (p.cells p22 p33 p34 p35) (some 0)) := by rw [x3.get _ (by omega)]; exact g2
  have g33 : h3.get t3 = some (.cells (q.cells q22 q33 q34 q35) (some 0)) := by rw [x3.get _ (by omega)]; exact g3
  have a29 : A.load true 4 (.pointer (some ⟨t2, 29, none⟩)) h3 = some (.agg ⟨p.ms.cells⟩) := by rw [loadN_eq, g23]; rfl
  have b29 : A.load true 4 (.pointer (some ⟨t3, 29, none⟩)) h3 = some (.agg ⟨q.ms.cells⟩) := by rw [loadN_eq, g33]; rfl
  have a33 : A.load false 1 (.pointer (some ⟨t2, 33, none⟩)) h3 = some p33 := by rw [load1_eq, g23]; rfl
  have b33 : A.load false 1 (.pointer (some ⟨t3, 33, none⟩)) h3 = some q33 := by rw [load1_eq, g33]; rfl
  have a34 : A.load false 1 (.pointer (some ⟨t2, 34, none⟩)) h3 = some p34 := by rw [load1_eq, g23]; rfl
  have b34 : A.load false 1 (.pointer (some ⟨t3, 34, none⟩)) h3 = some q34 := by rw [load1_eq, g33]; rfl
  have a35 : A.load false 1 (.pointer (some ⟨t2, 35, none⟩)) h3 = some p35 := by rw [load1_eq, g23]; rfl
  have b35 : A.load false 1 (.pointer (some ⟨t3, 35, none⟩)) h3 = some q35 := by rw [load1_eq, g33]; rfl
  have c51 := T51 (k + 209) (ps33.ext x13) (qs33.ext x13) (by omega)
  have c52 := T52 (k + 209) (ps34.ext x13) (qs34.ext x13) (by omega)
  obtain ⟨h4, c53, x4⟩ := T53 (k + 8) (ps35.ext x13) (qs35.ext x13) (pap.mono fun _ _ i => i.ext x13) (qap.mono fun _ _ i => i.ext x13) (by omega) sm5
  have x14 := x13.trans x4
  have nx3 := x3.next
  have g24 : h4.get t2 = some (.cells (p.cells p22 p33 p34 p35) (some 0)) := by rw [x4.get _ (by omega)]; exact g23
  have g34 : h4.get t3 = some (.cells (q.cells q22 q33 q34 q35) (some 0)) := by rw [x4.get _ (by omega)]; exact g33
  have a36 : A.load false 1 (.pointer (some ⟨t2, 36, none⟩)) h4 = some (.int .i64 p.fr) := by rw [load1_eq, g24]; rfl
  have b36 : A.load false 1 (.pointer (some ⟨t3, 36, none⟩)) h4 = some (.int .i64 q.fr) := by rw [load1_eq, g34]; rfl
  have a37 : A.load false 1 (.pointer (some ⟨t2, 37, none⟩)) h4 = some (.int .i64 p.mn) := by rw [load1_eq, g24]; rfl
  have b37 : A.load false 1 (.pointer (some ⟨t3, 37, none⟩)) h4 = some (.int .i64 q.mn) := by rw [load1_eq, g34]; rfl
  have hI : decide (SameI p q) = decide (p.kd = q.kd ∧ p.op = q.op ∧ p.cn = q.cn ∧ p.s3 = q.s3 ∧ p.s4 = q.s4 ∧ SameP p.pk q.pk ∧ p.ms = q.ms ∧ p.mss = q.mss ∧ p.cls = q.cls ∧ All2 SameP p.pks q.pks ∧ p.fr = q.fr ∧ p.mn = q.mn) := decide_eq_decide.2 Iff.rfl
  rw [hI]
  simp only [MailD2.F40, MailD2.p40a, MailD2.p40al, b1, b2, bnd2_some, MailD2.p40ar, MailD2.p40arl, MailD2.p40arr, fieldAddr_eq, Nat.zero_add, bnd_some, toBK_bool, bin_eql, bin_str_eql, a0, b0, a1, b1', a2, b2', a3, b3, a4, b4, a5, b5, c50, a29, b29, msg_eql, a33, b33, c51, a34, b34, c52, a35, b35, c53, a36, b36, a37, b37]
  exact and_ex x12 (and_ex x12 (and_ex x12 (and_ex x12 (and_ex x12 (and_ex x13 (and_ex x13 (and_ex x13 (and_ex x13 (and_ex x14 (and_ex x14 ⟨h4, rfl, x14⟩))))))))))

theorem T38 (k : Nat) {h : H} {x y : List Value} {p q : ItD} (px : ItIn SliceE h x p) (py : ItIn SliceE h y q) (hp : p.Small) : ∃ h', callB Try.prog 0 [9] (k + 410) 38 [.agg ⟨x⟩, .agg ⟨y⟩] h = some (.bool (decide (SameI p q)), h') ∧ Ext h h' := by
  rw [MailD7.F38eq [9] rfl]
  obtain ⟨t2, ht2⟩ : ∃ t, t = h.next := ⟨_, rfl⟩
  obtain ⟨h1, hh1⟩ : ∃ h1, h1 = h.push (.cells x (some 0)) := ⟨_, rfl⟩
  obtain ⟨t3, ht3⟩ : ∃ t, t = h1.next := ⟨_, rfl⟩
  obtain ⟨h2, hh2⟩ : ∃ h2, h2 = h1.push (.cells y (some 0)) := ⟨_, rfl⟩
  have b1 : A.box 38 (.agg ⟨x⟩) h = some (ptrV t2, h1) := by
    have : Nat.beq x.length 38 = true := by rw [px.len]; rfl
    rw [box_eq, hh1, ht2]; simp only [cellsL_agg, this, cond_true]
  have b2 : A.box 38 (.agg ⟨y⟩) h1 = some (ptrV t3, h2) := by
    have : Nat.beq y.length 38 = true := by rw [py.len]; rfl
    rw [box_eq, hh2, ht3]; simp only [cellsL_agg, this, cond_true]
  have x1 : Ext h h1 := hh1 ▸ Ext.push h _
  have x2 : Ext h1 h2 := hh2 ▸ Ext.push h1 _
  have n1 : h1.next = h.next + 1 := by rw [hh1]; rfl
  have n2 : h2.next = h1.next + 1 := by rw [hh2]; rfl
  have x12 := x1.trans x2
  have g2 : h2.get t2 = some (.cells x (some 0)) := by rw [x2.get _ (by omega), hh1, H.get_push, if_pos ht2]
  have g3 : h2.get t3 = some (.cells y (some 0)) := by rw [hh2, H.get_push, if_pos ht3]
  clear hh1 hh2
  obtain ⟨p22, p33, p34, p35, pe, rfl, ps22, ps33, ps34, ps35, pap⟩ := px
  obtain ⟨q22, q33, q34, q35, qe, rfl, qs22, qs33, qs34, qs35, qap⟩ := py
  obtain ⟨sm1, sm2, sm3, sm4, sm5⟩ := hp
  have a0 : A.load false 1 (.pointer (some ⟨t2, 0, none⟩)) h2 = some (.int .u8 p.kd) := by rw [load1_eq, g2]; rfl
  have b0 : A.load false 1 (.pointer (some ⟨t3, 0, none⟩)) h2 = some (.int .u8 q.kd) := by rw [load1_eq, g3]; rfl
  have a1 : A.load false 1 (.pointer (some ⟨t2, 1, none⟩)) h2 = some (.int .i64 p.op) := by rw [load1_eq, g2]; rfl
  have b1' : A.load false 1 (.pointer (some ⟨t3, 1, none⟩)) h2 = some (.int .i64 q.op) := by rw [load1_eq, g3]; rfl
  have a2 : A.load false 1 (.pointer (some ⟨t2, 2, none⟩)) h2 = some (.int .i64 p.cn) := by rw [load1_eq, g2]; rfl
  have b2' : A.load false 1 (.pointer (some ⟨t3, 2, none⟩)) h2 = some (.int .i64 q.cn) := by rw [load1_eq, g3]; rfl
  have a3 : A.load false 1 (.pointer (some ⟨t2, 3, none⟩)) h2 = some (.string p.s3) := by rw [load1_eq, g2]; rfl
  have b3 : A.load false 1 (.pointer (some ⟨t3, 3, none⟩)) h2 = some (.string q.s3) := by rw [load1_eq, g3]; rfl
  have a4 : A.load false 1 (.pointer (some ⟨t2, 4, none⟩)) h2 = some (.string p.s4) := by rw [load1_eq, g2]; rfl
  have b4 : A.load false 1 (.pointer (some ⟨t3, 4, none⟩)) h2 = some (.string q.s4) := by rw [load1_eq, g3]; rfl
  have a36 : A.load false 1 (.pointer (some ⟨t2, 36, none⟩)) h2 = some (.int .i64 p.fr) := by rw [load1_eq, g2]; rfl
  have b36 : A.load false 1 (.pointer (some ⟨t3, 36, none⟩)) h2 = some (.int .i64 q.fr) := by rw [load1_eq, g3]; rfl
  have a37 : A.load false 1 (.pointer (some ⟨t2, 37, none⟩)) h2 = some (.int .i64 p.mn) := by rw [load1_eq, g2]; rfl
  have b37 : A.load false 1 (.pointer (some ⟨t3, 37, none⟩)) h2 = some (.int .i64 q.mn) := by rw [load1_eq, g3]; rfl
  have a29 : A.load true 4 (.pointer (some ⟨t2, 29, none⟩)) h2 = some (.agg ⟨p.ms.cells⟩) := by rw [loadN_eq, g2]; rfl
  have b29 : A.load true 4 (.pointer (some ⟨t3, 29, none⟩)) h2 = some (.agg ⟨q.ms.cells⟩) := by rw [loadN_eq, g3]; rfl
  have a34 : A.load false 1 (.pointer (some ⟨t2, 34, none⟩)) h2 = some p34 := by rw [load1_eq, g2]; rfl
  have b34 : A.load false 1 (.pointer (some ⟨t3, 34, none⟩)) h2 = some q34 := by rw [load1_eq, g3]; rfl
  have lf : A.lenS p34 = some (.int .i64 (p.cls.length : Int)) := by have := ps34.len.1; rwa [List.length_map] at this
  have lg : A.lenS q34 = some (.int .i64 (q.cls.length : Int)) := by have := qs34.len.1; rwa [List.length_map] at this
  have hd : ∀ (kn : Value → Value → Value → H → Option (Value × H)), MailD7.p38arll (callB Try.prog 0 [9] (k + 409)) (k + 409) (ptrV t2) (ptrV t3) h2 kn = kn (.bool (!decide (p.kd = q.kd ∧ p.op = q.op ∧ p.cn = q.cn ∧ p.s3 = q.s3 ∧ p.s4 = q.s4 ∧ p.ms = q.ms ∧ p.fr = q.fr ∧ p.mn = q.mn ∧ (p.cls.length : Int) = (q.cls.length : Int)))) (ptrV t2) (ptrV t3) h2 := by
    intro kn
    simp only [MailD7.p38arll, fieldAddr_eq, Nat.zero_add, bnd_some, toBK_bool, bin_neq, bin_str_neq, msg_neq, a0, b0, a1, b1', a2, b2', a3, b3, a4, b4, a29, b29, a36, b36, a37, b37, a34, b34, lf, lg]
    exact or_step (F := fun b => kn (.bool b) (ptrV t2) (ptrV t3) h2) (or_step (F := fun b => kn (.bool b) (ptrV t2) (ptrV t3) h2) (or_step (F := fun b => kn (.bool b) (ptrV t2) (ptrV t3) h2) (or_step (F := fun b => kn (.bool b) (ptrV t2) (ptrV t3) h2) (or_step (F := fun b => kn (.bool b) (ptrV t2) (ptrV t3) h2) (or_step (F := fun b => kn (.bool b) (ptrV t2) (ptrV t3) h2) (or_step (F := fun b => kn (.bool b) (ptrV t2) (ptrV t3) h2) (or_step (F := fun b => kn (.bool b) (ptrV t2) (ptrV t3) h2) (rfl))))))))
  have a5 : A.load true 24 (.pointer (some ⟨t2, 5, none⟩)) h2 = some (.agg ⟨p.pk.cells p22⟩) := by rw [loadN_eq, g2]; rfl
  have b5 : A.load true 24 (.pointer (some ⟨t3, 5, none⟩)) h2 = some (.agg ⟨q.pk.cells q22⟩) := by rw [loadN_eq, g3]; rfl
  obtain ⟨h3, c47, x3⟩ := T47 (k + 209) (h := h2) (p := p.pk) (q := q.pk) ⟨p22, rfl, ps22.ext x12⟩ ⟨q22, rfl, qs22.ext x12⟩ sm1
  have x13 := x12.trans x3
  have g23 : h3.get t2 = some (.cells (p.cells p22 p33 p34 p35) (some 0)) := by rw [x3.get _ (by omega)]; exact g2
  have g33 : h3.get t3 = some (.cells (q.cells q22 q33 q34 q35) (some 0)) := by rw [x3.get _ (by omega)]; exact g3
  have a33 : A.load false 1 (.pointer (some ⟨t2, 33, none⟩)) h3 = some p33 := by rw [load1_eq, g23]; rfl
  have b33 : A.load false 1 (.pointer (some ⟨t3, 33, none⟩)) h3 = some q33 := by rw [load1_eq, g33]; rfl
  have a35 : A.load false 1 (.pointer (some ⟨t2, 35, none⟩)) h3 = some p35 := by rw [load1_eq, g23]; rfl
  have b35 : A.load false 1 (.pointer (some ⟨t3, 35, none⟩)) h3 = some q35 := by rw [load1_eq, g33]; rfl
  have c48 := T48 (k + 209) (ps33.ext x13) (qs33.ext x13) (by omega)
  obtain ⟨h4, c49, x4⟩ := T49 (k + 8) (ps35.ext x13) (qs35.ext x13) (pap.mono fun _ _ i => i.ext x13) (qap.mono fun _ _ i => i.ext x13) (by omega) sm5
  have x14 := x13.trans x4
  simp only [MailD7.F38, MailD7.p38a, MailD7.p38al, b1, b2, bnd2_some, MailD7.p38ar, MailD7.p38arl]
  rw [hd]
  by_cases ca : p.kd = q.kd ∧ p.op = q.op ∧ p.cn = q.cn ∧ p.s3 = q.s3 ∧ p.s4 = q.s4 ∧ p.ms = q.ms ∧ p.fr = q.fr ∧ p.mn = q.mn ∧ (p.cls.length : Int) = (q.cls.length : Int)
  · obtain ⟨d0, d1, d2, d3, d4, d5, d6, d7, d8⟩ := id ca
    have hl : p.cls.length = q.cls.length := by omega
    have e := lp38 (callB Try.prog 0 [9] (k + 409)) (k + 409) (fun x4 h => some (x4, h)) (fun x2 x3 h => MailD7.p38arrr (callB Try.prog 0 [9] (k + 409)) (k + 409) x2 x3 h (fun x4 h => some (x4, h))) a34 b34 (ps34.ext x12) (qs34.ext x12) hl (by omega) p.cls.length 0 (k + 409) (by omega) (by omega)
    have e' : MailD7.p38arrlrbw (callB Try.prog 0 [9] (k + 409)) (k + 409) (fun x4 h => some (x4, h)) (fun x2 x3 h => MailD7.p38arrr (callB Try.prog 0 [9] (k + 409)) (k + 409) x2 x3 h (fun x4 h => some (x4, h))) (k + 409) (.int .i64 0) (ptrV t2) (ptrV t3) h2 = _ := e
    have ee : decide (All2 Eq (p.cls.drop 0) (q.cls.drop 0)) = decide (p.cls = q.cls) := decide_eq_decide.2 (by simp [all2_eq])
    rw [ee] at e'
    simp only [decide_eq_true ca, Bool.not_true, MailD7.p38arlr, condV_bool, cond_false, MailD7.p38arr, MailD7.p38arrl, MailD7.p38arrll, MailD7.p38arrlr, MailD7.p38arrlrb]
    rw [e']
    simp only [MailD7.p38arrr, fieldAddr_eq, Nat.zero_add, bnd_some, a5, b5, c47, bnd2_some, toBK_bool, a33, b33, c48, a35, b35, c49]
    have hI : decide (SameI p q) = decide (p.cls = q.cls ∧ SameP p.pk q.pk ∧ p.mss = q.mss ∧ All2 SameP p.pks q.pks) := decide_eq_decide.2 ⟨fun ⟨_, _, _, _, _, i5, _, i7, i8, i9, _, _⟩ => ⟨i8, i5, i7, i9⟩, fun ⟨i8, i5, i7, i9⟩ => ⟨d0, d1, d2, d3, d4, i5, d5, i7, i8, i9, d6, d7⟩⟩
    rw [hI]
    exact and_ex x12 (and_ex x13 (and_ex x13 ⟨h4, rfl, x14⟩))
  · have hn : ¬ SameI p q := fun ⟨i0, i1, i2, i3, i4, _, i6, _, i8, _, i10, i11⟩ => ca ⟨i0, i1, i2, i3, i4, i6, i10, i11, by rw [i8]⟩
    refine ⟨h2, ?_, x12⟩
    simp only [decide_eq_false ca, Bool.not_false, MailD7.p38arlr, condV_bool, cond_true, decide_eq_false hn]

theorem lp19 (k L : Nat) {β : Type} (kr : Value → H → Option β) (kx : H → Option β) {h0 : H} {a b : Value} {ea eb : List (List Value)} {x y : List ItD} (sa : SliceE 38 h0 a ea) (sb : SliceE 38 h0 b eb) (pa : All2 (ItIn SliceE h0) ea x) (pb : All2 (ItIn SliceE h0) eb y) (hl : x.length = y.length) (hx : x.length ≤ 1000) (hs : ∀ p ∈ x, p.Small) :
    ∀ (d i m : Nat) (h : H), i + d = x.length → d < m → Ext h0 h → ∃ h', Ext h0 h' ∧ MailD7.p19arrlrbw (callB Try.prog 0 [9] (k + 410)) L kr kx m (.int .i64 (i : Int)) b a h = bif decide (All2 SameI (x.drop i) (y.drop i)) then kx h' else kr (.bool false) h' := by
  have hlen : A.lenS a = some (.int .i64 (x.length : Int)) := by have := sa.len.1; rwa [pa.1] at this
  intro d
  induction d with
  | zero =>
    intro i m h hi hm xx
    obtain ⟨m, rfl⟩ : ∃ q, m = q + 1 := ⟨m - 1, by omega⟩
    have hd : decide ((i : Int) < (x.length : Int)) = false := by rw [decide_eq_false_iff_not]; omega
    have ha : decide (All2 SameI (x.drop i) (y.drop i)) = true := by rw [decide_eq_true_iff, List.drop_eq_nil_of_le (by omega), List.drop_eq_nil_of_le (by omega)]; exact All2.nil
    refine ⟨h, xx, ?_⟩
    simp only [MailD7.p19arrlrbw, MailD7.p19arrlrbo, hlen, bnd_some, bin_lss, hd, toBK_bool, condV_bool, cond_false, ha, cond_true]
  | succ d ih =>
    intro i m h hi hm xx
    obtain ⟨m, rfl⟩ : ∃ q, m = q + 1 := ⟨m - 1, by omega⟩
    have hd : decide ((i : Int) < (x.length : Int)) = true := by rw [decide_eq_true_iff]; omega
    have hwr : IntKind.i64.wrap ((i : Int) + 1) = ((i + 1 : Nat) : Int) := wrap_succ (by omega)
    obtain ⟨p, hp⟩ : ∃ p, x[i]? = some p := ⟨_, List.getElem?_eq_getElem (by omega)⟩
    obtain ⟨q, hq⟩ : ∃ q, y[i]? = some q := ⟨_, List.getElem?_eq_getElem (by omega)⟩
    obtain ⟨u, hu, pu⟩ := pa.at2 hp
    obtain ⟨v, hv, pv⟩ := pb.at2 hq
    have hA := all2_drop (R := SameI) hp hq
    obtain ⟨id1, off1, cells1, own1, e11, _, e31, e41, e51, _⟩ := (sa.ext xx).at hu .i64
    have l1 : A.load true 38 (.pointer (some ⟨id1, off1, none⟩)) h = some (.agg ⟨u⟩) := load_of e31 e41 e51
    obtain ⟨id2, off2, cells2, own2, e12, _, e32, e42, e52, _⟩ := (sb.ext xx).at hv .i64
    have l2 : A.load true 38 (.pointer (some ⟨id2, off2, none⟩)) h = some (.agg ⟨v⟩) := load_of e32 e42 e52
    obtain ⟨h1, ec, x1⟩ := T38 k (pu.ext xx) (pv.ext xx) (hs p (List.mem_of_getElem? hp))
    have xx1 := xx.trans x1
    by_cases c : SameI p q
    · have hA2 : decide (All2 SameI (x.drop i) (y.drop i)) = decide (All2 SameI (x.drop (i + 1)) (y.drop (i + 1))) := decide_eq_decide.2 (by rw [hA]; simp [c])
      obtain ⟨h', x', e⟩ := ih (i + 1) m h1 (by omega) (by omega) xx1
      refine ⟨h', x', ?_⟩
      simp only [MailD7.p19arrlrbw, MailD7.p19arrlrbo, hlen, bnd_some, bin_lss, hd, toBK_bool, condV_bool, cond_true, cond_false, e11, l1, e12, l2, ec, bnd2_some, decide_eq_true c, un_not, Bool.not_true, bin_add, hwr, hA2]
      exact e
    · have hA2 : decide (All2 SameI (x.drop i) (y.drop i)) = false := by rw [decide_eq_false_iff_not, hA]; exact fun h => c h.1
      refine ⟨h1, xx1, ?_⟩
      simp only [MailD7.p19arrlrbw, MailD7.p19arrlrbo, hlen, bnd_some, bin_lss, hd, toBK_bool, condV_bool, cond_true, cond_false, e11, l1, e12, l2, ec, bnd2_some, decide_eq_false c, un_not, Bool.not_false, hA2]

theorem lp39 (k L : Nat) {β : Type} (kr : Value → H → Option β) (kx : H → Option β) {h0 : H} {a b : Value} {ea eb : List (List Value)} {x y : List ItD} (sa : SliceE 38 h0 a ea) (sb : SliceE 38 h0 b eb) (pa : All2 (ItIn SliceE h0) ea x) (pb : All2 (ItIn SliceE h0) eb y) (hl : x.length = y.length) (hx : x.length ≤ 1000) (hs : ∀ p ∈ x, p.Small) :
    ∀ (d i m : Nat) (h : H), i + d = x.length → d < m → Ext h0 h → ∃ h', Ext h0 h' ∧ MailD2.p39arrlrbw (callB Try.prog 0 [9] (k + 410)) L kr kx m (.int .i64 (x.length : Int)) (.int .i64 (i : Int)) (.func (.func 40) ⟨[]⟩ ⟨[]⟩) b a h = bif decide (All2 SameI (x.drop i) (y.drop i)) then kx h' else kr (.bool false) h' := by
  have hlen : A.lenS a = some (.int .i64 (x.length : Int)) := by have := sa.len.1; rwa [pa.1] at this
  intro d
  induction d with
  | zero =>
    intro i m h hi hm xx
    obtain ⟨m, rfl⟩ : ∃ q, m = q + 1 := ⟨m - 1, by omega⟩
    have hd : decide ((i : Int) < (x.length : Int)) = false := by rw [decide_eq_false_iff_not]; omega
    have ha : decide (All2 SameI (x.drop i) (y.drop i)) = true := by rw [decide_eq_true_iff, List.drop_eq_nil_of_le (by omega), List.drop_eq_nil_of_le (by omega)]; exact All2.nil
    refine ⟨h, xx, ?_⟩
    simp only [MailD2.p39arrlrbw, MailD2.p39arrlrbo, hlen, bnd_some, bin_lss, hd, toBK_bool, condV_bool, cond_false, ha, cond_true]
  | succ d ih =>
    intro i m h hi hm xx
    obtain ⟨m, rfl⟩ : ∃ q, m = q + 1 := ⟨m - 1, by omega⟩
    have hd : decide ((i : Int) < (x.length : Int)) = true := by rw [decide_eq_true_iff]; omega
    have hwr : IntKind.i64.wrap ((i : Int) + 1) = ((i + 1 : Nat) : Int) := wrap_succ (by omega)
    obtain ⟨p, hp⟩ : ∃ p, x[i]? = some p := ⟨_, List.getElem?_eq_getElem (by omega)⟩
    obtain ⟨q, hq⟩ : ∃ q, y[i]? = some q := ⟨_, List.getElem?_eq_getElem (by omega)⟩
    obtain ⟨u, hu, pu⟩ := pa.at2 hp
    obtain ⟨v, hv, pv⟩ := pb.at2 hq
    have hA := all2_drop (R := SameI) hp hq
    obtain ⟨id1, off1, cells1, own1, e11, _, e31, e41, e51, _⟩ := (sa.ext xx).at hu .i64
    have l1 : A.load true 38 (.pointer (some ⟨id1, off1, none⟩)) h = some (.agg ⟨u⟩) := load_of e31 e41 e51
    obtain ⟨h2, h3, b1, s1, g1, x2, n2⟩ := box_put (n := 38) (z := MailD2.Z71) (zl := MailD2.Z71L) (vs := u) (h := h) rfl rfl pu.len
    have xx2 := xx.trans x2
    obtain ⟨id2, off2, cells2, own2, e12, _, e32, e42, e52, _⟩ := (sb.ext xx2).at hv .i64
    have l2 : A.load true 38 (.pointer (some ⟨id2, off2, none⟩)) h3 = some (.agg ⟨v⟩) := load_of e32 e42 e52
    obtain ⟨h4, h5, b2, s2, g2, x3, n3⟩ := box_put (n := 38) (z := MailD2.Z71) (zl := MailD2.Z71L) (vs := v) (h := h3) rfl rfl pv.len
    have xx3 := xx2.trans x3
    have l3 := load_box (n := 38) (show h5.get h.next = some (.cells u (some 0)) by rw [x3.get _ (by omega)]; exact g1) pu.len
    have l4 := load_box (n := 38) g2 pv.len
    obtain ⟨h1, ec, x1⟩ := T40 k (pu.ext xx3) (pv.ext xx3) (hs p (List.mem_of_getElem? hp))
    have xx1 := xx3.trans x1
    by_cases c : SameI p q
    · have hA2 : decide (All2 SameI (x.drop i) (y.drop i)) = decide (All2 SameI (x.drop (i + 1)) (y.drop (i + 1))) := decide_eq_decide.2 (by rw [hA]; simp [c])
      obtain ⟨h', x', e⟩ := ih (i + 1) m h1 (by omega) (by omega) xx1
      refine ⟨h', x', ?_⟩
      simp only [MailD2.p39arrlrbw, MailD2.p39arrlrbo, hlen, bnd_some, bin_lss, hd, toBK_bool, condV_bool, cond_true, cond_false, e11, l1, b1, bnd2_some, s1, e12, l2, b2, s2, l3, l4, callV40', ec, decide_eq_true c, un_not, Bool.not_true, bin_add, hwr, hA2]
      exact e
    · have hA2 : decide (All2 SameI (x.drop i) (y.drop i)) = false := by rw [decide_eq_false_iff_not, hA]; exact fun h => c h.1
      refine ⟨h1, xx1, ?_⟩
      simp only [MailD2.p39arrlrbw, MailD2.p39arrlrbo, hlen, bnd_some, bin_lss, hd, toBK_bool, condV_bool, cond_true, cond_false, e11, l1, b1, bnd2_some, s1, e12, l2, b2, s2, l3, l4, callV40', ec, decide_eq_false c, un_not, Bool.not_false, hA2]

theorem T19 (k : Nat) {h : H} {a b : Value} {ea eb : List (List Value)} {x y : List ItD} (sa : SliceE 38 h a ea) (sb : SliceE 38 h b eb) (pa : All2 (ItIn SliceE h) ea x) (pb : All2 (ItIn SliceE h) eb y) (hx : x.length ≤ 100) (hs : ∀ p ∈ x, p.Small) : ∃ h', callB Try.prog 0 [9] (k + 611) 19 [a, b] h = some (.bool (decide (All2 SameI x y)), h') ∧ Ext h h' := by
  have la : A.lenS a = some (.int .i64 (x.length : Int)) := by have := sa.len.1; rwa [pa.1] at this
  have lb : A.lenS b = some (.int .i64 (y.length : Int)) := by have := sb.len.1; rwa [pb.1] at this
  rw [MailD7.F19eq [9] rfl]
  by_cases hl : x.length = y.length
  · have c : (!decide ((x.length : Int) = (y.length : Int))) = false := by simp [hl]
    obtain ⟨h', x', e⟩ := lp19 (k + 200) (k + 610) (fun x4 h => some (x4, h)) (fun h => MailD7.p19arrr (callB Try.prog 0 [9] (k + 610)) (k + 610) h (fun x4 h => some (x4, h))) sa sb pa pb hl (by omega) hs x.length 0 (k + 610) h (by omega) (by omega) (Ext.refl h)
    have run : MailD7.F19 (callB Try.prog 0 [9] (k + 610)) (k + 610) a b h = MailD7.p19arrlrbw (callB Try.prog 0 [9] (k + 610)) (k + 610) (fun x4 h => some (x4, h)) (fun h => MailD7.p19arrr (callB Try.prog 0 [9] (k + 610)) (k + 610) h (fun x4 h => some (x4, h))) (k + 610) (.int .i64 ((0 : Nat) : Int)) b a h := by
      simp only [MailD7.F19, MailD7.p19a, MailD7.p19al, MailD7.p19ar, MailD7.p19arl, la, lb, bnd_some, bin_neq, c, toBK_bool, cond_false, MailD7.p19arr, MailD7.p19arrl, MailD7.p19arrll, MailD7.p19arrlr, MailD7.p19arrlrb]
      rfl
    refine ⟨h', ?_, x'⟩
    rw [run, e]
    simp only [List.drop_zero]
    by_cases hxy : All2 SameI x y
    · simp only [decide_eq_true hxy, cond_true, MailD7.p19arrr]
    · simp only [decide_eq_false hxy, cond_false]
  · have c : (!decide ((x.length : Int) = (y.length : Int))) = true := by simp; omega
    have hxy : ¬ All2 SameI x y := fun e => hl e.1
    refine ⟨h, ?_, Ext.refl h⟩
    simp only [MailD7.F19, MailD7.p19a, MailD7.p19al, MailD7.p19ar, MailD7.p19arl, la, lb, bnd_some, bin_neq, c, toBK_bool, cond_true, decide_eq_false hxy]

theorem T39 (k : Nat) {h : H} {a b : Value} {ea eb : List (List Value)} {x y : List ItD} (sa : SliceE 38 h a ea) (sb : SliceE 38 h b eb) (pa : All2 (ItIn SliceE h) ea x) (pb : All2 (ItIn SliceE h) eb y) (hx : x.length ≤ 100) (hs : ∀ p ∈ x, p.Small) : ∃ h', callB Try.prog 0 [9] (k + 611) 39 [a, b, .func (.func 40) ⟨[]⟩ ⟨[]⟩] h = some (.bool (decide (All2 SameI x y)), h') ∧ Ext h h' := by
  have la : A.lenS a = some (.int .i64 (x.length : Int)) := by have := sa.len.1; rwa [pa.1] at this
  have lb : A.lenS b = some (.int .i64 (y.length : Int)) := by have := sb.len.1; rwa [pb.1] at this
  rw [MailD2.F39eq [9] rfl]
  by_cases hl : x.length = y.length
  · have c : (!decide ((x.length : Int) = (y.length : Int))) = false := by simp [hl]
    obtain ⟨h', x', e⟩ := lp39 (k + 200) (k + 610) (fun x4 h => some (x4, h)) (fun h => MailD2.p39arrr (callB Try.prog 0 [9] (k + 610)) (k + 610) h (fun x4 h => some (x4, h))) sa sb pa pb hl (by omega) hs x.length 0 (k + 610) h (by omega) (by omega) (Ext.refl h)
    have run : MailD2.F39 (callB Try.prog 0 [9] (k + 610)) (k + 610) a b (.func (.func 40) ⟨[]⟩ ⟨[]⟩) h = MailD2.p39arrlrbw (callB Try.prog 0 [9] (k + 610)) (k + 610) (fun x4 h => some (x4, h)) (fun h => MailD2.p39arrr (callB Try.prog 0 [9] (k + 610)) (k + 610) h (fun x4 h => some (x4, h))) (k + 610) (.int .i64 (x.length : Int)) (.int .i64 ((0 : Nat) : Int)) (.func (.func 40) ⟨[]⟩ ⟨[]⟩) b a h := by
      simp only [MailD2.F39, MailD2.p39a, MailD2.p39al, MailD2.p39ar, MailD2.p39arl, la, lb, bnd_some, bin_neq, c, toBK_bool, cond_false, MailD2.p39arr, MailD2.p39arrl, MailD2.p39arrll, MailD2.p39arrlr, MailD2.p39arrlrb]
      rfl
    refine ⟨h', ?_, x'⟩
    rw [run, e]
    simp only [List.drop_zero]
    by_cases hxy : All2 SameI x y
    · simp only [decide_eq_true hxy, cond_true, MailD2.p39arrr]
    · simp only [decide_eq_false hxy, cond_false]
  · have c : (!decide ((x.length : Int) = (y.length : Int))) = true := by simp; omega
    have hxy : ¬ All2 SameI x y := fun e => hl e.1
    refine ⟨h, ?_, Ext.refl h⟩
    simp only [MailD2.F39, MailD2.p39a, MailD2.p39al, MailD2.p39ar, MailD2.p39arl, la, lb, bnd_some, bin_neq, c, toBK_bool, cond_true, decide_eq_false hxy]

/-- The document's Same. -/
theorem S19c (k : Nat) {h : H} {a b : Value} {x y : List ItD} (ca : CmdIn SliceE h a x) (cb : CmdIn SliceE h b y) (hs : SmallC x) : ∃ h', callB Try.prog 0 [9] (k + 611) 19 [a, b] h = some (.bool (decide (SameC x y)), h') ∧ Ext h h' := by
  obtain ⟨ea, sa, pa⟩ := ca
  obtain ⟨eb, sb, pb⟩ := cb
  obtain ⟨h', e, x'⟩ := T19 k sa sb pa pb (by have := hs.1; omega) hs.2
  exact ⟨h', by rw [e]; rfl, x'⟩
/-- Same. -/
theorem S31c (k : Nat) {h : H} {a b : Value} {x y : List ItD} (ca : CmdIn SliceE h a x) (cb : CmdIn SliceE h b y) (hs : SmallC x) : ∃ h', callB Try.prog 0 [9] (k + 612) 31 [a, b] h = some (.bool (decide (SameC x y)), h') ∧ Ext h h' := by
  obtain ⟨ea, sa, pa⟩ := ca
  obtain ⟨eb, sb, pb⟩ := cb
  obtain ⟨h', e, x'⟩ := T39 k sa sb pa pb (by have := hs.1; omega) hs.2
  refine ⟨h', ?_, x'⟩
  rw [MailD2.F31eq [9] rfl]
  simp only [MailD2.F31, MailD2.p31a, e, bnd2_some, toBK_bool]
  congr 3
end Go.Proofs.Ytdjhkdogpbiglaa.MailD
