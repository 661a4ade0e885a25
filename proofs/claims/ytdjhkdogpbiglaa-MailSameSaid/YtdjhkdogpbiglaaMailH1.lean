/-
  Mail: what is not more than statements go through: its bounds.
-/
import Derived.Test.YtdjhkdogpbiglaaMailG2
namespace Go.Proofs.Ytdjhkdogpbiglaa.MailD
open Go Go.AM

/-- A packet's cells that can be read, within the bounds. -/
def PkB (h : H) (x : List Value) : Prop := ∃ (f : PkF) (els : List (List Value)), x = f.cells ∧ SliceE 2 h f.w els ∧ (∀ y ∈ els, SubC y) ∧ els.length ≤ 100
/-- An item's. -/
def ItB (h : H) (it : List Value) : Prop := ∃ k op cn s3 s4 f s29 s30 q r w33 w34 w35 fr mn e22 e33 e34 e35, ItR h it k op cn s3 s4 f s29 s30 q r w33 w34 w35 fr mn e22 e33 e34 e35 ∧ e22.length ≤ 100 ∧ e33.length ≤ 20 ∧ e34.length ≤ 20 ∧ e35.length ≤ 20 ∧ ∀ y ∈ e35, PkB h y
/-- A call's. -/
def ActB (h : H) (x : List Value) : Prop := ∃ kd fr to la cv its, ActR h x kd fr to la cv its ∧ its.length ≤ 20 ∧ ∀ y ∈ its, ItB h y

theorem T46b (k : Nat) {h : H} {f : PkF} {els : List (List Value)} (sw : SliceE 2 h f.w els) (he : ∀ x ∈ els, SubC x) : ∃ b h', callB Try.prog 0 [9] (k + 300) 46 [.agg ⟨f.cells⟩] h = some (.bool b, h') ∧ Ext h h' ∧ (b = false → els.length ≤ 100) := by
  rw [F46eq [9] rfl]
  obtain ⟨h1, hh1⟩ : ∃ h1, h1 = h.push (.cells f.cells (some 0)) := ⟨_, rfl⟩
  have eb : A.box 24 (.agg ⟨f.cells⟩) h = some (ptrV h.next, h1) := by rw [hh1]; rfl
  have n1 : h1.next = h.next + 1 := by rw [hh1]; rfl
  have x1 : Ext h h1 := hh1 ▸ Ext.push h _
  have g1 : h1.get h.next = some (.cells f.cells (some 0)) := by rw [hh1, H.get_push, if_pos rfl]
  have l22 : A.load false 1 (.pointer (some ⟨h.next, 22, none⟩)) h1 = some f.w := by rw [load1_eq, g1]; rfl
  have hlen : A.lenS f.w = some (.int .i64 (els.length : Int)) := sw.len.1
  by_cases hgr : 100 < els.length
  · have hd : decide ((100 : Int) < (els.length : Int)) = true := by rw [decide_eq_true_iff]; omega
    refine ⟨true, h1, ?_, x1, fun h => by cases h⟩
    simp only [F46, p46a, p46al, eb, bnd2_some, p46ar, p46arl, fieldAddr_eq, Nat.zero_add, bnd_some, l22, hlen, bin_gtr, hd, toBK_bool, cond_true]
  have hd : decide ((100 : Int) < (els.length : Int)) = false := by rw [decide_eq_false_iff_not]; omega
  have ls : ∀ i st, f.cells[i]? = some (.string st) → A.load false 1 (.pointer (some ⟨h.next, i, none⟩)) h1 = some (.string st) := fun i st hs => by rw [load1_eq, g1]; exact hs
  have l5 := ls 5 (f.s 5) rfl
  have l6 := ls 6 (f.s 6) rfl
  have l10 := ls 10 (f.s 10) rfl
  have l12 := ls 12 (f.s 12) rfl
  have l13 := ls 13 (f.s 13) rfl
  have l18 := ls 18 (f.s 18) rfl
  have l19 := ls 19 (f.s 19) rfl
  have l23 := ls 23 (f.s 23) rfl
  obtain ⟨h2, hh2⟩ : ∃ h2, h2 = h1.push (.cells ([f.s 5, f.s 6, f.s 10, f.s 12, f.s 13, f.s 18, f.s 19, f.s 23].map Value.string) (some 1)) := ⟨_, rfl⟩
  have bs : A.buildSlice 1 8 Z9L [(0, 1, .string (f.s 5)), (1, 1, .string (f.s 6)), (2, 1, .string (f.s 10)), (3, 1, .string (f.s 12)), (4, 1, .string (f.s 13)), (5, 1, .string (f.s 18)), (6, 1, .string (f.s 19)), (7, 1, .string (f.s 23))] h1
      = some (.slice (some ⟨h1.next, 0, none⟩) 8 17, h2) := by rw [hh2]; rfl
  have x2 : Ext h1 h2 := hh2 ▸ Ext.push h1 _
  have n2 : h2.next = h1.next + 1 := by rw [hh2]; rfl
  have t2 : Txs h2 (.slice (some ⟨h1.next, 0, none⟩) 8 17) [f.s 5, f.s 6, f.s 10, f.s 12, f.s 13, f.s 18, f.s 19, f.s 23] := ⟨h1.next, 1, rfl, by omega, by omega, by rw [hh2, H.get_push, if_pos rfl]⟩
  have sw1 := sw.ext x1
  obtain ⟨h3, v3, l3, e3, x3, t3, n3⟩ := subs46 (callB Try.prog 0 [9] (k + 299)) (k + 299) (fun x4 x3 h => p46arrrrr (callB Try.prog 0 [9] (k + 299)) (k + 299) x4 x3 h (fun x2 h => some (x2, h))) (hA := h1) (n := h.next) (by omega) g1 (show f.cells[22]? = some f.w from rfl) sw1 he (by omega) (.int .i64 10000)
    els.length 0 (k + 299) h2 _ _ (by omega) (by omega) x2 t2 (fun i hi => by
      have : h1.next = i := (by simpa [sid] using hi)
      omega) rfl
  have e3' : p46arrrrlrbw (callB Try.prog 0 [9] (k + 299)) (k + 299) (fun x4 x3 h => p46arrrrr (callB Try.prog 0 [9] (k + 299)) (k + 299) x4 x3 h (fun x2 h => some (x2, h))) (k + 299) (.int .i64 0) (ptrV h.next) (.slice (some ⟨h1.next, 0, none⟩) 8 17) (.int .i64 10000) h2 = _ := e3
  have e4 := txs46 (callB Try.prog 0 [9] (k + 299)) (k + 299) (fun x2 h => some (x2, h)) (fun h => p46arrrrrr (callB Try.prog 0 [9] (k + 299)) (k + 299) h (fun x2 h => some (x2, h))) t3 (by omega) l3.length 0 (k + 299) 10000 (by omega) (by omega) (by omega) (by omega)
  have e4' : p46arrrrrlrbw (callB Try.prog 0 [9] (k + 299)) (k + 299) (fun x2 h => some (x2, h)) (fun h => p46arrrrrr (callB Try.prog 0 [9] (k + 299)) (k + 299) h (fun x2 h => some (x2, h))) (k + 299) (.int .i64 0) v3 (.int .i64 10000) h3 = some (.bool true, h3) ∨
    p46arrrrrlrbw (callB Try.prog 0 [9] (k + 299)) (k + 299) (fun x2 h => some (x2, h)) (fun h => p46arrrrrr (callB Try.prog 0 [9] (k + 299)) (k + 299) h (fun x2 h => some (x2, h))) (k + 299) (.int .i64 0) v3 (.int .i64 10000) h3 = some (.bool false, h3) := e4
  have run : F46 (callB Try.prog 0 [9] (k + 299)) (k + 299) (.agg ⟨f.cells⟩) h = p46arrrrrlrbw (callB Try.prog 0 [9] (k + 299)) (k + 299) (fun x2 h => some (x2, h)) (fun h => p46arrrrrr (callB Try.prog 0 [9] (k + 299)) (k + 299) h (fun x2 h => some (x2, h))) (k + 299) (.int .i64 0) v3 (.int .i64 10000) h3 := by
    simp only [F46, p46a, p46al, eb, bnd2_some, p46ar, p46arl, fieldAddr_eq, Nat.zero_add, bnd_some, l22, hlen, bin_gtr, hd, toBK_bool, cond_false, p46arr, p46arrl, p46arrr, p46arrrl, l5, l6, l10, Nat.add_zero, l12, l13, l18, l19, l23, bs, p46arrrr, p46arrrrl, p46arrrrll, p46arrrrlr, p46arrrrlrb]
    rw [e3']
    simp only [p46arrrrr, p46arrrrrl, p46arrrrrll, p46arrrrrlr, p46arrrrrlrb]
  rw [run]
  rcases e4' with e | e
  · exact ⟨true, h3, e, x1.trans x3, fun h => by cases h⟩
  · exact ⟨false, h3, e, x1.trans x3, fun _ => by omega⟩
/-- The checks of one item. -/
theorem chk33b (k L : Nat) {β : Type} (kn : Value → Value → Value → Value → H → Option β) {h0 h1 : H} {n : Nat} {it : List Value} (x01 : Ext h0 h1) (hg : h1.get n = some (.cells it (some 0)))
    {kd op cn : Value} {s3 s4 : ByteArray} {f : PkF} {s29 s30 : ByteArray} {q r w33 w34 w35 fr mn : Value} {e22 e33 e34 e35 : List (List Value)} (R : ItR h0 it kd op cn s3 s4 f s29 s30 q r w33 w34 w35 fr mn e22 e33 e34 e35) (hn : n < h1.next) (x3 x0 : Value) :
    ∃ h2, Ext h1 h2 ∧ (p33arrlrborlbrll (callB Try.prog 0 [9] (k + 300)) L (ptrV n) x3 x0 h1 kn = kn (.bool true) (ptrV n) x3 x0 h2 ∨
      (e22.length ≤ 100 ∧ e33.length ≤ 20 ∧ e34.length ≤ 20 ∧ e35.length ≤ 20 ∧ p33arrlrborlbrll (callB Try.prog 0 [9] (k + 300)) L (ptrV n) x3 x0 h1 kn = kn (.bool false) (ptrV n) x3 x0 h2)) := by
  obtain ⟨b1, h2, e46, x2, hb1⟩ := T46b k (R.s22.ext x01) R.c22
  have g2 : h2.get n = some (.cells it (some 0)) := by rw [x2.get n hn]; exact hg
  have itl : it.length = 38 := by rw [R.eq]; rfl
  have l5 : A.load true 24 (.pointer (some ⟨n, 5, none⟩)) h1 = some (.agg ⟨f.cells⟩) := by
    rw [loadN_eq, hg]
    have : Nat.ble (5 + 24) it.length = true := by rw [itl]; rfl
    simp only [this, cond_true]
    rw [R.eq]; rfl
  have ls : ∀ i v, it[i]? = some v → A.load false 1 (.pointer (some ⟨n, i, none⟩)) h2 = some v := fun i v hv => by rw [load1_eq, g2]; exact hv
  have l33 := ls 33 w33 (by rw [R.eq]; rfl)
  have l34 := ls 34 w34 (by rw [R.eq]; rfl)
  have l35 := ls 35 w35 (by rw [R.eq]; rfl)
  have l3 := ls 3 (.string s3) (by rw [R.eq]; rfl)
  have l4 := ls 4 (.string s4) (by rw [R.eq]; rfl)
  have l29 := ls 29 (.string s29) (by rw [R.eq]; rfl)
  have l30 := ls 30 (.string s30) (by rw [R.eq]; rfl)
  have n33 : A.lenS w33 = some (.int .i64 (e33.length : Int)) := R.s33.len.1
  have n34 : A.lenS w34 = some (.int .i64 (e34.length : Int)) := R.s34.len.1
  have n35 : A.lenS w35 = some (.int .i64 (e35.length : Int)) := R.s35.len.1
  refine ⟨h2, x2, ?_⟩
  cases b1 with
  | true =>
    left
    simp only [p33arrlrborlbrll, fieldAddr_eq, Nat.zero_add, bnd_some, l5, e46, bnd2_some, toBK_bool, cond_true]
  | false =>
    by_cases d1 : 20 < e33.length
    · left
      have d1' : decide ((20 : Int) < (e33.length : Int)) = true := by rw [decide_eq_true_iff]; omega
      simp only [p33arrlrborlbrll, fieldAddr_eq, Nat.zero_add, bnd_some, l5, e46, bnd2_some, toBK_bool, cond_false, l33, n33, bin_gtr, d1', cond_true]
    have d1' : decide ((20 : Int) < (e33.length : Int)) = false := by rw [decide_eq_false_iff_not]; omega
    by_cases d2 : 20 < e34.length
    · left
      have d2' : decide ((20 : Int) < (e34.length : Int)) = true := by rw [decide_eq_true_iff]; omega
      simp only [p33arrlrborlbrll, fieldAddr_eq, Nat.zero_add, bnd_some, l5, e46, bnd2_some, toBK_bool, cond_false, l33, n33, bin_gtr, d1', l34, n34, d2', cond_true]
    have d2' : decide ((20 : Int) < (e34.length : Int)) = false := by rw [decide_eq_false_iff_not]; omega
    by_cases d3 : 20 < e35.length
    · left
      have d3' : decide ((20 : Int) < (e35.length : Int)) = true := by rw [decide_eq_true_iff]; omega
      simp only [p33arrlrborlbrll, fieldAddr_eq, Nat.zero_add, bnd_some, l5, e46, bnd2_some, toBK_bool, cond_false, l33, n33, bin_gtr, d1', l34, n34, d2', l35, n35, d3', cond_true]
    have d3' : decide ((20 : Int) < (e35.length : Int)) = false := by rw [decide_eq_false_iff_not]; omega
    have key : ∃ c, p33arrlrborlbrll (callB Try.prog 0 [9] (k + 300)) L (ptrV n) x3 x0 h1 kn = kn (.bool c) (ptrV n) x3 x0 h2 := by
      simp only [p33arrlrborlbrll, fieldAddr_eq, Nat.zero_add, bnd_some, l5, e46, bnd2_some, toBK_bool, cond_false, l33, n33, bin_gtr, d1', l34, n34, d2', l35, n35, d3', l3, lenStr_eq, l4, Nat.add_zero, l29, l30]
      exact bif_ex _ (fun c => kn (.bool c) (ptrV n) x3 x0 h2) _ (bif_ex _ (fun c => kn (.bool c) (ptrV n) x3 x0 h2) _ (bif_ex _ (fun c => kn (.bool c) (ptrV n) x3 x0 h2) _ ⟨_, rfl⟩))
    obtain ⟨c, e⟩ := key
    cases c with
    | true => exact .inl e
    | false => exact .inr ⟨hb1 rfl, by omega, by omega, by omega, e⟩

/-- Its packets. -/
theorem pks33b (k L : Nat) {β : Type} (kr : Value → H → Option β) (kx : Value → Value → Value → H → Option β) {h0 h1 : H} {n : Nat} {it : List Value} (x01 : Ext h0 h1) (hg : h1.get n = some (.cells it (some 0))) (hn : n < h1.next) {w : Value} (hw : it[35]? = some w) {els : List (List Value)} (sw : SliceE 24 h0 w els) (he : ∀ x ∈ els, PkC h0 x) (hl : els.length ≤ 20) (x3 x0 : Value) :
    ∀ (d i m : Nat) (h : H), i + d = els.length → d < m → Ext h1 h → ∃ h', Ext h1 h' ∧ (p33arrlrborlbrrlrbw (callB Try.prog 0 [9] (k + 300)) L kr kx m (.int .i64 (i : Int)) (ptrV n) x3 x0 h = kr (.bool true) h' ∨ (p33arrlrborlbrrlrbw (callB Try.prog 0 [9] (k + 300)) L kr kx m (.int .i64 (i : Int)) (ptrV n) x3 x0 h = kx (ptrV n) x3 x0 h' ∧ ∀ j y, i ≤ j → els[j]? = some y → PkB h0 y)) := by
  have hlen : A.lenS w = some (.int .i64 (els.length : Int)) := sw.len.1
  intro d
  induction d with
  | zero =>
    intro i m h hi hm x
    obtain ⟨m, rfl⟩ : ∃ q, m = q + 1 := ⟨m - 1, by omega⟩
    have ld : A.load false 1 (.pointer (some ⟨n, 35, none⟩)) h = some w := by rw [load1_eq, x.get n hn, hg]; exact hw
    have hd : decide ((i : Int) < (els.length : Int)) = false := by rw [decide_eq_false_iff_not]; omega
    refine ⟨h, x, .inr ⟨?_, fun j y hj hy => by have := (List.getElem?_eq_some_iff.1 hy).1; omega⟩⟩
    simp only [p33arrlrborlbrrlrbw, p33arrlrborlbrrlrbo, fieldAddr_eq, Nat.zero_add, bnd_some, ld, hlen, bin_lss, hd, toBK_bool, cond_false]
  | succ d ih =>
    intro i m h hi hm x
    obtain ⟨m, rfl⟩ : ∃ q, m = q + 1 := ⟨m - 1, by omega⟩
    have ld : A.load false 1 (.pointer (some ⟨n, 35, none⟩)) h = some w := by rw [load1_eq, x.get n hn, hg]; exact hw
    have hd : decide ((i : Int) < (els.length : Int)) = true := by rw [decide_eq_true_iff]; omega
    have hil : i < els.length := by omega
    have hwr : IntKind.i64.wrap ((i : Int) + 1) = ((i + 1 : Nat) : Int) := wrap_succ (by omega)
    obtain ⟨f, e22, hx, s22, c22, _⟩ := he _ (List.getElem_mem hil)
    have hel : els[i]? = some f.cells := by rw [List.getElem?_eq_getElem hil, hx]
    obtain ⟨id, off, cells, own, e1, _, e3, e4, e5, _⟩ := ((sw.ext x01).ext x).at hel .i64
    have ld2 : A.load true 24 (.pointer (some ⟨id, off, none⟩)) h = some (.agg ⟨f.cells⟩) := by
      rw [loadN_eq, e3]
      have : Nat.ble (off + 24) cells.length = true := by rw [ble_dec, decide_eq_true_iff]; exact e4
      simp only [this, cond_true, e5]
    obtain ⟨b, h2, e46, x2, hb1⟩ := T46b k ((s22.ext x01).ext x) c22
    cases b with
    | true =>
      refine ⟨h2, x.trans x2, .inl ?_⟩
      simp only [p33arrlrborlbrrlrbw, p33arrlrborlbrrlrbo, fieldAddr_eq, Nat.zero_add, bnd_some, ld, hlen, bin_lss, hd, toBK_bool, cond_true, e1, ld2, e46, bnd2_some]
    | false =>
      obtain ⟨h', x', e⟩ := ih (i + 1) m h2 (by omega) (by omega) (x.trans x2)
      have run : p33arrlrborlbrrlrbw (callB Try.prog 0 [9] (k + 300)) L kr kx (m + 1) (.int .i64 (i : Int)) (ptrV n) x3 x0 h = p33arrlrborlbrrlrbw (callB Try.prog 0 [9] (k + 300)) L kr kx m (.int .i64 ((i + 1 : Nat) : Int)) (ptrV n) x3 x0 h2 := by
        simp only [p33arrlrborlbrrlrbw, p33arrlrborlbrrlrbo, fieldAddr_eq, Nat.zero_add, bnd_some, ld, hlen, bin_lss, hd, toBK_bool, cond_true, e1, ld2, e46, bnd2_some, cond_false, bin_add, hwr]
      rw [run]
      refine ⟨h', x', ?_⟩
      rcases e with e | ⟨e, he2⟩
      · exact .inl e
      · refine .inr ⟨e, fun j y hj hy => ?_⟩
        by_cases hji : j = i
        · subst hji
          rw [hel] at hy
          obtain rfl := Option.some.inj hy
          exact ⟨f, e22, rfl, s22, c22, hb1 rfl⟩
        · exact he2 j y (by omega) hy

/-- Its messages. -/
theorem mss33b (C : CF) (L : Nat) {β : Type} (kr : Value → H → Option β) (kx : Value → Value → Value → H → Option β) {h : H} {n : Nat} {it : List Value} (hg : h.get n = some (.cells it (some 0))) {w : Value} (hw : it[33]? = some w) {els : List (List Value)} (sw : SliceE 4 h w els) (he : ∀ x ∈ els, MsC x) (hl : els.length ≤ 20) (x3 x0 : Value) :
    ∀ (d i m : Nat), i + d = els.length → d < m → (p33arrlrborlbrrrlrbw C L kr kx m (.int .i64 (i : Int)) (ptrV n) x3 x0 h = kr (.bool true) h ∨ p33arrlrborlbrrrlrbw C L kr kx m (.int .i64 (i : Int)) (ptrV n) x3 x0 h = kx (ptrV n) x3 x0 h) := by
  have hlen : A.lenS w = some (.int .i64 (els.length : Int)) := sw.len.1
  have ld : A.load false 1 (.pointer (some ⟨n, 33, none⟩)) h = some w := by rw [load1_eq, hg]; exact hw
  intro d
  induction d with
  | zero =>
    intro i m hi hm
    obtain ⟨m, rfl⟩ : ∃ q, m = q + 1 := ⟨m - 1, by omega⟩
    have hd : decide ((i : Int) < (els.length : Int)) = false := by rw [decide_eq_false_iff_not]; omega
    right
    simp only [p33arrlrborlbrrrlrbw, p33arrlrborlbrrrlrbo, p33arrlrborlbrrrlrbol, fieldAddr_eq, Nat.zero_add, bnd_some, ld, hlen, bin_lss, hd, toBK_bool, cond_false]
  | succ d ih =>
    intro i m hi hm
    obtain ⟨m, rfl⟩ : ∃ q, m = q + 1 := ⟨m - 1, by omega⟩
    have hd : decide ((i : Int) < (els.length : Int)) = true := by rw [decide_eq_true_iff]; omega
    have hil : i < els.length := by omega
    have hwr : IntKind.i64.wrap ((i : Int) + 1) = ((i + 1 : Nat) : Int) := wrap_succ (by omega)
    obtain ⟨a, b, c, d', hx⟩ := he _ (List.getElem_mem hil)
    have hel : els[i]? = some [.string a, .string b, c, d'] := by rw [List.getElem?_eq_getElem hil, hx]
    obtain ⟨id, off, cells, own, e1, _, e3, _, _, e6⟩ := sw.at hel .i64
    have la : A.load false 1 (.pointer (some ⟨id, off, none⟩)) h = some (.string a) := by rw [load1_eq, e3]; exact e6 0 (by omega)
    have lb : A.load false 1 (.pointer (some ⟨id, off + 1, none⟩)) h = some (.string b) := by rw [load1_eq, e3]; exact e6 1 (by omega)
    by_cases d1 : (500 : Int) < (a.size : Int)
    · left
      have d1' := decide_eq_true d1
      simp only [p33arrlrborlbrrrlrbw, p33arrlrborlbrrrlrbo, p33arrlrborlbrrrlrbol, fieldAddr_eq, Nat.zero_add, Nat.add_zero, bnd_some, ld, hlen, bin_lss, hd, toBK_bool, cond_true, p33arrlrborlbrrrlrbor, p33arrlrborlbrrrlrborl, p33arrlrborlbrrrlrborlb, e1, la, lenStr_eq, bin_gtr, d1']
    have d1' := decide_eq_false d1
    by_cases d2 : (500 : Int) < (b.size : Int)
    · left
      have d2' := decide_eq_true d2
      simp only [p33arrlrborlbrrrlrbw, p33arrlrborlbrrrlrbo, p33arrlrborlbrrrlrbol, fieldAddr_eq, Nat.zero_add, Nat.add_zero, bnd_some, ld, hlen, bin_lss, hd, toBK_bool, cond_true, p33arrlrborlbrrrlrbor, p33arrlrborlbrrrlrborl, p33arrlrborlbrrrlrborlb, e1, la, lenStr_eq, bin_gtr, d1', cond_false, lb, d2']
    have d2' := decide_eq_false d2
    have run : p33arrlrborlbrrrlrbw C L kr kx (m + 1) (.int .i64 (i : Int)) (ptrV n) x3 x0 h = p33arrlrborlbrrrlrbw C L kr kx m (.int .i64 ((i + 1 : Nat) : Int)) (ptrV n) x3 x0 h := by
      simp only [p33arrlrborlbrrrlrbw, p33arrlrborlbrrrlrbo, p33arrlrborlbrrrlrbol, fieldAddr_eq, Nat.zero_add, Nat.add_zero, bnd_some, ld, hlen, bin_lss, hd, toBK_bool, cond_true, p33arrlrborlbrrrlrbor, p33arrlrborlbrrrlrborl, p33arrlrborlbrrrlrborlb, e1, la, lenStr_eq, bin_gtr, d1', cond_false, lb, d2', p33arrlrborlbrrrlrborr, bin_add, hwr]
    rw [run]
    exact ih (i + 1) m (by omega) (by omega)

/-- Its clients. -/
theorem cls33b (C : CF) (L : Nat) {β : Type} (kr : Value → H → Option β) (kx : Value → Value → H → Option β) {h : H} {n : Nat} {it : List Value} (hg : h.get n = some (.cells it (some 0))) {w : Value} (hw : it[34]? = some w) {els : List (List Value)} (sw : SliceE 1 h w els) (he : ∀ x ∈ els, TxC x) (hl : els.length ≤ 20) (x3 x0 : Value) :
    ∀ (d i m : Nat), i + d = els.length → d < m → (p33arrlrborlbrrrrrbw C L kr kx m (.int .i64 (i : Int)) (ptrV n) x3 x0 h = kr (.bool true) h ∨ p33arrlrborlbrrrrrbw C L kr kx m (.int .i64 (i : Int)) (ptrV n) x3 x0 h = kx x3 x0 h) := by
  have hlen : A.lenS w = some (.int .i64 (els.length : Int)) := sw.len.1
  have ld : A.load false 1 (.pointer (some ⟨n, 34, none⟩)) h = some w := by rw [load1_eq, hg]; exact hw
  intro d
  induction d with
  | zero =>
    intro i m hi hm
    obtain ⟨m, rfl⟩ : ∃ q, m = q + 1 := ⟨m - 1, by omega⟩
    have hd : decide ((i : Int) < (els.length : Int)) = false := by rw [decide_eq_false_iff_not]; omega
    right
    simp only [p33arrlrborlbrrrrrbw, p33arrlrborlbrrrrrbo, fieldAddr_eq, Nat.zero_add, bnd_some, ld, hlen, bin_lss, hd, toBK_bool, cond_false]
  | succ d ih =>
    intro i m hi hm
    obtain ⟨m, rfl⟩ : ∃ q, m = q + 1 := ⟨m - 1, by omega⟩
    have hd : decide ((i : Int) < (els.length : Int)) = true := by rw [decide_eq_true_iff]; omega
    have hil : i < els.length := by omega
    have hwr : IntKind.i64.wrap ((i : Int) + 1) = ((i + 1 : Nat) : Int) := wrap_succ (by omega)
    obtain ⟨a, hx⟩ := he _ (List.getElem_mem hil)
    have hel : els[i]? = some [.string a] := by rw [List.getElem?_eq_getElem hil, hx]
    obtain ⟨id, off, cells, own, e1, _, e3, _, _, e6⟩ := sw.at hel .i64
    have la : A.load false 1 (.pointer (some ⟨id, off, none⟩)) h = some (.string a) := by rw [load1_eq, e3]; exact e6 0 (by omega)
    by_cases d1 : (500 : Int) < (a.size : Int)
    · left
      have d1' := decide_eq_true d1
      simp only [p33arrlrborlbrrrrrbw, p33arrlrborlbrrrrrbo, fieldAddr_eq, Nat.zero_add, bnd_some, ld, hlen, bin_lss, hd, toBK_bool, cond_true, e1, la, lenStr_eq, bin_gtr, d1']
    have d1' := decide_eq_false d1
    have run : p33arrlrborlbrrrrrbw C L kr kx (m + 1) (.int .i64 (i : Int)) (ptrV n) x3 x0 h = p33arrlrborlbrrrrrbw C L kr kx m (.int .i64 ((i + 1 : Nat) : Int)) (ptrV n) x3 x0 h := by
      simp only [p33arrlrborlbrrrrrbw, p33arrlrborlbrrrrrbo, fieldAddr_eq, Nat.zero_add, bnd_some, ld, hlen, bin_lss, hd, toBK_bool, cond_true, e1, la, lenStr_eq, bin_gtr, d1', cond_false, bin_add, hwr]
    rw [run]
    exact ih (i + 1) m (by omega) (by omega)

/-- One item. -/
theorem item33b (k L : Nat) (hL : 100 ≤ L) {β : Type} (kr : Value → H → Option β) (kn : Value → Value → H → Option β) {h0 h : H} (x : Ext h0 h) {x0 : Value} {its : List (List Value)} (s0 : SliceE 38 h0 x0 its) {i : Nat} (hi : i < its.length) (hc : ItC h0 its[i]) :
    ∃ h', Ext h0 h' ∧ (p33arrlrborlb (callB Try.prog 0 [9] (k + 300)) L (.int .i64 (i : Int)) x0 h kr kn = kr (.bool true) h' ∨ (p33arrlrborlb (callB Try.prog 0 [9] (k + 300)) L (.int .i64 (i : Int)) x0 h kr kn = kn (.int .i64 (i : Int)) x0 h' ∧ ItB h0 its[i])) := by
  obtain ⟨it, hit⟩ : ∃ it, it = its[i] := ⟨_, rfl⟩
  rw [← hit] at hc
  obtain ⟨kd, op, cn, s3, s4, f, s29, s30, q, r, w33, w34, w35, fr, mn, e22, e33, e34, e35, R⟩ := hc
  have itl : it.length = 38 := by rw [R.eq]; rfl
  have hel : its[i]? = some it := by rw [List.getElem?_eq_getElem hi, hit]
  obtain ⟨id, off, cells, own, e1, _, e3, e4, e5, _⟩ := (s0.ext x).at hel .i64
  have ld : A.load true 38 (.pointer (some ⟨id, off, none⟩)) h = some (.agg ⟨it⟩) := by
    rw [loadN_eq, e3]
    have : Nat.ble (off + 38) cells.length = true := by rw [ble_dec, decide_eq_true_iff]; exact e4
    simp only [this, cond_true, e5]
  have eb : A.box 38 Z71 h = some (ptrV h.next, h.push (.cells Z71L (some 0))) := rfl
  obtain ⟨h1, hh1⟩ : ∃ h1, h1 = (h.push (.cells Z71L (some 0))).put h.next (.cells it (some 0)) := ⟨_, rfl⟩
  have es : A.store 38 (ptrV h.next) (.agg ⟨it⟩) (h.push (.cells Z71L (some 0))) = some h1 := by
    have e0 : splice Z71L 0 it = it := by
      have hz : Z71L.length = 38 := rfl
      simp [splice, itl, hz]
    rw [store_eq, H.get_push, if_pos rfl, hh1]
    have c1 : Nat.beq it.length 38 = true := by rw [itl]; rfl
    have c2 : Nat.ble (0 + 38) Z71L.length = true := rfl
    simp only [cellsL_agg, c1, c2, Bool.and_self, cond_true, e0]
  have x1 : Ext h h1 := hh1 ▸ (Ext.push h _).put _ _ (Nat.le_refl _)
  have n1 : h1.next = h.next + 1 := by rw [hh1]; rfl
  have g1 : h1.get h.next = some (.cells it (some 0)) := by rw [hh1, H.get_put, if_pos rfl]
  have x01 := x.trans x1
  have hn : h.next < h1.next := by omega
  obtain ⟨h2, x2, hk⟩ := chk33b k L (fun x67 x4 x3 x0 h => p33arrlrborlbrlr (callB Try.prog 0 [9] (k + 300)) L x67 x4 x3 x0 h kr (fun x4 x3 x0 h => p33arrlrborlbrr (callB Try.prog 0 [9] (k + 300)) L x4 x3 x0 h kr kn)) x01 g1 R hn (.int .i64 (i : Int)) x0
  have run : p33arrlrborlb (callB Try.prog 0 [9] (k + 300)) L (.int .i64 (i : Int)) x0 h kr kn = p33arrlrborlbrll (callB Try.prog 0 [9] (k + 300)) L (ptrV h.next) (.int .i64 (i : Int)) x0 h1 (fun x67 x4 x3 x0 h => p33arrlrborlbrlr (callB Try.prog 0 [9] (k + 300)) L x67 x4 x3 x0 h kr (fun x4 x3 x0 h => p33arrlrborlbrr (callB Try.prog 0 [9] (k + 300)) L x4 x3 x0 h kr kn)) := by
    simp only [p33arrlrborlb, p33arrlrborlbl, e1, bnd_some, ld, eb, bnd2_some, es, p33arrlrborlbr, p33arrlrborlbrl]
  rw [run]
  rcases hk with e | ⟨b0, b1, b2, b3, e⟩
  · refine ⟨h2, x01.trans x2, .inl ?_⟩
    rw [e]
    simp only [p33arrlrborlbrlr, condV_bool, cond_true]
  rw [e]
  simp only [p33arrlrborlbrlr, condV_bool, cond_false, p33arrlrborlbrr, p33arrlrborlbrrl, p33arrlrborlbrrll, p33arrlrborlbrrlr, p33arrlrborlbrrlrb]
  obtain ⟨h3, x3, hp⟩ := pks33b k L kr (fun x4 x3 x0 h => p33arrlrborlbrrr (callB Try.prog 0 [9] (k + 300)) L x4 x3 x0 h kr kn) x01 g1 hn (w := w35) (by rw [R.eq]; rfl) R.s35 R.c35 b3 (.int .i64 (i : Int)) x0 e35.length 0 L h2 (by omega) (by omega) x2
  have x03 := x01.trans x3
  rcases hp with e | ⟨e, hpk⟩
  · exact ⟨h3, x03, .inl e⟩
  refine ⟨h3, x03, ?_⟩
  rw [show (Value.int .i64 0) = Value.int .i64 ((0 : Nat) : Int) from rfl, e]
  have g3 : h3.get h.next = some (.cells it (some 0)) := by rw [x3.get _ hn]; exact g1
  simp only [p33arrlrborlbrrr, p33arrlrborlbrrrl, p33arrlrborlbrrrll, p33arrlrborlbrrrlr, p33arrlrborlbrrrlrb]
  rcases mss33b (callB Try.prog 0 [9] (k + 300)) L kr (fun x4 x3 x0 h => p33arrlrborlbrrrr (callB Try.prog 0 [9] (k + 300)) L x4 x3 x0 h kr kn) g3 (w := w33) (by rw [R.eq]; rfl) (R.s33.ext x03) R.c33 b1 (.int .i64 (i : Int)) x0 e33.length 0 L (by omega) (by omega) with e | e
  · exact .inl e
  rw [show (Value.int .i64 0) = Value.int .i64 ((0 : Nat) : Int) from rfl, e]
  simp only [p33arrlrborlbrrrr, p33arrlrborlbrrrrl, p33arrlrborlbrrrrr, p33arrlrborlbrrrrrb]
  have hIt : ItB h0 its[i] := ⟨kd, op, cn, s3, s4, f, s29, s30, q, r, w33, w34, w35, fr, mn, e22, e33, e34, e35, hit ▸ R, b0, b1, b2, b3, fun y hy => by
    obtain ⟨j, hj⟩ := List.mem_iff_getElem?.1 hy
    exact hpk j y (Nat.zero_le _) hj⟩
  refine Or.imp_right (fun e => ⟨e, hIt⟩) ?_
  exact cls33b (callB Try.prog 0 [9] (k + 300)) L kr kn g3 (w := w34) (by rw [R.eq]; rfl) (R.s34.ext x03) R.c34 b2 (.int .i64 (i : Int)) x0 e34.length 0 L (by omega) (by omega)

theorem items33b (k L : Nat) (hL : 100 ≤ L) {β : Type} (kr : Value → H → Option β) (kx : H → Option β) {h0 : H} {x0 : Value} {its : List (List Value)} (s0 : SliceE 38 h0 x0 its) (hl : its.length ≤ 20) (hc : ∀ x ∈ its, ItC h0 x) :
    ∀ (d i m : Nat) (h : H), i + d = its.length → d < m → Ext h0 h → ∃ h', Ext h0 h' ∧ (p33arrlrbw (callB Try.prog 0 [9] (k + 300)) L kr kx m (.int .i64 (i : Int)) x0 h = kr (.bool true) h' ∨ (p33arrlrbw (callB Try.prog 0 [9] (k + 300)) L kr kx m (.int .i64 (i : Int)) x0 h = kx h' ∧ ∀ j y, i ≤ j → its[j]? = some y → ItB h0 y)) := by
  have hlen : A.lenS x0 = some (.int .i64 (its.length : Int)) := s0.len.1
  intro d
  induction d with
  | zero =>
    intro i m h hi hm x
    obtain ⟨m, rfl⟩ : ∃ q, m = q + 1 := ⟨m - 1, by omega⟩
    have hd : decide ((i : Int) < (its.length : Int)) = false := by rw [decide_eq_false_iff_not]; omega
    refine ⟨h, x, .inr ⟨?_, fun j y hj hy => by have := (List.getElem?_eq_some_iff.1 hy).1; omega⟩⟩
    simp only [p33arrlrbw, p33arrlrbo, p33arrlrbol, hlen, bnd_some, bin_lss, hd, toBK_bool, cond_false]
  | succ d ih =>
    intro i m h hi hm x
    obtain ⟨m, rfl⟩ : ∃ q, m = q + 1 := ⟨m - 1, by omega⟩
    have hd : decide ((i : Int) < (its.length : Int)) = true := by rw [decide_eq_true_iff]; omega
    have hil : i < its.length := by omega
    have hwr : IntKind.i64.wrap ((i : Int) + 1) = ((i + 1 : Nat) : Int) := wrap_succ (by omega)
    obtain ⟨h1, x1, e⟩ := item33b k L hL kr (fun x3 x0 h => p33arrlrborr (callB Try.prog 0 [9] (k + 300)) L x3 x0 h (fun x3 x0 h => p33arrlrbw (callB Try.prog 0 [9] (k + 300)) L kr kx m x3 x0 h)) x s0 hil (hc _ (List.getElem_mem hil))
    have run : p33arrlrbw (callB Try.prog 0 [9] (k + 300)) L kr kx (m + 1) (.int .i64 (i : Int)) x0 h = p33arrlrborlb (callB Try.prog 0 [9] (k + 300)) L (.int .i64 (i : Int)) x0 h kr (fun x3 x0 h => p33arrlrborr (callB Try.prog 0 [9] (k + 300)) L x3 x0 h (fun x3 x0 h => p33arrlrbw (callB Try.prog 0 [9] (k + 300)) L kr kx m x3 x0 h)) := by
      simp only [p33arrlrbw, p33arrlrbo, p33arrlrbol, hlen, bnd_some, bin_lss, hd, toBK_bool, cond_true, p33arrlrbor, p33arrlrborl]
    rw [run]
    rcases e with e | ⟨e, hIt⟩
    · exact ⟨h1, x1, .inl e⟩
    · rw [e]
      simp only [p33arrlrborr, bin_add, bnd_some, hwr]
      obtain ⟨h', x', e'⟩ := ih (i + 1) m h1 (by omega) (by omega) x1
      refine ⟨h', x', ?_⟩
      rcases e' with e' | ⟨e', he2⟩
      · exact .inl e'
      · refine .inr ⟨e', fun j y hj hy => ?_⟩
        by_cases hji : j = i
        · subst hji
          rw [List.getElem?_eq_getElem hil] at hy
          obtain rfl := Option.some.inj hy
          exact hIt
        · exact he2 j y (by omega) hy

theorem T33b (k : Nat) {h0 h : H} (x : Ext h0 h) {x0 : Value} {its : List (List Value)} (s0 : SliceE 38 h0 x0 its) (hc : ∀ y ∈ its, ItC h0 y) : ∃ b h', callB Try.prog 0 [9] (k + 301) 33 [x0] h = some (.bool b, h') ∧ Ext h0 h' ∧ (b = false → its.length ≤ 20 ∧ ∀ y ∈ its, ItB h0 y) := by
  rw [F33eq [9] rfl]
  have hlen : A.lenS x0 = some (.int .i64 (its.length : Int)) := s0.len.1
  by_cases hg : 20 < its.length
  · have hd : decide ((20 : Int) < (its.length : Int)) = true := by rw [decide_eq_true_iff]; omega
    refine ⟨true, h, ?_, x, fun h => by cases h⟩
    simp only [F33, p33a, p33al, p33ar, p33arl, hlen, bnd_some, bin_gtr, hd, toBK_bool, cond_true]
  · have hd : decide ((20 : Int) < (its.length : Int)) = false := by rw [decide_eq_false_iff_not]; omega
    obtain ⟨h', x', e⟩ := items33b k (k + 300) (by omega) (fun x2 h => some (x2, h)) (fun h => p33arrr (callB Try.prog 0 [9] (k + 300)) (k + 300) h (fun x2 h => some (x2, h))) s0 (by omega) hc its.length 0 (k + 300) h (by omega) (by omega) x
    have run : F33 (callB Try.prog 0 [9] (k + 300)) (k + 300) x0 h = p33arrlrbw (callB Try.prog 0 [9] (k + 300)) (k + 300) (fun x2 h => some (x2, h)) (fun h => p33arrr (callB Try.prog 0 [9] (k + 300)) (k + 300) h (fun x2 h => some (x2, h))) (k + 300) (.int .i64 ((0 : Nat) : Int)) x0 h := by
      simp only [F33, p33a, p33al, p33ar, p33arl, hlen, bnd_some, bin_gtr, hd, toBK_bool, cond_false, p33arr, p33arrl, p33arrll, p33arrlr, p33arrlrb]
      rfl
    rw [run]
    rcases e with e | ⟨e, he2⟩
    · exact ⟨true, h', e, x', fun h => by cases h⟩
    · exact ⟨false, h', e, x', fun _ => ⟨by omega, fun y hy => by
        obtain ⟨j, hj⟩ := List.mem_iff_getElem?.1 hy
        exact he2 j y (Nat.zero_le _) hj⟩⟩

theorem acts8b (k L : Nat) {β : Type} (kr : Value → H → Option β) (kx : H → Option β) {h0 : H} {x0 : Value} {l : List (List Value)} (s0 : SliceE 5 h0 x0 l) (hl : l.length ≤ 300) (hc : ∀ x ∈ l, ActC h0 x) :
    ∀ (d i m : Nat) (h : H), i + d = l.length → d < m → Ext h0 h → ∃ h', Ext h0 h' ∧ (p8arrlrbw (callB Try.prog 0 [9] (k + 301)) L kr kx m (.int .i64 (i : Int)) x0 h = kr (.bool true) h' ∨ (p8arrlrbw (callB Try.prog 0 [9] (k + 301)) L kr kx m (.int .i64 (i : Int)) x0 h = kx h' ∧ ∀ j y, i ≤ j → l[j]? = some y → ActB h0 y)) := by
  have hlen : A.lenS x0 = some (.int .i64 (l.length : Int)) := s0.len.1
  intro d
  induction d with
  | zero =>
    intro i m h hi hm x
    obtain ⟨m, rfl⟩ : ∃ q, m = q + 1 := ⟨m - 1, by omega⟩
    have hd : decide ((i : Int) < (l.length : Int)) = false := by rw [decide_eq_false_iff_not]; omega
    refine ⟨h, x, .inr ⟨?_, fun j y hj hy => by have := (List.getElem?_eq_some_iff.1 hy).1; omega⟩⟩
    simp only [p8arrlrbw, p8arrlrbo, hlen, bnd_some, bin_lss, hd, toBK_bool, cond_false]
  | succ d ih =>
    intro i m h hi hm x
    obtain ⟨m, rfl⟩ : ∃ q, m = q + 1 := ⟨m - 1, by omega⟩
    have hd : decide ((i : Int) < (l.length : Int)) = true := by rw [decide_eq_true_iff]; omega
    have hil : i < l.length := by omega
    have hwr : IntKind.i64.wrap ((i : Int) + 1) = ((i + 1 : Nat) : Int) := wrap_succ (by omega)
    obtain ⟨kd, fr, to, la, cv, its, R⟩ := hc _ (List.getElem_mem hil)
    have hel : l[i]? = some l[i] := List.getElem?_eq_getElem hil
    obtain ⟨id, off, cells, own, e1, _, e3, _, _, e6⟩ := (s0.ext x).at hel .i64
    have ld : A.load false 1 (.pointer (some ⟨id, off + 4, none⟩)) h = some cv := by
      rw [load1_eq, e3]
      have := e6 4 (by omega)
      rw [R.eq] at this
      exact this
    obtain ⟨b, h1, e33, x1, hb33⟩ := T33b k x R.sl R.it
    cases b with
    | true =>
      refine ⟨h1, x1, .inl ?_⟩
      simp only [p8arrlrbw, p8arrlrbo, hlen, bnd_some, bin_lss, hd, toBK_bool, cond_true, e1, fieldAddr_eq, ld, e33, bnd2_some]
    | false =>
      have run : p8arrlrbw (callB Try.prog 0 [9] (k + 301)) L kr kx (m + 1) (.int .i64 (i : Int)) x0 h = p8arrlrbw (callB Try.prog 0 [9] (k + 301)) L kr kx m (.int .i64 ((i + 1 : Nat) : Int)) x0 h1 := by
        simp only [p8arrlrbw, p8arrlrbo, hlen, bnd_some, bin_lss, hd, toBK_bool, cond_true, e1, fieldAddr_eq, ld, e33, bnd2_some, cond_false, bin_add, hwr]
      rw [run]
      obtain ⟨h', x', e'⟩ := ih (i + 1) m h1 (by omega) (by omega) x1
      refine ⟨h', x', ?_⟩
      rcases e' with e' | ⟨e', he2⟩
      · exact .inl e'
      · refine .inr ⟨e', fun j y hj hy => ?_⟩
        by_cases hji : j = i
        · subst hji
          rw [hel] at hy
          obtain rfl := Option.some.inj hy
          exact ⟨kd, fr, to, la, cv, its, R, (hb33 rfl).1, (hb33 rfl).2⟩
        · exact he2 j y (by omega) hy

theorem T8b (k : Nat) {h0 : H} {x0 : Value} {l : List (List Value)} (s0 : SliceE 5 h0 x0 l) (hc : ∀ x ∈ l, ActC h0 x) : ∃ b h', callB Try.prog 0 [9] (k + 302) 8 [x0] h0 = some (.bool b, h') ∧ Ext h0 h' ∧ (b = false → l.length ≤ 300 ∧ ∀ y ∈ l, ActB h0 y) := by
  rw [F8eq [9] rfl]
  have hlen : A.lenS x0 = some (.int .i64 (l.length : Int)) := s0.len.1
  by_cases hg : 300 < l.length
  · have hd : decide ((300 : Int) < (l.length : Int)) = true := by rw [decide_eq_true_iff]; omega
    refine ⟨true, h0, ?_, Ext.refl _, fun h => by cases h⟩
    simp only [F8, p8a, p8al, p8ar, p8arl, hlen, bnd_some, bin_gtr, hd, toBK_bool, cond_true]
  · have hd : decide ((300 : Int) < (l.length : Int)) = false := by rw [decide_eq_false_iff_not]; omega
    obtain ⟨h', x', e⟩ := acts8b k (k + 301) (fun x2 h => some (x2, h)) (fun h => p8arrr (callB Try.prog 0 [9] (k + 301)) (k + 301) h (fun x2 h => some (x2, h))) s0 (by omega) hc l.length 0 (k + 301) h0 (by omega) (by omega) (Ext.refl _)
    have run : F8 (callB Try.prog 0 [9] (k + 301)) (k + 301) x0 h0 = p8arrlrbw (callB Try.prog 0 [9] (k + 301)) (k + 301) (fun x2 h => some (x2, h)) (fun h => p8arrr (callB Try.prog 0 [9] (k + 301)) (k + 301) h (fun x2 h => some (x2, h))) (k + 301) (.int .i64 ((0 : Nat) : Int)) x0 h0 := by
      simp only [F8, p8a, p8al, p8ar, p8arl, hlen, bnd_some, bin_gtr, hd, toBK_bool, cond_false, p8arr, p8arrl, p8arrll, p8arrlr, p8arrlrb]
      rfl
    rw [run]
    rcases e with e | ⟨e, he2⟩
    · exact ⟨true, h', e, x', fun h => by cases h⟩
    · exact ⟨false, h', e, x', fun _ => ⟨by omega, fun y hy => by
        obtain ⟨j, hj⟩ := List.mem_iff_getElem?.1 hy
        exact he2 j y (Nat.zero_le _) hj⟩⟩
end Go.Proofs.Ytdjhkdogpbiglaa.MailD
