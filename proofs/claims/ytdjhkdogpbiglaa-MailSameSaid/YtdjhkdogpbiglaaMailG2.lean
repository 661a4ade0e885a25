/-
  Mail: whether commands, and rows of calls, are more than statements go through: it is told.
-/
import Derived.Test.YtdjhkdogpbiglaaMailG1
namespace Go.Proofs.Ytdjhkdogpbiglaa.MailD
open Go Go.AM

/-- Cells of a packet that can be read. -/
def PkC (h : H) (x : List Value) : Prop := ∃ (f : PkF) (els : List (List Value)), x = f.cells ∧ SliceE 2 h f.w els ∧ (∀ y ∈ els, SubC y) ∧ els.length ≤ maxLen
def MsC (x : List Value) : Prop := ∃ a b c d, x = [.string a, .string b, c, d]
def TxC (x : List Value) : Prop := ∃ a, x = [.string a]

/-- Cells of an item that can be read. -/
structure ItR (h : H) (it : List Value) (k op cn : Value) (s3 s4 : ByteArray) (f : PkF) (s29 s30 : ByteArray) (q r w33 w34 w35 fr mn : Value) (e22 e33 e34 e35 : List (List Value)) : Prop where
  eq : it = [k, op, cn, .string s3, .string s4] ++ f.cells ++ [.string s29, .string s30, q, r, w33, w34, w35, fr, mn]
  s22 : SliceE 2 h f.w e22
  c22 : ∀ x ∈ e22, SubC x
  s33 : SliceE 4 h w33 e33
  c33 : ∀ x ∈ e33, MsC x
  s34 : SliceE 1 h w34 e34
  c34 : ∀ x ∈ e34, TxC x
  s35 : SliceE 24 h w35 e35
  c35 : ∀ x ∈ e35, PkC h x
  len : e22.length ≤ maxLen ∧ e33.length ≤ maxLen ∧ e34.length ≤ maxLen ∧ e35.length ≤ maxLen
  pl : plain k = true ∧ plain op = true ∧ plain cn = true ∧ plain q = true ∧ plain r = true ∧ plain fr = true ∧ plain mn = true

def ItC (h : H) (it : List Value) : Prop := ∃ k op cn s3 s4 f s29 s30 q r w33 w34 w35 fr mn e22 e33 e34 e35, ItR h it k op cn s3 s4 f s29 s30 q r w33 w34 w35 fr mn e22 e33 e34 e35

theorem item_open {h : H} {cs : List Value} (ty : Ty Try.prog h 71 cs) : ItC h cs := by
  have pl := ty.fields Try.underlying71
  simp only [TyFs] at pl
  obtain ⟨_, _, rfl, p0, ⟨_, _, rfl, p1, ⟨_, _, rfl, p2, ⟨_, _, rfl, p3, ⟨_, _, rfl, p4, ⟨_, _, rfl, p5, ⟨_, _, rfl, p6, ⟨_, _, rfl, p7, ⟨_, _, rfl, p8, ⟨_, _, rfl, p9, ⟨_, _, rfl, p10, ⟨_, _, rfl, p11, rfl⟩⟩⟩⟩⟩⟩⟩⟩⟩⟩⟩⟩ := pl
  obtain ⟨a0, rfl, _⟩ := p0.int_inv Try.underlying5
  obtain ⟨a1, rfl, _⟩ := p1.int_inv Try.underlying3
  obtain ⟨a2, rfl, _⟩ := p2.int_inv Try.underlying3
  obtain ⟨a3, rfl, _⟩ := p3.str_inv Try.underlying9
  obtain ⟨a4, rfl, _⟩ := p4.str_inv Try.underlying9
  obtain ⟨f, e22, rfl, s22, c22, m22⟩ := packet_open p5
  obtain ⟨w33, e33, rfl, s33, m33, t33⟩ := p7.slice_inv Try.underlying67
  obtain ⟨w34, e34, rfl, s34, m34, t34⟩ := p8.slice_inv Try.underlying68
  obtain ⟨w35, e35, rfl, s35, m35, t35⟩ := p9.slice_inv Try.underlying69
  obtain ⟨a36, rfl, _⟩ := p10.int_inv Try.underlying3
  obtain ⟨a37, rfl, _⟩ := p11.int_inv Try.underlying3
  have wl := p6.fields Try.underlying63
  simp only [TyFs] at wl
  obtain ⟨_, _, rfl, q0, ⟨_, _, rfl, q1, ⟨_, _, rfl, q2, ⟨_, _, rfl, q3, rfl⟩⟩⟩⟩ := wl
  obtain ⟨b0, rfl, _⟩ := q0.str_inv Try.underlying9
  obtain ⟨b1, rfl, _⟩ := q1.str_inv Try.underlying9
  obtain ⟨b2, rfl, _⟩ := q2.int_inv Try.underlying5
  obtain ⟨b3, rfl⟩ := q3.bool_inv Try.underlying4
  have c63 : Try.prog.cellsOf 63 = 4 := by kernel_rfl
  have c9 : Try.prog.cellsOf 9 = 1 := by kernel_rfl
  have c66 : Try.prog.cellsOf 66 = 24 := by kernel_rfl
  rw [c63] at s33
  rw [c9] at s34
  rw [c66] at s35
  refine ⟨_, _, _, _, _, f, _, _, _, _, w33, w34, w35, _, _, e22, e33, e34, e35, ⟨rfl, s22, c22, s33, fun x hx => ?_, s34, fun x hx => ?_, s35, fun x hx => packet_open (t35 x hx), ⟨m22, m33, m34, m35⟩, ⟨rfl, rfl, rfl, rfl, rfl, rfl, rfl⟩⟩⟩
  · have xl := (t33 x hx).fields Try.underlying63
    simp only [TyFs] at xl
    obtain ⟨_, _, rfl, x0, ⟨_, _, rfl, x1, ⟨_, _, rfl, x2, ⟨_, _, rfl, x3, rfl⟩⟩⟩⟩ := xl
    obtain ⟨y0, rfl, _⟩ := x0.str_inv Try.underlying9
    obtain ⟨y1, rfl, _⟩ := x1.str_inv Try.underlying9
    obtain ⟨y2, rfl, _⟩ := x2.int_inv Try.underlying5
    obtain ⟨y3, rfl⟩ := x3.bool_inv Try.underlying4
    exact ⟨y0, y1, _, _, rfl⟩
  · obtain ⟨y0, e, _⟩ := (t34 x hx).str_inv Try.underlying9
    exact ⟨y0, e⟩

theorem bif_ex {α : Type} (b : Bool) (F : Bool → α) (rest : α) (hr : ∃ c, rest = F c) : ∃ c, (bif b then F true else rest) = F c := by
  cases b with
  | true => exact ⟨true, rfl⟩
  | false => exact hr

/-- The checks of one item. -/
theorem chk33 (k L : Nat) {β : Type} (kn : Value → Value → Value → Value → H → Option β) {h0 h1 : H} {n : Nat} {it : List Value} (x01 : Ext h0 h1) (hg : h1.get n = some (.cells it (some 0)))
    {kd op cn : Value} {s3 s4 : ByteArray} {f : PkF} {s29 s30 : ByteArray} {q r w33 w34 w35 fr mn : Value} {e22 e33 e34 e35 : List (List Value)} (R : ItR h0 it kd op cn s3 s4 f s29 s30 q r w33 w34 w35 fr mn e22 e33 e34 e35) (hn : n < h1.next) (x3 x0 : Value) :
    ∃ h2, Ext h1 h2 ∧ (p33arrlrborlbrll (callB Try.prog 0 [9] (k + 300)) L (ptrV n) x3 x0 h1 kn = kn (.bool true) (ptrV n) x3 x0 h2 ∨
      (e33.length ≤ 20 ∧ e34.length ≤ 20 ∧ e35.length ≤ 20 ∧ p33arrlrborlbrll (callB Try.prog 0 [9] (k + 300)) L (ptrV n) x3 x0 h1 kn = kn (.bool false) (ptrV n) x3 x0 h2)) := by
  obtain ⟨b1, h2, e46, x2⟩ := T46 k (R.s22.ext x01) R.c22
  have g2 : h2.get n = some (.cells it (some 0)) := by rw [x2.get n hn]; exact hg
  have itl : it.length = 38 := by rw [R.eq]; rfl
  have l5 : A.load true 24 (.pointer (some ⟨n, 5, none⟩)) h1 = some (.agg ⟨f.cells⟩) := by
    rw [loadN_eq, hg]
    have : Nat.ble (5 + 24) it.length = true := by rw [itl]; rfl
    simp only [this, cond_true]
    rw [R.eq]; rfl
  have ls : ∀ i v, it[i]? = some v → A.load false 1 (.pointer (some ⟨n, i, none⟩)) h2 = some v := fun i v hv => by rw [load1_eq, g2]; exact hv
  have l33 := ls 33 w33 (by rw [R.eq]; rfl)
  have l34 := ls 34 w34 (by rw [R.eq]; rfl)
  have l35 := ls 35 w35 (by rw [R.eq]; rfl)
  have l3 := ls 3 (.string s3) (by rw [R.eq]; rfl)
  have l4 := ls 4 (.string s4) (by rw [R.eq]; rfl)
  have l29 := ls 29 (.string s29) (by rw [R.eq]; rfl)
  have l30 := ls 30 (.string s30) (by rw [R.eq]; rfl)
  have n33 : A.lenS w33 = some (.int .i64 (e33.length : Int)) := R.s33.len.1
  have n34 : A.lenS w34 = some (.int .i64 (e34.length : Int)) := R.s34.len.1
  have n35 : A.lenS w35 = some (.int .i64 (e35.length : Int)) := R.s35.len.1
  refine ⟨h2, x2, ?_⟩
  cases b1 with
  | true =>
    left
    simp only [p33arrlrborlbrll, fieldAddr_eq, Nat.zero_add, bnd_some, l5, e46, bnd2_some, toBK_bool, cond_true]
  | false =>
    by_cases d1 : 20 < e33.length
    · left
      have d1' : decide ((20 : Int) < (e33.length : Int)) = true := by rw [decide_eq_true_iff]; omega
      simp only [p33arrlrborlbrll, fieldAddr_eq, Nat.zero_add, bnd_some, l5, e46, bnd2_some, toBK_bool, cond_false, l33, n33, bin_gtr, d1', cond_true]
    have d1' : decide ((20 : Int) < (e33.length : Int)) = false := by rw [decide_eq_false_iff_not]; omega
    by_cases d2 : 20 < e34.length
    · left
      have d2' : decide ((20 : Int) < (e34.length : Int)) = true := by rw [decide_eq_true_iff]; omega
      simp only [p33arrlrborlbrll, fieldAddr_eq, Nat.zero_add, bnd_some, l5, e46, bnd2_some, toBK_bool, cond_false, l33, n33, bin_gtr, d1', l34, n34, d2', cond_true]
    have d2' : decide ((20 : Int) < (e34.length : Int)) = false := by rw [decide_eq_false_iff_not]; omega
    by_cases d3 : 20 < e35.length
    · left
      have d3' : decide ((20 : Int) < (e35.length : Int)) = true := by rw [decide_eq_true_iff]; omega
      simp only [p33arrlrborlbrll, fieldAddr_eq, Nat.zero_add, bnd_some, l5, e46, bnd2_some, toBK_bool, cond_false, l33, n33, bin_gtr, d1', l34, n34, d2', l35, n35, d3', cond_true]
    have d3' : decide ((20 : Int) < (e35.length : Int)) = false := by rw [decide_eq_false_iff_not]; omega
    have key : ∃ c, p33arrlrborlbrll (callB Try.prog 0 [9] (k + 300)) L (ptrV n) x3 x0 h1 kn = kn (.bool c) (ptrV n) x3 x0 h2 := by
      simp only [p33arrlrborlbrll, fieldAddr_eq, Nat.zero_add, bnd_some, l5, e46, bnd2_some, toBK_bool, cond_false, l33, n33, bin_gtr, d1', l34, n34, d2', l35, n35, d3', l3, lenStr_eq, l4, Nat.add_zero, l29, l30]
      exact bif_ex _ (fun c => kn (.bool c) (ptrV n) x3 x0 h2) _ (bif_ex _ (fun c => kn (.bool c) (ptrV n) x3 x0 h2) _ (bif_ex _ (fun c => kn (.bool c) (ptrV n) x3 x0 h2) _ ⟨_, rfl⟩))
    obtain ⟨c, e⟩ := key
    cases c with
    | true => exact .inl e
    | false => exact .inr ⟨by omega, by omega, by omega, e⟩

/-- Its packets. -/
theorem pks33 (k L : Nat) {β : Type} (kr : Value → H → Option β) (kx : Value → Value → Value → H → Option β) {h0 h1 : H} {n : Nat} {it : List Value} (x01 : Ext h0 h1) (hg : h1.get n = some (.cells it (some 0))) (hn : n < h1.next) {w : Value} (hw : it[35]? = some w) {els : List (List Value)} (sw : SliceE 24 h0 w els) (he : ∀ x ∈ els, PkC h0 x) (hl : els.length ≤ 20) (x3 x0 : Value) :
    ∀ (d i m : Nat) (h : H), i + d = els.length → d < m → Ext h1 h → ∃ h', Ext h1 h' ∧ (p33arrlrborlbrrlrbw (callB Try.prog 0 [9] (k + 300)) L kr kx m (.int .i64 (i : Int)) (ptrV n) x3 x0 h = kr (.bool true) h' ∨ p33arrlrborlbrrlrbw (callB Try.prog 0 [9] (k + 300)) L kr kx m (.int .i64 (i : Int)) (ptrV n) x3 x0 h = kx (ptrV n) x3 x0 h') := by
  have hlen : A.lenS w = some (.int .i64 (els.length : Int)) := sw.len.1
  intro d
  induction d with
  | zero =>
    intro i m h hi hm x
    obtain ⟨m, rfl⟩ : ∃ q, m = q + 1 := ⟨m - 1, by omega⟩
    have ld : A.load false 1 (.pointer (some ⟨n, 35, none⟩)) h = some w := by rw [load1_eq, x.get n hn, hg]; exact hw
    have hd : decide ((i : Int) < (els.length : Int)) = false := by rw [decide_eq_false_iff_not]; omega
    refine ⟨h, x, .inr ?_⟩
    simp only [p33arrlrborlbrrlrbw, p33arrlrborlbrrlrbo, fieldAddr_eq, Nat.zero_add, bnd_some, ld, hlen, bin_lss, hd, toBK_bool, cond_false]
  | succ d ih =>
    intro i m h hi hm x
    obtain ⟨m, rfl⟩ : ∃ q, m = q + 1 := ⟨m - 1, by omega⟩
    have ld : A.load false 1 (.pointer (some ⟨n, 35, none⟩)) h = some w := by rw [load1_eq, x.get n hn, hg]; exact hw
    have hd : decide ((i : Int) < (els.length : Int)) = true := by rw [decide_eq_true_iff]; omega
    have hil : i < els.length := by omega
    have hwr : IntKind.i64.wrap ((i : Int) + 1) = ((i + 1 : Nat) : Int) := wrap_succ (by omega)
    obtain ⟨f, e22, hx, s22, c22, _⟩ := he _ (List.getElem_mem hil)
    have hel : els[i]? = some f.cells := by rw [List.getElem?_eq_getElem hil, hx]
    obtain ⟨id, off, cells, own, e1, _, e3, e4, e5, _⟩ := ((sw.ext x01).ext x).at hel .i64
    have ld2 : A.load true 24 (.pointer (some ⟨id, off, none⟩)) h = some (.agg ⟨f.cells⟩) := by
      rw [loadN_eq, e3]
      have : Nat.ble (off + 24) cells.length = true := by rw [ble_dec, decide_eq_true_iff]; exact e4
      simp only [this, cond_true, e5]
    obtain ⟨b, h2, e46, x2⟩ := T46 k ((s22.ext x01).ext x) c22
    cases b with
    | true =>
      refine ⟨h2, x.trans x2, .inl ?_⟩
      simp only [p33arrlrborlbrrlrbw, p33arrlrborlbrrlrbo, fieldAddr_eq, Nat.zero_add, bnd_some, ld, hlen, bin_lss, hd, toBK_bool, cond_true, e1, ld2, e46, bnd2_some]
    | false =>
      obtain ⟨h', x', e⟩ := ih (i + 1) m h2 (by omega) (by omega) (x.trans x2)
      have run : p33arrlrborlbrrlrbw (callB Try.prog 0 [9] (k + 300)) L kr kx (m + 1) (.int .i64 (i : Int)) (ptrV n) x3 x0 h = p33arrlrborlbrrlrbw (callB Try.prog 0 [9] (k + 300)) L kr kx m (.int .i64 ((i + 1 : Nat) : Int)) (ptrV n) x3 x0 h2 := by
        simp only [p33arrlrborlbrrlrbw, p33arrlrborlbrrlrbo, fieldAddr_eq, Nat.zero_add, bnd_some, ld, hlen, bin_lss, hd, toBK_bool, cond_true, e1, ld2, e46, bnd2_some, cond_false, bin_add, hwr]
      rw [run]
      exact ⟨h', x', e⟩

/-- Its messages. -/
theorem mss33 (C : CF) (L : Nat) {β : Type} (kr : Value → H → Option β) (kx : Value → Value → Value → H → Option β) {h : H} {n : Nat} {it : List Value} (hg : h.get n = some (.cells it (some 0))) {w : Value} (hw : it[33]? = some w) {els : List (List Value)} (sw : SliceE 4 h w els) (he : ∀ x ∈ els, MsC x) (hl : els.length ≤ 20) (x3 x0 : Value) :
    ∀ (d i m : Nat), i + d = els.length → d < m → (p33arrlrborlbrrrlrbw C L kr kx m (.int .i64 (i : Int)) (ptrV n) x3 x0 h = kr (.bool true) h ∨ p33arrlrborlbrrrlrbw C L kr kx m (.int .i64 (i : Int)) (ptrV n) x3 x0 h = kx (ptrV n) x3 x0 h) := by
  have hlen : A.lenS w = some (.int .i64 (els.length : Int)) := sw.len.1
  have ld : A.load false 1 (.pointer (some ⟨n, 33, none⟩)) h = some w := by rw [load1_eq, hg]; exact hw
  intro d
  induction d with
  | zero =>
    intro i m hi hm
    obtain ⟨m, rfl⟩ : ∃ q, m = q + 1 := ⟨m - 1, by omega⟩
    have hd : decide ((i : Int) < (els.length : Int)) = false := by rw [decide_eq_false_iff_not]; omega
    right
    simp only [p33arrlrborlbrrrlrbw, p33arrlrborlbrrrlrbo, p33arrlrborlbrrrlrbol, fieldAddr_eq, Nat.zero_add, bnd_some, ld, hlen, bin_lss, hd, toBK_bool, cond_false]
  | succ d ih =>
    intro i m hi hm
    obtain ⟨m, rfl⟩ : ∃ q, m = q + 1 := ⟨m - 1, by omega⟩
    have hd : decide ((i : Int) < (els.length : Int)) = true := by rw [decide_eq_true_iff]; omega
    have hil : i < els.length := by omega
    have hwr : IntKind.i64.wrap ((i : Int) + 1) = ((i + 1 : Nat) : Int) := wrap_succ (by omega)
    obtain ⟨a, b, c, d', hx⟩ := he _ (List.getElem_mem hil)
    have hel : els[i]? = some [.string a, .string b, c, d'] := by rw [List.getElem?_eq_getElem hil, hx]
    obtain ⟨id, off, cells, own, e1, _, e3, _, _, e6⟩ := sw.at hel .i64
    have la : A.load false 1 (.pointer (some ⟨id, off, none⟩)) h = some (.string a) := by rw [load1_eq, e3]; exact e6 0 (by omega)
    have lb : A.load false 1 (.pointer (some ⟨id, off + 1, none⟩)) h = some (.string b) := by rw [load1_eq, e3]; exact e6 1 (by omega)
    by_cases d1 : (500 : Int) < (a.size : Int)
    · left
      have d1' := decide_eq_true d1
      simp only [p33arrlrborlbrrrlrbw, p33arrlrborlbrrrlrbo, p33arrlrborlbrrrlrbol, fieldAddr_eq, Nat.zero_add, Nat.add_zero, bnd_some, ld, hlen, bin_lss, hd, toBK_bool, cond_true, p33arrlrborlbrrrlrbor, p33arrlrborlbrrrlrborl, p33arrlrborlbrrrlrborlb, e1, la, lenStr_eq, bin_gtr, d1']
    have d1' := decide_eq_false d1
    by_cases d2 : (500 : Int) < (b.size : Int)
    · left
      have d2' := decide_eq_true d2
      simp only [p33arrlrborlbrrrlrbw, p33arrlrborlbrrrlrbo, p33arrlrborlbrrrlrbol, fieldAddr_eq, Nat.zero_add, Nat.add_zero, bnd_some, ld, hlen, bin_lss, hd, toBK_bool, cond_true, p33arrlrborlbrrrlrbor, p33arrlrborlbrrrlrborl, p33arrlrborlbrrrlrborlb, e1, la, lenStr_eq, bin_gtr, d1', cond_false, lb, d2']
    have d2' := decide_eq_false d2
    have run : p33arrlrborlbrrrlrbw C L kr kx (m + 1) (.int .i64 (i : Int)) (ptrV n) x3 x0 h = p33arrlrborlbrrrlrbw C L kr kx m (.int .i64 ((i + 1 : Nat) : Int)) (ptrV n) x3 x0 h := by
      simp only [p33arrlrborlbrrrlrbw, p33arrlrborlbrrrlrbo, p33arrlrborlbrrrlrbol, fieldAddr_eq, Nat.zero_add, Nat.add_zero, bnd_some, ld, hlen, bin_lss, hd, toBK_bool, cond_true, p33arrlrborlbrrrlrbor, p33arrlrborlbrrrlrborl, p33arrlrborlbrrrlrborlb, e1, la, lenStr_eq, bin_gtr, d1', cond_false, lb, d2', p33arrlrborlbrrrlrborr, bin_add, hwr]
    rw [run]
    exact ih (i + 1) m (by omega) (by omega)

/-- Its clients. -/
theorem cls33 (C : CF) (L : Nat) {β : Type} (kr : Value → H → Option β) (kx : Value → Value → H → Option β) {h : H} {n : Nat} {it : List Value} (hg : h.get n = some (.cells it (some 0))) {w : Value} (hw : it[34]? = some w) {els : List (List Value)} (sw : SliceE 1 h w els) (he : ∀ x ∈ els, TxC x) (hl : els.length ≤ 20) (x3 x0 : Value) :
    ∀ (d i m : Nat), i + d = els.length → d < m → (p33arrlrborlbrrrrrbw C L kr kx m (.int .i64 (i : Int)) (ptrV n) x3 x0 h = kr (.bool true) h ∨ p33arrlrborlbrrrrrbw C L kr kx m (.int .i64 (i : Int)) (ptrV n) x3 x0 h = kx x3 x0 h) := by
  have hlen : A.lenS w = some (.int .i64 (els.length : Int)) := sw.len.1
  have ld : A.load false 1 (.pointer (some ⟨n, 34, none⟩)) h = some w := by rw [load1_eq, hg]; exact hw
  intro d
  induction d with
  | zero =>
    intro i m hi hm
    obtain ⟨m, rfl⟩ : ∃ q, m = q + 1 := ⟨m - 1, by omega⟩
    have hd : decide ((i : Int) < (els.length : Int)) = false := by rw [decide_eq_false_iff_not]; omega
    right
    simp only [p33arrlrborlbrrrrrbw, p33arrlrborlbrrrrrbo, fieldAddr_eq, Nat.zero_add, bnd_some, ld, hlen, bin_lss, hd, toBK_bool, cond_false]
  | succ d ih =>
    intro i m hi hm
    obtain ⟨m, rfl⟩ : ∃ q, m = q + 1 := ⟨m - 1, by omega⟩
    have hd : decide ((i : Int) < (els.length : Int)) = true := by rw [decide_eq_true_iff]; omega
    have hil : i < els.length := by omega
    have hwr : IntKind.i64.wrap ((i : Int) + 1) = ((i + 1 : Nat) : Int) := wrap_succ (by omega)
    obtain ⟨a, hx⟩ := he _ (List.getElem_mem hil)
    have hel : els[i]? = some [.string a] := by rw [List.getElem?_eq_getElem hil, hx]
    obtain ⟨id, off, cells, own, e1, _, e3, _, _, e6⟩ := sw.at hel .i64
    have la : A.load false 1 (.pointer (some ⟨id, off, none⟩)) h = some (.string a) := by rw [load1_eq, e3]; exact e6 0 (by omega)
    by_cases d1 : (500 : Int) < (a.size : Int)
    · left
      have d1' := decide_eq_true d1
      simp only [p33arrlrborlbrrrrrbw, p33arrlrborlbrrrrrbo, fieldAddr_eq, Nat.zero_add, bnd_some, ld, hlen, bin_lss, hd, toBK_bool, cond_true, e1, la, lenStr_eq, bin_gtr, d1']
    have d1' := decide_eq_false d1
    have run : p33arrlrborlbrrrrrbw C L kr kx (m + 1) (.int .i64 (i : Int)) (ptrV n) x3 x0 h = p33arrlrborlbrrrrrbw C L kr kx m (.int .i64 ((i + 1 : Nat) : Int)) (ptrV n) x3 x0 h := by
      simp only [p33arrlrborlbrrrrrbw, p33arrlrborlbrrrrrbo, fieldAddr_eq, Nat.zero_add, bnd_some, ld, hlen, bin_lss, hd, toBK_bool, cond_true, e1, la, lenStr_eq, bin_gtr, d1', cond_false, bin_add, hwr]
    rw [run]
    exact ih (i + 1) m (by omega) (by omega)

/-- One item. -/
theorem item33 (k L : Nat) (hL : 100 ≤ L) {β : Type} (kr : Value → H → Option β) (kn : Value → Value → H → Option β) {h0 h : H} (x : Ext h0 h) {x0 : Value} {its : List (List Value)} (s0 : SliceE 38 h0 x0 its) {i : Nat} (hi : i < its.length) (hc : ItC h0 its[i]) :
    ∃ h', Ext h0 h' ∧ (p33arrlrborlb (callB Try.prog 0 [9] (k + 300)) L (.int .i64 (i : Int)) x0 h kr kn = kr (.bool true) h' ∨ p33arrlrborlb (callB Try.prog 0 [9] (k + 300)) L (.int .i64 (i : Int)) x0 h kr kn = kn (.int .i64 (i : Int)) x0 h') := by
  obtain ⟨it, hit⟩ : ∃ it, it = its[i] := ⟨_, rfl⟩
  rw [← hit] at hc
  obtain ⟨kd, op, cn, s3, s4, f, s29, s30, q, r, w33, w34, w35, fr, mn, e22, e33, e34, e35, R⟩ := hc
  have itl : it.length = 38 := by rw [R.eq]; rfl
  have hel : its[i]? = some it := by rw [List.getElem?_eq_getElem hi, hit]
  obtain ⟨id, off, cells, own, e1, _, e3, e4, e5, _⟩ := (s0.ext x).at hel .i64
  have ld : A.load true 38 (.pointer (some ⟨id, off, none⟩)) h = some (.agg ⟨it⟩) := by
    rw [loadN_eq, e3]
    have : Nat.ble (off + 38) cells.length = true := by rw [ble_dec, decide_eq_true_iff]; exact e4
    simp only [this, cond_true, e5]
  have eb : A.box 38 Z71 h = some (ptrV h.next, h.push (.cells Z71L (some 0))) := rfl
  obtain ⟨h1, hh1⟩ : ∃ h1, h1 = (h.push (.cells Z71L (some 0))).put h.next (.cells it (some 0)) := ⟨_, rfl⟩
  have es : A.store 38 (ptrV h.next) (.agg ⟨it⟩) (h.push (.cells Z71L (some 0))) = some h1 := by
    have e0 : splice Z71L 0 it = it := by
      have hz : Z71L.length = 38 := rfl
      simp [splice, itl, hz]
    rw [store_eq, H.get_push, if_pos rfl, hh1]
    have c1 : Nat.beq it.length 38 = true := by rw [itl]; rfl
    have c2 : Nat.ble (0 + 38) Z71L.length = true := rfl
    simp only [cellsL_agg, c1, c2, Bool.and_self, cond_true, e0]
  have x1 : Ext h h1 := hh1 ▸ (Ext.push h _).put _ _ (Nat.le_refl _)
  have n1 : h1.next = h.next + 1 := by rw [hh1]; rfl
  have g1 : h1.get h.next = some (.cells it (some 0)) := by rw [hh1, H.get_put, if_pos rfl]
  have x01 := x.trans x1
  have hn : h.next < h1.next := by omega
  obtain ⟨h2, x2, hk⟩ := chk33 k L (fun x67 x4 x3 x0 h => p33arrlrborlbrlr (callB Try.prog 0 [9] (k + 300)) L x67 x4 x3 x0 h kr (fun x4 x3 x0 h => p33arrlrborlbrr (callB Try.prog 0 [9] (k + 300)) L x4 x3 x0 h kr kn)) x01 g1 R hn (.int .i64 (i : Int)) x0
  have run : p33arrlrborlb (callB Try.prog 0 [9] (k + 300)) L (.int .i64 (i : Int)) x0 h kr kn = p33arrlrborlbrll (callB Try.prog 0 [9] (k + 300)) L (ptrV h.next) (.int .i64 (i : Int)) x0 h1 (fun x67 x4 x3 x0 h => p33arrlrborlbrlr (callB Try.prog 0 [9] (k + 300)) L x67 x4 x3 x0 h kr (fun x4 x3 x0 h => p33arrlrborlbrr (callB Try.prog 0 [9] (k + 300)) L x4 x3 x0 h kr kn)) := by
    simp only [p33arrlrborlb, p33arrlrborlbl, e1, bnd_some, ld, eb, bnd2_some, es, p33arrlrborlbr, p33arrlrborlbrl]
  rw [run]
  rcases hk with e | ⟨b1, b2, b3, e⟩
  · refine ⟨h2, x01.trans x2, .inl ?_⟩
    rw [e]
    simp only [p33arrlrborlbrlr, condV_bool, cond_true]
  rw [e]
  simp only [p33arrlrborlbrlr, condV_bool, cond_false, p33arrlrborlbrr, p33arrlrborlbrrl, p33arrlrborlbrrll, p33arrlrborlbrrlr, p33arrlrborlbrrlrb]
  obtain ⟨h3, x3, hp⟩ := pks33 k L kr (fun x4 x3 x0 h => p33arrlrborlbrrr (callB Try.prog 0 [9] (k + 300)) L x4 x3 x0 h kr kn) x01 g1 hn (w := w35) (by rw [R.eq]; rfl) R.s35 R.c35 b3 (.int .i64 (i : Int)) x0 e35.length 0 L h2 (by omega) (by omega) x2
  have x03 := x01.trans x3
  rcases hp with e | e
  · exact ⟨h3, x03, .inl e⟩
  refine ⟨h3, x03, ?_⟩
  rw [show (Value.int .i64 0) = Value.int .i64 ((0 : Nat) : Int) from rfl, e]
  have g3 : h3.get h.next = some (.cells it (some 0)) := by rw [x3.get _ hn]; exact g1
  simp only [p33arrlrborlbrrr, p33arrlrborlbrrrl, p33arrlrborlbrrrll, p33arrlrborlbrrrlr, p33arrlrborlbrrrlrb]
  rcases mss33 (callB Try.prog 0 [9] (k + 300)) L kr (fun x4 x3 x0 h => p33arrlrborlbrrrr (callB Try.prog 0 [9] (k + 300)) L x4 x3 x0 h kr kn) g3 (w := w33) (by rw [R.eq]; rfl) (R.s33.ext x03) R.c33 b1 (.int .i64 (i : Int)) x0 e33.length 0 L (by omega) (by omega) with e | e
  · exact .inl e
  rw [show (Value.int .i64 0) = Value.int .i64 ((0 : Nat) : Int) from rfl, e]
  simp only [p33arrlrborlbrrrr, p33arrlrborlbrrrrl, p33arrlrborlbrrrrr, p33arrlrborlbrrrrrb]
  exact cls33 (callB Try.prog 0 [9] (k + 300)) L kr kn g3 (w := w34) (by rw [R.eq]; rfl) (R.s34.ext x03) R.c34 b2 (.int .i64 (i : Int)) x0 e34.length 0 L (by omega) (by omega)

theorem items33 (k L : Nat) (hL : 100 ≤ L) {β : Type} (kr : Value → H → Option β) (kx : H → Option β) {h0 : H} {x0 : Value} {its : List (List Value)} (s0 : SliceE 38 h0 x0 its) (hl : its.length ≤ 20) (hc : ∀ x ∈ its, ItC h0 x) :
    ∀ (d i m : Nat) (h : H), i + d = its.length → d < m → Ext h0 h → ∃ h', Ext h0 h' ∧ (p33arrlrbw (callB Try.prog 0 [9] (k + 300)) L kr kx m (.int .i64 (i : Int)) x0 h = kr (.bool true) h' ∨ p33arrlrbw (callB Try.prog 0 [9] (k + 300)) L kr kx m (.int .i64 (i : Int)) x0 h = kx h') := by
  have hlen : A.lenS x0 = some (.int .i64 (its.length : Int)) := s0.len.1
  intro d
  induction d with
  | zero =>
    intro i m h hi hm x
    obtain ⟨m, rfl⟩ : ∃ q, m = q + 1 := ⟨m - 1, by omega⟩
    have hd : decide ((i : Int) < (its.length : Int)) = false := by rw [decide_eq_false_iff_not]; omega
    refine ⟨h, x, .inr ?_⟩
    simp only [p33arrlrbw, p33arrlrbo, p33arrlrbol, hlen, bnd_some, bin_lss, hd, toBK_bool, cond_false]
  | succ d ih =>
    intro i m h hi hm x
    obtain ⟨m, rfl⟩ : ∃ q, m = q + 1 := ⟨m - 1, by omega⟩
    have hd : decide ((i : Int) < (its.length : Int)) = true := by rw [decide_eq_true_iff]; omega
    have hil : i < its.length := by omega
    have hwr : IntKind.i64.wrap ((i : Int) + 1) = ((i + 1 : Nat) : Int) := wrap_succ (by omega)
    obtain ⟨h1, x1, e⟩ := item33 k L hL kr (fun x3 x0 h => p33arrlrborr (callB Try.prog 0 [9] (k + 300)) L x3 x0 h (fun x3 x0 h => p33arrlrbw (callB Try.prog 0 [9] (k + 300)) L kr kx m x3 x0 h)) x s0 hil (hc _ (List.getElem_mem hil))
    have run : p33arrlrbw (callB Try.prog 0 [9] (k + 300)) L kr kx (m + 1) (.int .i64 (i : Int)) x0 h = p33arrlrborlb (callB Try.prog 0 [9] (k + 300)) L (.int .i64 (i : Int)) x0 h kr (fun x3 x0 h => p33arrlrborr (callB Try.prog 0 [9] (k + 300)) L x3 x0 h (fun x3 x0 h => p33arrlrbw (callB Try.prog 0 [9] (k + 300)) L kr kx m x3 x0 h)) := by
      simp only [p33arrlrbw, p33arrlrbo, p33arrlrbol, hlen, bnd_some, bin_lss, hd, toBK_bool, cond_true, p33arrlrbor, p33arrlrborl]
    rw [run]
    rcases e with e | e
    · exact ⟨h1, x1, .inl e⟩
    · rw [e]
      simp only [p33arrlrborr, bin_add, bnd_some, hwr]
      exact ih (i + 1) m h1 (by omega) (by omega) x1

theorem T33 (k : Nat) {h0 h : H} (x : Ext h0 h) {x0 : Value} {its : List (List Value)} (s0 : SliceE 38 h0 x0 its) (hc : ∀ y ∈ its, ItC h0 y) : ∃ b h', callB Try.prog 0 [9] (k + 301) 33 [x0] h = some (.bool b, h') ∧ Ext h0 h' := by
  rw [F33eq [9] rfl]
  have hlen : A.lenS x0 = some (.int .i64 (its.length : Int)) := s0.len.1
  by_cases hg : 20 < its.length
  · have hd : decide ((20 : Int) < (its.length : Int)) = true := by rw [decide_eq_true_iff]; omega
    refine ⟨true, h, ?_, x⟩
    simp only [F33, p33a, p33al, p33ar, p33arl, hlen, bnd_some, bin_gtr, hd, toBK_bool, cond_true]
  · have hd : decide ((20 : Int) < (its.length : Int)) = false := by rw [decide_eq_false_iff_not]; omega
    obtain ⟨h', x', e⟩ := items33 k (k + 300) (by omega) (fun x2 h => some (x2, h)) (fun h => p33arrr (callB Try.prog 0 [9] (k + 300)) (k + 300) h (fun x2 h => some (x2, h))) s0 (by omega) hc its.length 0 (k + 300) h (by omega) (by omega) x
    have run : F33 (callB Try.prog 0 [9] (k + 300)) (k + 300) x0 h = p33arrlrbw (callB Try.prog 0 [9] (k + 300)) (k + 300) (fun x2 h => some (x2, h)) (fun h => p33arrr (callB Try.prog 0 [9] (k + 300)) (k + 300) h (fun x2 h => some (x2, h))) (k + 300) (.int .i64 ((0 : Nat) : Int)) x0 h := by
      simp only [F33, p33a, p33al, p33ar, p33arl, hlen, bnd_some, bin_gtr, hd, toBK_bool, cond_false, p33arr, p33arrl, p33arrll, p33arrlr, p33arrlrb]
      rfl
    rw [run]
    rcases e with e | e
    · exact ⟨true, h', e, x'⟩
    · exact ⟨false, h', e, x'⟩

/-- What the cells of a call hold. -/
structure ActR (h : H) (x : List Value) (kd : Nat) (fr to la : Int) (cv : Value) (its : List (List Value)) : Prop where
  eq : x = [.int .u8 (kd : Int), .int .i64 fr, .int .i64 to, .int .i64 la, cv]
  kd : kd < 256
  sl : SliceE 38 h cv its
  it : ∀ y ∈ its, ItC h y
  len : its.length ≤ maxLen
def ActC (h : H) (x : List Value) : Prop := ∃ kd fr to la cv its, ActR h x kd fr to la cv its

theorem act_open {h : H} {cs : List Value} (ty : Ty Try.prog h 31 cs) : ActC h cs := by
  have pl := ty.fields Try.underlying31
  simp only [TyFs] at pl
  obtain ⟨_, _, rfl, p0, ⟨_, _, rfl, p1, ⟨_, _, rfl, p2, ⟨_, _, rfl, p3, ⟨_, _, rfl, p4, rfl⟩⟩⟩⟩⟩ := pl
  obtain ⟨a0, rfl, w0⟩ := p0.int_inv Try.underlying5
  obtain ⟨a1, rfl, _⟩ := p1.int_inv Try.underlying3
  obtain ⟨a2, rfl, _⟩ := p2.int_inv Try.underlying3
  obtain ⟨a3, rfl, _⟩ := p3.int_inv Try.underlying3
  obtain ⟨v, its, rfl, s, m, t⟩ := p4.slice_inv Try.underlying29
  have c71 : Try.prog.cellsOf 71 = 38 := by kernel_rfl
  rw [c71] at s
  have hb : 0 ≤ a0 ∧ a0 < 256 := by
    have hq : IntKind.u8.min ≤ a0 ∧ a0 ≤ IntKind.u8.max := by simpa [Lit.wf] using w0
    have e1 : IntKind.u8.min = 0 := rfl
    have e2 : IntKind.u8.max = 255 := rfl
    omega
  refine ⟨a0.toNat, a1, a2, a3, v, its, ⟨?_, by omega, s, fun y hy => item_open (t y hy), m⟩⟩
  rw [Int.toNat_of_nonneg hb.1]; rfl

theorem acts8 (k L : Nat) {β : Type} (kr : Value → H → Option β) (kx : H → Option β) {h0 : H} {x0 : Value} {l : List (List Value)} (s0 : SliceE 5 h0 x0 l) (hl : l.length ≤ 300) (hc : ∀ x ∈ l, ActC h0 x) :
    ∀ (d i m : Nat) (h : H), i + d = l.length → d < m → Ext h0 h → ∃ h', Ext h0 h' ∧ (p8arrlrbw (callB Try.prog 0 [9] (k + 301)) L kr kx m (.int .i64 (i : Int)) x0 h = kr (.bool true) h' ∨ p8arrlrbw (callB Try.prog 0 [9] (k + 301)) L kr kx m (.int .i64 (i : Int)) x0 h = kx h') := by
  have hlen : A.lenS x0 = some (.int .i64 (l.length : Int)) := s0.len.1
  intro d
  induction d with
  | zero =>
    intro i m h hi hm x
    obtain ⟨m, rfl⟩ : ∃ q, m = q + 1 := ⟨m - 1, by omega⟩
    have hd : decide ((i : Int) < (l.length : Int)) = false := by rw [decide_eq_false_iff_not]; omega
    refine ⟨h, x, .inr ?_⟩
    simp only [p8arrlrbw, p8arrlrbo, hlen, bnd_some, bin_lss, hd, toBK_bool, cond_false]
  | succ d ih =>
    intro i m h hi hm x
    obtain ⟨m, rfl⟩ : ∃ q, m = q + 1 := ⟨m - 1, by omega⟩
    have hd : decide ((i : Int) < (l.length : Int)) = true := by rw [decide_eq_true_iff]; omega
    have hil : i < l.length := by omega
    have hwr : IntKind.i64.wrap ((i : Int) + 1) = ((i + 1 : Nat) : Int) := wrap_succ (by omega)
    obtain ⟨kd, fr, to, la, cv, its, R⟩ := hc _ (List.getElem_mem hil)
    have hel : l[i]? = some l[i] := List.getElem?_eq_getElem hil
    obtain ⟨id, off, cells, own, e1, _, e3, _, _, e6⟩ := (s0.ext x).at hel .i64
    have ld : A.load false 1 (.pointer (some ⟨id, off + 4, none⟩)) h = some cv := by
      rw [load1_eq, e3]
      have := e6 4 (by omega)
      rw [R.eq] at this
      exact this
    obtain ⟨b, h1, e33, x1⟩ := T33 k x R.sl R.it
    cases b with
    | true =>
      refine ⟨h1, x1, .inl ?_⟩
      simp only [p8arrlrbw, p8arrlrbo, hlen, bnd_some, bin_lss, hd, toBK_bool, cond_true, e1, fieldAddr_eq, ld, e33, bnd2_some]
    | false =>
      have run : p8arrlrbw (callB Try.prog 0 [9] (k + 301)) L kr kx (m + 1) (.int .i64 (i : Int)) x0 h = p8arrlrbw (callB Try.prog 0 [9] (k + 301)) L kr kx m (.int .i64 ((i + 1 : Nat) : Int)) x0 h1 := by
        simp only [p8arrlrbw, p8arrlrbo, hlen, bnd_some, bin_lss, hd, toBK_bool, cond_true, e1, fieldAddr_eq, ld, e33, bnd2_some, cond_false, bin_add, hwr]
      rw [run]
      exact ih (i + 1) m h1 (by omega) (by omega) x1

theorem T8 (k : Nat) {h0 : H} {x0 : Value} {l : List (List Value)} (s0 : SliceE 5 h0 x0 l) (hc : ∀ x ∈ l, ActC h0 x) : ∃ b h', callB Try.prog 0 [9] (k + 302) 8 [x0] h0 = some (.bool b, h') ∧ Ext h0 h' ∧ (b = false → l.length ≤ 300) := by
  rw [F8eq [9] rfl]
  have hlen : A.lenS x0 = some (.int .i64 (l.length : Int)) := s0.len.1
  by_cases hg : 300 < l.length
  · have hd : decide ((300 : Int) < (l.length : Int)) = true := by rw [decide_eq_true_iff]; omega
    refine ⟨true, h0, ?_, Ext.refl _, fun h => by cases h⟩
    simp only [F8, p8a, p8al, p8ar, p8arl, hlen, bnd_some, bin_gtr, hd, toBK_bool, cond_true]
  · have hd : decide ((300 : Int) < (l.length : Int)) = false := by rw [decide_eq_false_iff_not]; omega
    obtain ⟨h', x', e⟩ := acts8 k (k + 301) (fun x2 h => some (x2, h)) (fun h => p8arrr (callB Try.prog 0 [9] (k + 301)) (k + 301) h (fun x2 h => some (x2, h))) s0 (by omega) hc l.length 0 (k + 301) h0 (by omega) (by omega) (Ext.refl _)
    have run : F8 (callB Try.prog 0 [9] (k + 301)) (k + 301) x0 h0 = p8arrlrbw (callB Try.prog 0 [9] (k + 301)) (k + 301) (fun x2 h => some (x2, h)) (fun h => p8arrr (callB Try.prog 0 [9] (k + 301)) (k + 301) h (fun x2 h => some (x2, h))) (k + 301) (.int .i64 ((0 : Nat) : Int)) x0 h0 := by
      simp only [F8, p8a, p8al, p8ar, p8arl, hlen, bnd_some, bin_gtr, hd, toBK_bool, cond_false, p8arr, p8arrl, p8arrll, p8arrlr, p8arrlrb]
      rfl
    rw [run]
    rcases e with e | e
    · exact ⟨true, h', e, x', fun h => by cases h⟩
    · exact ⟨false, h', e, x', fun _ => by omega⟩
end Go.Proofs.Ytdjhkdogpbiglaa.MailD
