import Derived.Test.YtdjhkdogpbiglaaPlS
namespace Go.Proofs.Ytdjhkdogpbiglaa.MailD
open Go Go.AM
/-- What the cells of a packet hold. -/
structure PkF where
  i : Nat → Int
  s : Nat → ByteArray
  b : Nat → Bool
  w : Value
/-- A packet's cells. -/
def PkF.cells (f : PkF) : List Value :=
  [.int .u8 (f.i 0), .bool (f.b 1), .int .u8 (f.i 2), .bool (f.b 3), .int .u16 (f.i 4), .string (f.s 5), .string (f.s 6), .int .u8 (f.i 7), .bool (f.b 8), .int .u16 (f.i 9), .string (f.s 10), .bool (f.b 11), .string (f.s 12), .string (f.s 13), .int .u8 (f.i 14), .bool (f.b 15), .bool (f.b 16), .bool (f.b 17), .string (f.s 18), .string (f.s 19), .bool (f.b 20), .int .u8 (f.i 21), f.w, .string (f.s 23)]
/-- A note of a packet: a text and a number. -/
def SubC (x : List Value) : Prop := ∃ st q, x = [.string st, q]
theorem packet_open {h : H} {cs : List Value} (ty : Ty Try.prog h 66 cs) : ∃ (f : PkF) (els : List (List Value)), cs = f.cells ∧ SliceE 2 h f.w els ∧ (∀ x ∈ els, SubC x) ∧ els.length ≤ maxLen := by
  have pl := ty.fields Try.underlying66
  simp only [TyFs] at pl
  obtain ⟨_, _, rfl, p0, ⟨_, _, rfl, p1, ⟨_, _, rfl, p2, ⟨_, _, rfl, p3, ⟨_, _, rfl, p4, ⟨_, _, rfl, p5, ⟨_, _, rfl, p6, ⟨_, _, rfl, p7, ⟨_, _, rfl, p8, ⟨_, _, rfl, p9, ⟨_, _, rfl, p10, ⟨_, _, rfl, p11, ⟨_, _, rfl, p12, ⟨_, _, rfl, p13, ⟨_, _, rfl, p14, ⟨_, _, rfl, p15, ⟨_, _, rfl, p16, ⟨_, _, rfl, p17, ⟨_, _, rfl, p18, ⟨_, _, rfl, p19, ⟨_, _, rfl, p20, rfl⟩⟩⟩⟩⟩⟩⟩⟩⟩⟩⟩⟩⟩⟩⟩⟩⟩⟩⟩⟩⟩ := pl
  obtain ⟨a4, rfl, _⟩ := p0.int_inv Try.underlying5
  obtain ⟨a5, rfl⟩ := p1.bool_inv Try.underlying4
  obtain ⟨a6, rfl, _⟩ := p2.int_inv Try.underlying5
  obtain ⟨a7, rfl⟩ := p3.bool_inv Try.underlying4
  obtain ⟨a8, rfl, _⟩ := p4.int_inv Try.underlying61
  obtain ⟨a9, rfl, _⟩ := p5.str_inv Try.underlying9
  obtain ⟨a10, rfl, _⟩ := p6.str_inv Try.underlying9
  obtain ⟨a11, rfl, _⟩ := p7.int_inv Try.underlying5
  obtain ⟨a12, rfl⟩ := p8.bool_inv Try.underlying4
  obtain ⟨a13, rfl, _⟩ := p9.int_inv Try.underlying61
  obtain ⟨a14, rfl, _⟩ := p10.str_inv Try.underlying9
  obtain ⟨a15, rfl⟩ := p11.bool_inv Try.underlying4
  obtain ⟨a20, rfl⟩ := p13.bool_inv Try.underlying4
  obtain ⟨a21, rfl⟩ := p14.bool_inv Try.underlying4
  obtain ⟨a22, rfl, _⟩ := p15.str_inv Try.underlying9
  obtain ⟨a23, rfl, _⟩ := p16.str_inv Try.underlying9
  obtain ⟨a24, rfl⟩ := p17.bool_inv Try.underlying4
  obtain ⟨a25, rfl, _⟩ := p18.int_inv Try.underlying5
  obtain ⟨a27, rfl, _⟩ := p20.str_inv Try.underlying9
  obtain ⟨w, els, rfl, hs, hm, he⟩ := p19.slice_inv Try.underlying64
  have wl := p12.fields Try.underlying63
  simp only [TyFs] at wl
  obtain ⟨_, _, rfl, q0, ⟨_, _, rfl, q1, ⟨_, _, rfl, q2, ⟨_, _, rfl, q3, rfl⟩⟩⟩⟩ := wl
  obtain ⟨a16, rfl, _⟩ := q0.str_inv Try.underlying9
  obtain ⟨a17, rfl, _⟩ := q1.str_inv Try.underlying9
  obtain ⟨a18, rfl, _⟩ := q2.int_inv Try.underlying5
  obtain ⟨a19, rfl⟩ := q3.bool_inv Try.underlying4
  refine ⟨⟨fun k => match k with | 0 => a4 | 2 => a6 | 4 => a8 | 7 => a11 | 9 => a13 | 14 => a18 | 21 => a25 | _ => 0, fun k => match k with | 5 => a9 | 6 => a10 | 10 => a14 | 12 => a16 | 13 => a17 | 18 => a22 | 19 => a23 | 23 => a27 | _ => .empty, fun k => match k with | 1 => a5 | 3 => a7 | 8 => a12 | 11 => a15 | 15 => a19 | 16 => a20 | 17 => a21 | 20 => a24 | _ => false, w⟩, els, rfl, hs, fun x hx => ?_, hm⟩
  have xl := (he x hx).fields Try.underlying75
  simp only [TyFs] at xl
  obtain ⟨_, _, rfl, x0, ⟨_, _, rfl, x1, rfl⟩⟩ := xl
  obtain ⟨b0, rfl, _⟩ := x0.str_inv Try.underlying9
  obtain ⟨b1, rfl, _⟩ := x1.int_inv Try.underlying5
  exact ⟨b0, _, rfl⟩
/-- A row of texts that may grow. -/
def Txs (h : H) (v : Value) (l : List ByteArray) : Prop :=
  ∃ q e, v = .slice (some ⟨q, 0, none⟩) l.length (2 * l.length + e) ∧ e < 2 ∧ q < h.next ∧ h.get q = some (.cells (l.map Value.string) (some 1))
theorem Txs.ext {h h' : H} {v : Value} {l : List ByteArray} (t : Txs h v l) (x : Ext h h') : Txs h' v l := by
  obtain ⟨q, e, hv, he, hq, hg⟩ := t
  exact ⟨q, e, hv, he, Nat.lt_of_lt_of_le hq x.next, by rw [x.get q hq]; exact hg⟩
theorem Txs.push {hA h : H} {v : Value} {l : List ByteArray} {s : ByteArray} (t : Txs h v l) (x : Ext hA h) (hv : ∀ i, sid v = some i → hA.next ≤ i) (hl : l.length ≤ 70000) :
    ∃ u h1 v' h', A.buildSlice 1 1 Z9L [(0, 1, .string s)] h = some (u, h1) ∧ A.append 1 16 v u h1 = some (v', h') ∧ Txs h' v' (l ++ [s]) ∧ Ext hA h' ∧ (∀ i, sid v' = some i → hA.next ≤ i) := by
  obtain ⟨q, e, rfl, he, hq, hg⟩ := t
  have hqA : hA.next ≤ q := hv q rfl
  have xn := x.next
  have hb := buildSlice_one (n := 1) (zs := Z9L) h rfl (cellsL_string s) rfl
  obtain ⟨h1, hh1⟩ : ∃ h1, h1 = h.push (.cells [.string s] (some 1)) := ⟨_, rfl⟩
  rw [← hh1] at hb
  have x1 : Ext h h1 := hh1 ▸ Ext.push h _
  have n1 : h1.next = h.next + 1 := by rw [hh1]; rfl
  have g1 : h1.get h.next = some (.cells [.string s] (some 1)) := by rw [hh1, H.get_push, if_pos rfl]
  have gq : h1.get q = some (.cells (l.map Value.string) (some 1)) := by rw [x1.get q hq]; exact hg
  have hel : A.elems 1 (.slice (some ⟨h.next, 0, none⟩) 1 3) h1 = some [.string s] := by simp only [A.elems, g1]; rfl
  have hlo : A.lenOf (.slice (some ⟨h.next, 0, none⟩) 1 3) = 1 := rfl
  have c1 : Nat.ble (l.length + 1) ((2 * l.length + e) / 2) = false := by rw [ble_dec, decide_eq_false_iff_not]; omega
  have c2 : Nat.ble ((l.length + 1) * 16) (2 ^ 47) = true := by rw [ble_dec, decide_eq_true_iff]; omega
  have c3 : Nat.ble (l.length + 1) (2 ^ 47) = true := by rw [ble_dec, decide_eq_true_iff]; omega
  have c4 : Nat.ble (0 + l.length * 1) (l.map Value.string).length = true := by rw [ble_dec, decide_eq_true_iff, List.length_map]; omega
  have c0 : Nat.beq 1 0 = false := rfl
  by_cases hz : e = 1
  · have c5 : Nat.beq ((2 * l.length + e) % 2) 1 = true := by rw [beq_dec', decide_eq_true_iff]; omega
    refine ⟨_, h1, .slice (some ⟨h1.next, 0, none⟩) (l.length + 1) (2 * (l.length + 1)), h1.push (.cells (((l.map Value.string).drop 0).take (l.length * 1) ++ [.string s]) (some 1)), hb, ?_, ⟨h1.next, 0, by simp, by omega, Nat.lt_succ_self _, ?_⟩, (x.trans x1).pushed _, fun i hi => ?_⟩
    · simp only [A.append, hel, hlo, c0, cond_false, gq, c1, c2, c3, c4, c5, Bool.and_self, cond_true]
    · rw [H.get_push, if_pos rfl, List.drop_zero, Nat.mul_one, List.take_of_length_le (by simp), List.map_append]
      rfl
    · have : h1.next = i := by simpa [sid] using hi
      omega
  · have c5 : Nat.beq ((2 * l.length + e) % 2) 1 = false := by rw [beq_dec', decide_eq_false_iff_not]; omega
    have c6 : Nat.beq (0 + l.length * 1) (l.map Value.string).length = true := by rw [beq_dec', decide_eq_true_iff, List.length_map]; omega
    have c7 : Nat.beq 1 1 = true := rfl
    refine ⟨_, h1, .slice (some ⟨h1.next, 0, none⟩) (l.length + 1) (2 * (l.length + 1)), (h1.kill q).push (.cells ((l.map Value.string).drop 0 ++ [.string s]) (some 1)), hb, ?_, ⟨h1.next, 0, by simp, by omega, Nat.lt_succ_self _, ?_⟩, ((x.trans x1).kill q hqA).pushed _, fun i hi => ?_⟩
    · simp only [A.append, hel, hlo, c0, cond_false, gq, c1, c2, c3, c4, c5, c6, c7, Bool.and_self, cond_true]
    · rw [H.get_push, next_kill', if_pos rfl, List.drop_zero, List.map_append]
      rfl
    · have : h1.next = i := by simpa [sid] using hi
      omega
theorem Txs.at {h : H} {v : Value} {l : List ByteArray} (t : Txs h v l) {i : Nat} (hi : i < l.length) : ∃ a, A.idxS 1 v (.int .i64 (i : Int)) = some (.pointer (some a)) ∧ A.load false 1 (.pointer (some a)) h = some (.string l[i]) := by
  obtain ⟨q, e, rfl, _, hq, hg⟩ := t
  have ix := idxS_eq 1 q 0 l.length (2 * l.length + e) i .i64 hi
  refine ⟨_, ix, ?_⟩
  rw [load1_eq, hg]
  simp [List.getElem?_map, hi]
theorem Txs.len {h : H} {v : Value} {l : List ByteArray} (t : Txs h v l) : A.lenS v = some (.int .i64 (l.length : Int)) := by
  obtain ⟨q, e, rfl, _⟩ := t; rfl
/-- Texts of the notes are gathered. -/
theorem subs46 (C : CF) (L : Nat) {β : Type} (kx : Value → Value → H → Option β) {hA : H} {n : Nat} (hn : n < hA.next) {cs : List Value} {w : Value} (hg : hA.get n = some (.cells cs (some 0))) (hw : cs[22]? = some w) {els : List (List Value)} (sw : SliceE 2 hA w els) (he : ∀ x ∈ els, SubC x) (hlen : els.length ≤ 100) (x3 : Value) :
    ∀ (d i m : Nat) (h : H) (v : Value) (l : List ByteArray), i + d = els.length → d < m → Ext hA h → Txs h v l → (∀ i, sid v = some i → hA.next ≤ i) → l.length = 8 + i →
      ∃ h' v' l', p46arrrrlrbw C L kx m (.int .i64 (i : Int)) (ptrV n) v x3 h = kx v' x3 h' ∧ Ext hA h' ∧ Txs h' v' l' ∧ l'.length = 8 + els.length := by
  have hlen2 : A.lenS w = some (.int .i64 (els.length : Int)) := sw.len.1
  intro d
  induction d with
  | zero =>
    intro i m h v l hi hm x t hv hl
    obtain ⟨m, rfl⟩ : ∃ q, m = q + 1 := ⟨m - 1, by omega⟩
    have ld : A.load false 1 (.pointer (some ⟨n, 22, none⟩)) h = some w := by rw [load1_eq, x.get n hn, hg]; exact hw
    have hd : decide ((i : Int) < (els.length : Int)) = false := by rw [decide_eq_false_iff_not]; omega
    refine ⟨h, v, l, ?_, x, t, by omega⟩
    simp only [p46arrrrlrbw, p46arrrrlrbo, fieldAddr_eq, Nat.zero_add, bnd_some, ld, hlen2, bin_lss, hd, toBK_bool, cond_false]
  | succ d ih =>
    intro i m h v l hi hm x t hv hl
    obtain ⟨m, rfl⟩ : ∃ q, m = q + 1 := ⟨m - 1, by omega⟩
    have ld : A.load false 1 (.pointer (some ⟨n, 22, none⟩)) h = some w := by rw [load1_eq, x.get n hn, hg]; exact hw
    have hd : decide ((i : Int) < (els.length : Int)) = true := by rw [decide_eq_true_iff]; omega
    have hil : i < els.length := by omega
    obtain ⟨st, qv, hx⟩ := he _ (List.getElem_mem hil)
    have hel : els[i]? = some [.string st, qv] := by rw [List.getElem?_eq_getElem hil, hx]
    obtain ⟨id, off, cells, own, e1, _, e3, _, _, e6⟩ := (sw.ext x).at hel .i64
    have ld2 : A.load false 1 (.pointer (some ⟨id, off, none⟩)) h = some (.string st) := by rw [load1_eq, e3]; exact e6 0 (by omega)
    have hwr : IntKind.i64.wrap ((i : Int) + 1) = ((i + 1 : Nat) : Int) := wrap_succ (by omega)
    obtain ⟨u, h1, v1, h2, b1, b2, t2, x2, hv2⟩ := t.push (s := st) x hv (by omega)
    obtain ⟨h', v', l', q1, q2, q3, q4⟩ := ih (i + 1) m h2 v1 (l ++ [st]) (by omega) (by omega) x2 t2 hv2 (by simp; omega)
    refine ⟨h', v', l', ?_, q2, q3, q4⟩
    simp only [p46arrrrlrbw, p46arrrrlrbo, fieldAddr_eq, Nat.zero_add, Nat.add_zero, bnd_some, ld, hlen2, bin_lss, hd, toBK_bool, cond_true, e1, ld2, b1, bnd2_some, b2, bin_add, hwr]
    exact q1
/-- Their lengths are held against what is allowed. -/
theorem txs46 (C : CF) (L : Nat) {β : Type} (kr : Value → H → Option β) (kx : H → Option β) {h : H} {v : Value} {l : List ByteArray} (t : Txs h v l) (hl : l.length ≤ 200) :
    ∀ (d i m : Nat) (x3 : Int), i + d = l.length → d < m → 0 ≤ x3 → x3 ≤ 10000 → p46arrrrrlrbw C L kr kx m (.int .i64 (i : Int)) v (.int .i64 x3) h = kr (.bool true) h ∨ p46arrrrrlrbw C L kr kx m (.int .i64 (i : Int)) v (.int .i64 x3) h = kx h := by
  intro d
  induction d with
  | zero =>
    intro i m x3 hi hm _ _
    obtain ⟨m, rfl⟩ : ∃ q, m = q + 1 := ⟨m - 1, by omega⟩
    have hd : decide ((i : Int) < (l.length : Int)) = false := by rw [decide_eq_false_iff_not]; omega
    right
    simp only [p46arrrrrlrbw, p46arrrrrlrbo, t.len, bnd_some, bin_lss, hd, toBK_bool, cond_false]
  | succ d ih =>
    intro i m x3 hi hm h0 h1
    obtain ⟨m, rfl⟩ : ∃ q, m = q + 1 := ⟨m - 1, by omega⟩
    have hd : decide ((i : Int) < (l.length : Int)) = true := by rw [decide_eq_true_iff]; omega
    have hil : i < l.length := by omega
    obtain ⟨a, ix, ld⟩ := t.at hil
    have hwr : IntKind.i64.wrap ((i : Int) + 1) = ((i + 1 : Nat) : Int) := wrap_succ (by omega)
    by_cases hg : x3 < (l[i].size : Int)
    · left
      have hgd : decide (x3 < (l[i].size : Int)) = true := decide_eq_true hg
      simp only [p46arrrrrlrbw, p46arrrrrlrbo, t.len, bnd_some, bin_lss, hd, toBK_bool, cond_true, ix, ld, lenStr_eq, bin_gtr, hgd]
    · have hgd : decide (x3 < (l[i].size : Int)) = false := decide_eq_false hg
      have hw2 : IntKind.i64.wrap (x3 - (l[i].size : Int)) = x3 - (l[i].size : Int) := wrap64 (by omega) (by omega)
      have e : p46arrrrrlrbw C L kr kx (m + 1) (.int .i64 (i : Int)) v (.int .i64 x3) h = p46arrrrrlrbw C L kr kx m (.int .i64 ((i + 1 : Nat) : Int)) v (.int .i64 (x3 - (l[i].size : Int))) h := by
        simp only [p46arrrrrlrbw, p46arrrrrlrbo, t.len, bnd_some, bin_lss, hd, toBK_bool, cond_true, ix, ld, lenStr_eq, bin_gtr, hgd, cond_false, bin_sub, hw2, bin_add, hwr]
      rw [e]
      exact ih (i + 1) m _ (by omega) (by omega) (by omega) (by omega)
end Go.Proofs.Ytdjhkdogpbiglaa.MailD

namespace Go.Proofs.Ytdjhkdogpbiglaa.MailD
open Go Go.AM
/-- Cells of a packet that can be read. -/
def PkC (h : H) (x : List Value) : Prop := ∃ (f : PkF) (els : List (List Value)), x = f.cells ∧ SliceE 2 h f.w els ∧ (∀ y ∈ els, SubC y) ∧ els.length ≤ maxLen
def MsC (x : List Value) : Prop := ∃ a b c d, x = [.string a, .string b, c, d]
def TxC (x : List Value) : Prop := ∃ a, x = [.string a]
/-- Cells of an item that can be read. -/
structure ItR (h : H) (it : List Value) (k op cn : Value) (s3 s4 : ByteArray) (f : PkF) (s29 s30 : ByteArray) (q r w33 w34 w35 fr mn : Value) (e22 e33 e34 e35 : List (List Value)) : Prop where
  eq : it = [k, op, cn, .string s3, .string s4] ++ f.cells ++ [.string s29, .string s30, q, r, w33, w34, w35, fr, mn]
  s22 : SliceE 2 h f.w e22
  c22 : ∀ x ∈ e22, SubC x
  s33 : SliceE 4 h w33 e33
  c33 : ∀ x ∈ e33, MsC x
  s34 : SliceE 1 h w34 e34
  c34 : ∀ x ∈ e34, TxC x
  s35 : SliceE 24 h w35 e35
  c35 : ∀ x ∈ e35, PkC h x
  len : e22.length ≤ maxLen ∧ e33.length ≤ maxLen ∧ e34.length ≤ maxLen ∧ e35.length ≤ maxLen
  pl : plain k = true ∧ plain op = true ∧ plain cn = true ∧ plain q = true ∧ plain r = true ∧ plain fr = true ∧ plain mn = true
def ItC (h : H) (it : List Value) : Prop := ∃ k op cn s3 s4 f s29 s30 q r w33 w34 w35 fr mn e22 e33 e34 e35, ItR h it k op cn s3 s4 f s29 s30 q r w33 w34 w35 fr mn e22 e33 e34 e35
theorem item_open {h : H} {cs : List Value} (ty : Ty Try.prog h 71 cs) : ItC h cs := by
  have pl := ty.fields Try.underlying71
  simp only [TyFs] at pl
  obtain ⟨_, _, rfl, p0, ⟨_, _, rfl, p1, ⟨_, _, rfl, p2, ⟨_, _, rfl, p3, ⟨_, _, rfl, p4, ⟨_, _, rfl, p5, ⟨_, _, rfl, p6, ⟨_, _, rfl, p7, ⟨_, _, rfl, p8, ⟨_, _, rfl, p9, ⟨_, _, rfl, p10, ⟨_, _, rfl, p11, rfl⟩⟩⟩⟩⟩⟩⟩⟩⟩⟩⟩⟩ := pl
  obtain ⟨a0, rfl, _⟩ := p0.int_inv Try.underlying5
  obtain ⟨a1, rfl, _⟩ := p1.int_inv Try.underlying3
  obtain ⟨a2, rfl, _⟩ := p2.int_inv Try.underlying3
  obtain ⟨a3, rfl, _⟩ := p3.str_inv Try.underlying9
  obtain ⟨a4, rfl, _⟩ := p4.str_inv Try.underlying9
  obtain ⟨f, e22, rfl, s22, c22, m22⟩ := packet_open p5
  obtain ⟨w33, e33, rfl, s33, m33, t33⟩ := p7.slice_inv Try.underlying67
  obtain ⟨w34, e34, rfl, s34, m34, t34⟩ := p8.slice_inv Try.underlying68
  obtain ⟨w35, e35, rfl, s35, m35, t35⟩ := p9.slice_inv Try.underlying69
  obtain ⟨a36, rfl, _⟩ := p10.int_inv Try.underlying3
  obtain ⟨a37, rfl, _⟩ := p11.int_inv Try.underlying3
  have wl := p6.fields Try.underlying63
  simp only [TyFs] at wl
  obtain ⟨_, _, rfl, q0, ⟨_, _, rfl, q1, ⟨_, _, rfl, q2, ⟨_, _, rfl, q3, rfl⟩⟩⟩⟩ := wl
  obtain ⟨b0, rfl, _⟩ := q0.str_inv Try.underlying9
  obtain ⟨b1, rfl, _⟩ := q1.str_inv Try.underlying9
  obtain ⟨b2, rfl, _⟩ := q2.int_inv Try.underlying5
  obtain ⟨b3, rfl⟩ := q3.bool_inv Try.underlying4
  have c63 : Try.prog.cellsOf 63 = 4 := by kernel_rfl
  have c9 : Try.prog.cellsOf 9 = 1 := by kernel_rfl
  have c66 : Try.prog.cellsOf 66 = 24 := by kernel_rfl
  rw [c63] at s33
  rw [c9] at s34
  rw [c66] at s35
  refine ⟨_, _, _, _, _, f, _, _, _, _, w33, w34, w35, _, _, e22, e33, e34, e35, ⟨rfl, s22, c22, s33, fun x hx => ?_, s34, fun x hx => ?_, s35, fun x hx => packet_open (t35 x hx), ⟨m22, m33, m34, m35⟩, ⟨rfl, rfl, rfl, rfl, rfl, rfl, rfl⟩⟩⟩
  · have xl := (t33 x hx).fields Try.underlying63
    simp only [TyFs] at xl
    obtain ⟨_, _, rfl, x0, ⟨_, _, rfl, x1, ⟨_, _, rfl, x2, ⟨_, _, rfl, x3, rfl⟩⟩⟩⟩ := xl
    obtain ⟨y0, rfl, _⟩ := x0.str_inv Try.underlying9
    obtain ⟨y1, rfl, _⟩ := x1.str_inv Try.underlying9
    obtain ⟨y2, rfl, _⟩ := x2.int_inv Try.underlying5
    obtain ⟨y3, rfl⟩ := x3.bool_inv Try.underlying4
    exact ⟨y0, y1, _, _, rfl⟩
  · obtain ⟨y0, e, _⟩ := (t34 x hx).str_inv Try.underlying9
    exact ⟨y0, e⟩
theorem bif_ex {α : Type} (b : Bool) (F : Bool → α) (rest : α) (hr : ∃ c, rest = F c) : ∃ c, (bif b then F true else rest) = F c := by
  cases b with
  | true => exact ⟨true, rfl⟩
  | false => exact hr
/-- What the cells of a call hold. -/
structure ActR (h : H) (x : List Value) (kd : Nat) (fr to la : Int) (cv : Value) (its : List (List Value)) : Prop where
  eq : x = [.int .u8 (kd : Int), .int .i64 fr, .int .i64 to, .int .i64 la, cv]
  kd : kd < 256
  sl : SliceE 38 h cv its
  it : ∀ y ∈ its, ItC h y
  len : its.length ≤ maxLen
def ActC (h : H) (x : List Value) : Prop := ∃ kd fr to la cv its, ActR h x kd fr to la cv its
theorem act_open {h : H} {cs : List Value} (ty : Ty Try.prog h 31 cs) : ActC h cs := by
  have pl := ty.fields Try.underlying31
  simp only [TyFs] at pl
  obtain ⟨_, _, rfl, p0, ⟨_, _, rfl, p1, ⟨_, _, rfl, p2, ⟨_, _, rfl, p3, ⟨_, _, rfl, p4, rfl⟩⟩⟩⟩⟩ := pl
  obtain ⟨a0, rfl, w0⟩ := p0.int_inv Try.underlying5
  obtain ⟨a1, rfl, _⟩ := p1.int_inv Try.underlying3
  obtain ⟨a2, rfl, _⟩ := p2.int_inv Try.underlying3
  obtain ⟨a3, rfl, _⟩ := p3.int_inv Try.underlying3
  obtain ⟨v, its, rfl, s, m, t⟩ := p4.slice_inv Try.underlying29
  have c71 : Try.prog.cellsOf 71 = 38 := by kernel_rfl
  rw [c71] at s
  have hb : 0 ≤ a0 ∧ a0 < 256 := by
    have hq : IntKind.u8.min ≤ a0 ∧ a0 ≤ IntKind.u8.max := by simpa [Lit.wf] using w0
    have e1 : IntKind.u8.min = 0 := rfl
    have e2 : IntKind.u8.max = 255 := rfl
    omega
  refine ⟨a0.toNat, a1, a2, a3, v, its, ⟨?_, by omega, s, fun y hy => item_open (t y hy), m⟩⟩
  rw [Int.toNat_of_nonneg hb.1]; rfl
end Go.Proofs.Ytdjhkdogpbiglaa.MailD

namespace Go.Proofs.Ytdjhkdogpbiglaa.MailD
open Go Go.AM
/-- A packet's cells that can be read, within the bounds. -/
def PkB (h : H) (x : List Value) : Prop := ∃ (f : PkF) (els : List (List Value)), x = f.cells ∧ SliceE 2 h f.w els ∧ (∀ y ∈ els, SubC y) ∧ els.length ≤ 100
/-- An item's. -/
def ItB (h : H) (it : List Value) : Prop := ∃ k op cn s3 s4 f s29 s30 q r w33 w34 w35 fr mn e22 e33 e34 e35, ItR h it k op cn s3 s4 f s29 s30 q r w33 w34 w35 fr mn e22 e33 e34 e35 ∧ e22.length ≤ 100 ∧ e33.length ≤ 20 ∧ e34.length ≤ 20 ∧ e35.length ≤ 20 ∧ ∀ y ∈ e35, PkB h y
/-- A call's. -/
def ActB (h : H) (x : List Value) : Prop := ∃ kd fr to la cv its, ActR h x kd fr to la cv its ∧ its.length ≤ 20 ∧ ∀ y ∈ its, ItB h y
theorem T46b (k : Nat) {h : H} {f : PkF} {els : List (List Value)} (sw : SliceE 2 h f.w els) (he : ∀ x ∈ els, SubC x) : ∃ b h', callB Try.prog 0 [9] (k + 300) 46 [.agg ⟨f.cells⟩] h = some (.bool b, h') ∧ Ext h h' ∧ (b = false → els.length ≤ 100) := by
  rw [F46eq [9] rfl]
  obtain ⟨h1, hh1⟩ : ∃ h1, h1 = h.push (.cells f.cells (some 0)) := ⟨_, rfl⟩
  have eb : A.box 24 (.agg ⟨f.cells⟩) h = some (ptrV h.next, h1) := by rw [hh1]; rfl
  have n1 : h1.next = h.next + 1 := by rw [hh1]; rfl
  have x1 : Ext h h1 := hh1 ▸ Ext.push h _
  have g1 : h1.get h.next = some (.cells f.cells (some 0)) := by rw [hh1, H.get_push, if_pos rfl]
  have l22 : A.load false 1 (.pointer (some ⟨h.next, 22, none⟩)) h1 = some f.w := by rw [load1_eq, g1]; rfl
  have hlen : A.lenS f.w = some (.int .i64 (els.length : Int)) := sw.len.1
  by_cases hgr : 100 < els.length
  · have hd : decide ((100 : Int) < (els.length : Int)) = true := by rw [decide_eq_true_iff]; omega
    refine ⟨true, h1, ?_, x1, fun h => by cases h⟩
    simp only [F46, p46a, p46al, eb, bnd2_some, p46ar, p46arl, fieldAddr_eq, Nat.zero_add, bnd_some, l22, hlen, bin_gtr, hd, toBK_bool, cond_true]
  have hd : decide ((100 : Int) < (els.length : Int)) = false := by rw [decide_eq_false_iff_not]; omega
  have ls : ∀ i st, f.cells[i]? = some (.string st) → A.load false 1 (.pointer (some ⟨h.next, i, none⟩)) h1 = some (.string st) := fun i st hs => by rw [load1_eq, g1]; exact hs
  have l5 := ls 5 (f.s 5) rfl
  have l6 := ls 6 (f.s 6) rfl
  have l10 := ls 10 (f.s 10) rfl
  have l12 := ls 12 (f.s 12) rfl
  have l13 := ls 13 (f.s 13) rfl
  have l18 := ls 18 (f.s 18) rfl
  have l19 := ls 19 (f.s 19) rfl
  have l23 := ls 23 (f.s 23) rfl
  obtain ⟨h2, hh2⟩ : ∃ h2, h2 = h1.push (.cells ([f.s 5, f.s 6, f.s 10, f.s 12, f.s 13, f.s 18, f.s 19, f.s 23].map Value.string) (some 1)) := ⟨_, rfl⟩
  have bs : A.buildSlice 1 8 Z9L [(0, 1, .string (f.s 5)), (1, 1, .string (f.s 6)), (2, 1, .string (f.s 10)), (3, 1, .string (f.s 12)), (4, 1, .string (f.s 13)), (5, 1, .string (f.s 18)), (6, 1, .string (f.s 19)), (7, 1, .string (f.s 23))] h1
      = some (.slice (some ⟨h1.next, 0, none⟩) 8 17, h2) := by rw [hh2]; rfl
  have x2 : Ext h1 h2 := hh2 ▸ Ext.push h1 _
  have n2 : h2.next = h1.next + 1 := by rw [hh2]; rfl
  have t2 : Txs h2 (.slice (some ⟨h1.next, 0, none⟩) 8 17) [f.s 5, f.s 6, f.s 10, f.s 12, f.s 13, f.s 18, f.s 19, f.s 23] := ⟨h1.next, 1, rfl, by omega, by omega, by rw [hh2, H.get_push, if_pos rfl]⟩
  have sw1 := sw.ext x1
  obtain ⟨h3, v3, l3, e3, x3, t3, n3⟩ := subs46 (callB Try.prog 0 [9] (k + 299)) (k + 299) (fun x4 x3 h => p46arrrrr (callB Try.prog 0 [9] (k + 299)) (k + 299) x4 x3 h (fun x2 h => some (x2, h))) (hA := h1) (n := h.next) (by omega) g1 (show f.cells[22]? = some f.w from rfl) sw1 he (by omega) (.int .i64 10000)
    els.length 0 (k + 299) h2 _ _ (by omega) (by omega) x2 t2 (fun i hi => by
      have : h1.next = i := (by simpa [sid] using hi)
      omega) rfl
  have e3' : p46arrrrlrbw (callB Try.prog 0 [9] (k + 299)) (k + 299) (fun x4 x3 h => p46arrrrr (callB Try.prog 0 [9] (k + 299)) (k + 299) x4 x3 h (fun x2 h => some (x2, h))) (k + 299) (.int .i64 0) (ptrV h.next) (.slice (some ⟨h1.next, 0, none⟩) 8 17) (.int .i64 10000) h2 = _ := e3
  have e4 := txs46 (callB Try.prog 0 [9] (k + 299)) (k + 299) (fun x2 h => some (x2, h)) (fun h => p46arrrrrr (callB Try.prog 0 [9] (k + 299)) (k + 299) h (fun x2 h => some (x2, h))) t3 (by omega) l3.length 0 (k + 299) 10000 (by omega) (by omega) (by omega) (by omega)
  have e4' : p46arrrrrlrbw (callB Try.prog 0 [9] (k + 299)) (k + 299) (fun x2 h => some (x2, h)) (fun h => p46arrrrrr (callB Try.prog 0 [9] (k + 299)) (k + 299) h (fun x2 h => some (x2, h))) (k + 299) (.int .i64 0) v3 (.int .i64 10000) h3 = some (.bool true, h3) ∨
    p46arrrrrlrbw (callB Try.prog 0 [9] (k + 299)) (k + 299) (fun x2 h => some (x2, h)) (fun h => p46arrrrrr (callB Try.prog 0 [9] (k + 299)) (k + 299) h (fun x2 h => some (x2, h))) (k + 299) (.int .i64 0) v3 (.int .i64 10000) h3 = some (.bool false, h3) := e4
  have run : F46 (callB Try.prog 0 [9] (k + 299)) (k + 299) (.agg ⟨f.cells⟩) h = p46arrrrrlrbw (callB Try.prog 0 [9] (k + 299)) (k + 299) (fun x2 h => some (x2, h)) (fun h => p46arrrrrr (callB Try.prog 0 [9] (k + 299)) (k + 299) h (fun x2 h => some (x2, h))) (k + 299) (.int .i64 0) v3 (.int .i64 10000) h3 := by
    simp only [F46, p46a, p46al, eb, bnd2_some, p46ar, p46arl, fieldAddr_eq, Nat.zero_add, bnd_some, l22, hlen, bin_gtr, hd, toBK_bool, cond_false, p46arr, p46arrl, p46arrr, p46arrrl, l5, l6, l10, Nat.add_zero, l12, l13, l18, l19, l23, bs, p46arrrr, p46arrrrl, p46arrrrll, p46arrrrlr, p46arrrrlrb]
    rw [e3']
    simp only [p46arrrrr, p46arrrrrl, p46arrrrrll, p46arrrrrlr, p46arrrrrlrb]
  rw [run]
  rcases e4' with e | e
  · exact ⟨true, h3, e, x1.trans x3, fun h => by cases h⟩
  · exact ⟨false, h3, e, x1.trans x3, fun _ => by omega⟩
/-- The checks of one item. -/
theorem chk33b (k L : Nat) {β : Type} (kn : Value → Value → Value → Value → H → Option β) {h0 h1 : H} {n : Nat} {it : List Value} (x01 : Ext h0 h1) (hg : h1.get n = some (.cells it (some 0)))
    {kd op cn : Value} {s3 s4 : ByteArray} {f : PkF} {s29 s30 : ByteArray} {q r w33 w34 w35 fr mn : Value} {e22 e33 e34 e35 : List (List Value)} (R : ItR h0 it kd op cn s3 s4 f s29 s30 q r w33 w34 w35 fr mn e22 e33 e34 e35) (hn : n < h1.next) (x3 x0 : Value) :
    ∃ h2, Ext h1 h2 ∧ (p33arrlrborlbrll (callB Try.prog 0 [9] (k + 300)) L (ptrV n) x3 x0 h1 kn = kn (.bool true) (ptrV n) x3 x0 h2 ∨
      (e22.length ≤ 100 ∧ e33.length ≤ 20 ∧ e34.length ≤ 20 ∧ e35.length ≤ 20 ∧ p33arrlrborlbrll (callB Try.prog 0 [9] (k + 300)) L (ptrV n) x3 x0 h1 kn = kn (.bool false) (ptrV n) x3 x0 h2)) := by
  obtain ⟨b1, h2, e46, x2, hb1⟩ := T46b k (R.s22.ext x01) R.c22
  have g2 : h2.get n = some (.cells it (some 0)) := by rw [x2.get n hn]; exact hg
  have itl : it.length = 38 := by rw [R.eq]; rfl
  have l5 : A.load true 24 (.pointer (some ⟨n, 5, none⟩)) h1 = some (.agg ⟨f.cells⟩) := by
    rw [loadN_eq, hg]
    have : Nat.ble (5 + 24) it.length = true := by rw [itl]; rfl
    simp only [this, cond_true]
    rw [R.eq]; rfl
  have ls : ∀ i v, it[i]? = some v → A.load false 1 (.pointer (some ⟨n, i, none⟩)) h2 = some v := fun i v hv => by rw [load1_eq, g2]; exact hv
  have l33 := ls 33 w33 (by rw [R.eq]; rfl)
  have l34 := ls 34 w34 (by rw [R.eq]; rfl)
  have l35 := ls 35 w35 (by rw [R.eq]; rfl)
  have l3 := ls 3 (.string s3) (by rw [R.eq]; rfl)
  have l4 := ls 4 (.string s4) (by rw [R.eq]; rfl)
  have l29 := ls 29 (.string s29) (by rw [R.eq]; rfl)
  have l30 := ls 30 (.string s30) (by rw [R.eq]; rfl)
  have n33 : A.lenS w33 = some (.int .i64 (e33.length : Int)) := R.s33.len.1
  have n34 : A.lenS w34 = some (.int .i64 (e34.length : Int)) := R.s34.len.1
  have n35 : A.lenS w35 = some (.int .i64 (e35.length : Int)) := R.s35.len.1
  refine ⟨h2, x2, ?_⟩
  cases b1 with
  | true =>
    left
    simp only [p33arrlrborlbrll, fieldAddr_eq, Nat.zero_add, bnd_some, l5, e46, bnd2_some, toBK_bool, cond_true]
  | false =>
    by_cases d1 : 20 < e33.length
    · left
      have d1' : decide ((20 : Int) < (e33.length : Int)) = true := by rw [decide_eq_true_iff]; omega
      simp only [p33arrlrborlbrll, fieldAddr_eq, Nat.zero_add, bnd_some, l5, e46, bnd2_some, toBK_bool, cond_false, l33, n33, bin_gtr, d1', cond_true]
    have d1' : decide ((20 : Int) < (e33.length : Int)) = false := by rw [decide_eq_false_iff_not]; omega
    by_cases d2 : 20 < e34.length
    · left
      have d2' : decide ((20 : Int) < (e34.length : Int)) = true := by rw [decide_eq_true_iff]; omega
      simp only [p33arrlrborlbrll, fieldAddr_eq, Nat.zero_add, bnd_some, l5, e46, bnd2_some, toBK_bool, cond_false, l33, n33, bin_gtr, d1', l34, n34, d2', cond_true]
    have d2' : decide ((20 : Int) < (e34.length : Int)) = false := by rw [decide_eq_false_iff_not]; omega
    by_cases d3 : 20 < e35.length
    · left
      have d3' : decide ((20 : Int) < (e35.length : Int)) = true := by rw [decide_eq_true_iff]; omega
      simp only [p33arrlrborlbrll, fieldAddr_eq, Nat.zero_add, bnd_some, l5, e46, bnd2_some, toBK_bool, cond_false, l33, n33, bin_gtr, d1', l34, n34, d2', l35, n35, d3', cond_true]
    have d3' : decide ((20 : Int) < (e35.length : Int)) = false := by rw [decide_eq_false_iff_not]; omega
    have key : ∃ c, p33arrlrborlbrll (callB Try.prog 0 [9] (k + 300)) L (ptrV n) x3 x0 h1 kn = kn (.bool c) (ptrV n) x3 x0 h2 := by
      simp only [p33arrlrborlbrll, fieldAddr_eq, Nat.zero_add, bnd_some, l5, e46, bnd2_some, toBK_bool, cond_false, l33, n33, bin_gtr, d1', l34, n34, d2', l35, n35, d3', l3, lenStr_eq, l4, Nat.add_zero, l29, l30]
      exact bif_ex _ (fun c => kn (.bool c) (ptrV n) x3 x0 h2) _ (bif_ex _ (fun c => kn (.bool c) (ptrV n) x3 x0 h2) _ (bif_ex _ (fun c => kn (.bool c) (ptrV n) x3 x0 h2) _ ⟨_, rfl⟩))
    obtain ⟨c, e⟩ := key
    cases c with
    | true => exact .inl e
    | false => exact .inr ⟨hb1 rfl, by omega, by omega, by omega, e⟩
/-- Its packets. -/
theorem pks33b (k L : Nat) {β : Type} (kr : Value → H → Option β) (kx : Value → Value → Value → H → Option β) {h0 h1 : H} {n : Nat} {it : List Value} (x01 : Ext h0 h1) (hg : h1.get n = some (.cells it (some 0))) (hn : n < h1.next) {w : Value} (hw : it[35]? = some w) {els : List (List Value)} (sw : SliceE 24 h0 w els) (he : ∀ x ∈ els, PkC h0 x) (hl : els.length ≤ 20) (x3 x0 : Value) :
    ∀ (d i m : Nat) (h : H), i + d = els.length → d < m → Ext h1 h → ∃ h', Ext h1 h' ∧ (p33arrlrborlbrrlrbw (callB Try.prog 0 [9] (k + 300)) L kr kx m (.int .i64 (i : Int)) (ptrV n) x3 x0 h = kr (.bool true) h' ∨ (p33arrlrborlbrrlrbw (callB Try.prog 0 [9] (k + 300)) L kr kx m (.int .i64 (i : Int)) (ptrV n) x3 x0 h = kx (ptrV n) x3 x0 h' ∧ ∀ j y, i ≤ j → els[j]? = some y → PkB h0 y)) := by
  have hlen : A.lenS w = some (.int .i64 (els.length : Int)) := sw.len.1
  intro d
  induction d with
  | zero =>
    intro i m h hi hm x
    obtain ⟨m, rfl⟩ : ∃ q, m = q + 1 := ⟨m - 1, by omega⟩
    have ld : A.load false 1 (.pointer (some ⟨n, 35, none⟩)) h = some w := by rw [load1_eq, x.get n hn, hg]; exact hw
    have hd : decide ((i : Int) < (els.length : Int)) = false := by rw [decide_eq_false_iff_not]; omega
    refine ⟨h, x, .inr ⟨?_, fun j y hj hy => by have := (List.getElem?_eq_some_iff.1 hy).1; omega⟩⟩
    simp only [p33arrlrborlbrrlrbw, p33arrlrborlbrrlrbo, fieldAddr_eq, Nat.zero_add, bnd_some, ld, hlen, bin_lss, hd, toBK_bool, cond_false]
  | succ d ih =>
    intro i m h hi hm x
    obtain ⟨m, rfl⟩ : ∃ q, m = q + 1 := ⟨m - 1, by omega⟩
    have ld : A.load false 1 (.pointer (some ⟨n, 35, none⟩)) h = some w := by rw [load1_eq, x.get n hn, hg]; exact hw
    have hd : decide ((i : Int) < (els.length : Int)) = true := by rw [decide_eq_true_iff]; omega
    have hil : i < els.length := by omega
    have hwr : IntKind.i64.wrap ((i : Int) + 1) = ((i + 1 : Nat) : Int) := wrap_succ (by omega)
    obtain ⟨f, e22, hx, s22, c22, _⟩ := he _ (List.getElem_mem hil)
    have hel : els[i]? = some f.cells := by rw [List.getElem?_eq_getElem hil, hx]
    obtain ⟨id, off, cells, own, e1, _, e3, e4, e5, _⟩ := ((sw.ext x01).ext x).at hel .i64
    have ld2 : A.load true 24 (.pointer (some ⟨id, off, none⟩)) h = some (.agg ⟨f.cells⟩) := by
      rw [loadN_eq, e3]
      have : Nat.ble (off + 24) cells.length = true := by rw [ble_dec, decide_eq_true_iff]; exact e4
      simp only [this, cond_true, e5]
    obtain ⟨b, h2, e46, x2, hb1⟩ := T46b k ((s22.ext x01).ext x) c22
    cases b with
    | true =>
      refine ⟨h2, x.trans x2, .inl ?_⟩
      simp only [p33arrlrborlbrrlrbw, p33arrlrborlbrrlrbo, fieldAddr_eq, Nat.zero_add, bnd_some, ld, hlen, bin_lss, hd, toBK_bool, cond_true, e1, ld2, e46, bnd2_some]
    | false =>
      obtain ⟨h', x', e⟩ := ih (i + 1) m h2 (by omega) (by omega) (x.trans x2)
      have run : p33arrlrborlbrrlrbw (callB Try.prog 0 [9] (k + 300)) L kr kx (m + 1) (.int .i64 (i : Int)) (ptrV n) x3 x0 h = p33arrlrborlbrrlrbw (callB Try.prog 0 [9] (k + 300)) L kr kx m (.int .i64 ((i + 1 : Nat) : Int)) (ptrV n) x3 x0 h2 := by
        simp only [p33arrlrborlbrrlrbw, p33arrlrborlbrrlrbo, fieldAddr_eq, Nat.zero_add, bnd_some, ld, hlen, bin_lss, hd, toBK_bool, cond_true, e1, ld2, e46, bnd2_some, cond_false, bin_add, hwr]
      rw [run]
      refine ⟨h', x', ?_⟩
      rcases e with e | ⟨e, he2⟩
      · exact .inl e
      · refine .inr ⟨e, fun j y hj hy => ?_⟩
        by_cases hji : j = i
        · subst hji
          rw [hel] at hy
          obtain rfl := Option.some.inj hy
          exact ⟨f, e22, rfl, s22, c22, hb1 rfl⟩
        · exact he2 j y (by omega) hy
/-- Its messages. -/
theorem mss33b (C : CF) (L : Nat) {β : Type} (kr : Value → H → Option β) (kx : Value → Value → Value → H → Option β) {h : H} {n : Nat} {it : List Value} (hg : h.get n = some (.cells it (some 0))) {w : Value} (hw : it[33]? = some w) {els : List (List Value)} (sw : SliceE 4 h w els) (he : ∀ x ∈ els, MsC x) (hl : els.length ≤ 20) (x3 x0 : Value) :
    ∀ (d i m : Nat), i + d = els.length → d < m → (p33arrlrborlbrrrlrbw C L kr kx m (.int .i64 (i : Int)) (ptrV n) x3 x0 h = kr (.bool true) h ∨ p33arrlrborlbrrrlrbw C L kr kx m (.int .i64 (i : Int)) (ptrV n) x3 x0 h = kx (ptrV n) x3 x0 h) := by
  have hlen : A.lenS w = some (.int .i64 (els.length : Int)) := sw.len.1
  have ld : A.load false 1 (.pointer (some ⟨n, 33, none⟩)) h = some w := by rw [load1_eq, hg]; exact hw
  intro d
  induction d with
  | zero =>
    intro i m hi hm
    obtain ⟨m, rfl⟩ : ∃ q, m = q + 1 := ⟨m - 1, by omega⟩
    have hd : decide ((i : Int) < (els.length : Int)) = false := by rw [decide_eq_false_iff_not]; omega
    right
    simp only [p33arrlrborlbrrrlrbw, p33arrlrborlbrrrlrbo, p33arrlrborlbrrrlrbol, fieldAddr_eq, Nat.zero_add, bnd_some, ld, hlen, bin_lss, hd, toBK_bool, cond_false]
  | succ d ih =>
    intro i m hi hm
    obtain ⟨m, rfl⟩ : ∃ q, m = q + 1 := ⟨m - 1, by omega⟩
    have hd : decide ((i : Int) < (els.length : Int)) = true := by rw [decide_eq_true_iff]; omega
    have hil : i < els.length := by omega
    have hwr : IntKind.i64.wrap ((i : Int) + 1) = ((i + 1 : Nat) : Int) := wrap_succ (by omega)
    obtain ⟨a, b, c, d', hx⟩ := he _ (List.getElem_mem hil)
    have hel : els[i]? = some [.string a, .string b, c, d'] := by rw [List.getElem?_eq_getElem hil, hx]
    obtain ⟨id, off, cells, own, e1, _, e3, _, _, e6⟩ := sw.at hel .i64
    have la : A.load false 1 (.pointer (some ⟨id, off, none⟩)) h = some (.string a) := by rw [load1_eq, e3]; exact e6 0 (by omega)
    have lb : A.load false 1 (.pointer (some ⟨id, off + 1, none⟩)) h = some (.string b) := by rw [load1_eq, e3]; exact e6 1 (by omega)
    by_cases d1 : (500 : Int) < (a.size : Int)
    · left
      have d1' := decide_eq_true d1
      simp only [p33arrlrborlbrrrlrbw, p33arrlrborlbrrrlrbo, p33arrlrborlbrrrlrbol, fieldAddr_eq, Nat.zero_add, Nat.add_zero, bnd_some, ld, hlen, bin_lss, hd, toBK_bool, cond_true, p33arrlrborlbrrrlrbor, p33arrlrborlbrrrlrborl, p33arrlrborlbrrrlrborlb, e1, la, lenStr_eq, bin_gtr, d1']
    have d1' := decide_eq_false d1
    by_cases d2 : (500 : Int) < (b.size : Int)
    · left
      have d2' := decide_eq_true d2
      simp only [p33arrlrborlbrrrlrbw, p33arrlrborlbrrrlrbo, p33arrlrborlbrrrlrbol, fieldAddr_eq, Nat.zero_add, Nat.add_zero, bnd_some, ld, hlen, bin_lss, hd, toBK_bool, cond_true, p33arrlrborlbrrrlrbor, p33arrlrborlbrrrlrborl, p33arrlrborlbrrrlrborlb, e1, la, lenStr_eq, bin_gtr, d1', cond_false, lb, d2']
    have d2' := decide_eq_false d2
    have run : p33arrlrborlbrrrlrbw C L kr kx (m + 1) (.int .i64 (i : Int)) (ptrV n) x3 x0 h = p33arrlrborlbrrrlrbw C L kr kx m (.int .i64 ((i + 1 : Nat) : Int)) (ptrV n) x3 x0 h := by
      simp only [p33arrlrborlbrrrlrbw, p33arrlrborlbrrrlrbo, p33arrlrborlbrrrlrbol, fieldAddr_eq, Nat.zero_add, Nat.add_zero, bnd_some, ld, hlen, bin_lss, hd, toBK_bool, cond_true, p33arrlrborlbrrrlrbor, p33arrlrborlbrrrlrborl, p33arrlrborlbrrrlrborlb, e1, la, lenStr_eq, bin_gtr, d1', cond_false, lb, d2', p33arrlrborlbrrrlrborr, bin_add, hwr]
    rw [run]
    exact ih (i + 1) m (by omega) (by omega)
/-- Its clients. -/
theorem cls33b (C : CF) (L : Nat) {β : Type} (kr : Value → H → Option β) (kx : Value → Value → H → Option β) {h : H} {n : Nat} {it : List Value} (hg : h.get n = some (.cells it (some 0))) {w : Value} (hw : it[34]? = some w) {els : List (List Value)} (sw : SliceE 1 h w els) (he : ∀ x ∈ els, TxC x) (hl : els.length ≤ 20) (x3 x0 : Value) :
    ∀ (d i m : Nat), i + d = els.length → d < m → (p33arrlrborlbrrrrrbw C L kr kx m (.int .i64 (i : Int)) (ptrV n) x3 x0 h = kr (.bool true) h ∨ p33arrlrborlbrrrrrbw C L kr kx m (.int .i64 (i : Int)) (ptrV n) x3 x0 h = kx x3 x0 h) := by
  have hlen : A.lenS w = some (.int .i64 (els.length : Int)) := sw.len.1
  have ld : A.load false 1 (.pointer (some ⟨n, 34, none⟩)) h = some w := by rw [load1_eq, hg]; exact hw
  intro d
  induction d with
  | zero =>
    intro i m hi hm
    obtain ⟨m, rfl⟩ : ∃ q, m = q + 1 := ⟨m - 1, by omega⟩
    have hd : decide ((i : Int) < (els.length : Int)) = false := by rw [decide_eq_false_iff_not]; omega
    right
    simp only [p33arrlrborlbrrrrrbw, p33arrlrborlbrrrrrbo, fieldAddr_eq, Nat.zero_add, bnd_some, ld, hlen, bin_lss, hd, toBK_bool, cond_false]
  | succ d ih =>
    intro i m hi hm
    obtain ⟨m, rfl⟩ : ∃ q, m = q + 1 := ⟨m - 1, by omega⟩
    have hd : decide ((i : Int) < (els.length : Int)) = true := by rw [decide_eq_true_iff]; omega
    have hil : i < els.length := by omega
    have hwr : IntKind.i64.wrap ((i : Int) + 1) = ((i + 1 : Nat) : Int) := wrap_succ (by omega)
    obtain ⟨a, hx⟩ := he _ (List.getElem_mem hil)
    have hel : els[i]? = some [.string a] := by rw [List.getElem?_eq_getElem hil, hx]
    obtain ⟨id, off, cells, own, e1, _, e3, _, _, e6⟩ := sw.at hel .i64
    have la : A.load false 1 (.pointer (some ⟨id, off, none⟩)) h = some (.string a) := by rw [load1_eq, e3]; exact e6 0 (by omega)
    by_cases d1 : (500 : Int) < (a.size : Int)
    · left
      have d1' := decide_eq_true d1
      simp only [p33arrlrborlbrrrrrbw, p33arrlrborlbrrrrrbo, fieldAddr_eq, Nat.zero_add, bnd_some, ld, hlen, bin_lss, hd, toBK_bool, cond_true, e1, la, lenStr_eq, bin_gtr, d1']
    have d1' := decide_eq_false d1
    have run : p33arrlrborlbrrrrrbw C L kr kx (m + 1) (.int .i64 (i : Int)) (ptrV n) x3 x0 h = p33arrlrborlbrrrrrbw C L kr kx m (.int .i64 ((i + 1 : Nat) : Int)) (ptrV n) x3 x0 h := by
      simp only [p33arrlrborlbrrrrrbw, p33arrlrborlbrrrrrbo, fieldAddr_eq, Nat.zero_add, bnd_some, ld, hlen, bin_lss, hd, toBK_bool, cond_true, e1, la, lenStr_eq, bin_gtr, d1', cond_false, bin_add, hwr]
    rw [run]
    exact ih (i + 1) m (by omega) (by omega)
/-- One item. -/
theorem item33b (k L : Nat) (hL : 100 ≤ L) {β : Type} (kr : Value → H → Option β) (kn : Value → Value → H → Option β) {h0 h : H} (x : Ext h0 h) {x0 : Value} {its : List (List Value)} (s0 : SliceE 38 h0 x0 its) {i : Nat} (hi : i < its.length) (hc : ItC h0 its[i]) :
    ∃ h', Ext h0 h' ∧ (p33arrlrborlb (callB Try.prog 0 [9] (k + 300)) L (.int .i64 (i : Int)) x0 h kr kn = kr (.bool true) h' ∨ (p33arrlrborlb (callB Try.prog 0 [9] (k + 300)) L (.int .i64 (i : Int)) x0 h kr kn = kn (.int .i64 (i : Int)) x0 h' ∧ ItB h0 its[i])) := by
  obtain ⟨it, hit⟩ : ∃ it, it = its[i] := ⟨_, rfl⟩
  rw [← hit] at hc
  obtain ⟨kd, op, cn, s3, s4, f, s29, s30, q, r, w33, w34, w35, fr, mn, e22, e33, e34, e35, R⟩ := hc
  have itl : it.length = 38 := by rw [R.eq]; rfl
  have hel : its[i]? = some it := by rw [List.getElem?_eq_getElem hi, hit]
  obtain ⟨id, off, cells, own, e1, _, e3, e4, e5, _⟩ := (s0.ext x).at hel .i64
  have ld : A.load true 38 (.pointer (some ⟨id, off, none⟩)) h = some (.agg ⟨it⟩) := by
    rw [loadN_eq, e3]
    have : Nat.ble (off + 38) cells.length = true := by rw [ble_dec, decide_eq_true_iff]; exact e4
    simp only [this, cond_true, e5]
  have eb : A.box 38 Z71 h = some (ptrV h.next, h.push (.cells Z71L (some 0))) := rfl
  obtain ⟨h1, hh1⟩ : ∃ h1, h1 = (h.push (.cells Z71L (some 0))).put h.next (.cells it (some 0)) := ⟨_, rfl⟩
  have es : A.store 38 (ptrV h.next) (.agg ⟨it⟩) (h.push (.cells Z71L (some 0))) = some h1 := by
    have e0 : splice Z71L 0 it = it := by
      have hz : Z71L.length = 38 := rfl
      simp [splice, itl, hz]
    rw [store_eq, H.get_push, if_pos rfl, hh1]
    have c1 : Nat.beq it.length 38 = true := by rw [itl]; rfl
    have c2 : Nat.ble (0 + 38) Z71L.length = true := rfl
    simp only [cellsL_agg, c1, c2, Bool.and_self, cond_true, e0]
  have x1 : Ext h h1 := hh1 ▸ (Ext.push h _).put _ _ (Nat.le_refl _)
  have n1 : h1.next = h.next + 1 := by rw [hh1]; rfl
  have g1 : h1.get h.next = some (.cells it (some 0)) := by rw [hh1, H.get_put, if_pos rfl]
  have x01 := x.trans x1
  have hn : h.next < h1.next := by omega
  obtain ⟨h2, x2, hk⟩ := chk33b k L (fun x67 x4 x3 x0 h => p33arrlrborlbrlr (callB Try.prog 0 [9] (k + 300)) L x67 x4 x3 x0 h kr (fun x4 x3 x0 h => p33arrlrborlbrr (callB Try.prog 0 [9] (k + 300)) L x4 x3 x0 h kr kn)) x01 g1 R hn (.int .i64 (i : Int)) x0
  have run : p33arrlrborlb (callB Try.prog 0 [9] (k + 300)) L (.int .i64 (i : Int)) x0 h kr kn = p33arrlrborlbrll (callB Try.prog 0 [9] (k + 300)) L (ptrV h.next) (.int .i64 (i : Int)) x0 h1 (fun x67 x4 x3 x0 h => p33arrlrborlbrlr (callB Try.prog 0 [9] (k + 300)) L x67 x4 x3 x0 h kr (fun x4 x3 x0 h => p33arrlrborlbrr (callB Try.prog 0 [9] (k + 300)) L x4 x3 x0 h kr kn)) := by
    simp only [p33arrlrborlb, p33arrlrborlbl, e1, bnd_some, ld, eb, bnd2_some, es, p33arrlrborlbr, p33arrlrborlbrl]
  rw [run]
  rcases hk with e | ⟨b0, b1, b2, b3, e⟩
  · refine ⟨h2, x01.trans x2, .inl ?_⟩
    rw [e]
    simp only [p33arrlrborlbrlr, condV_bool, cond_true]
  rw [e]
  simp only [p33arrlrborlbrlr, condV_bool, cond_false, p33arrlrborlbrr, p33arrlrborlbrrl, p33arrlrborlbrrll, p33arrlrborlbrrlr, p33arrlrborlbrrlrb]
  obtain ⟨h3, x3, hp⟩ := pks33b k L kr (fun x4 x3 x0 h => p33arrlrborlbrrr (callB Try.prog 0 [9] (k + 300)) L x4 x3 x0 h kr kn) x01 g1 hn (w := w35) (by rw [R.eq]; rfl) R.s35 R.c35 b3 (.int .i64 (i : Int)) x0 e35.length 0 L h2 (by omega) (by omega) x2
  have x03 := x01.trans x3
  rcases hp with e | ⟨e, hpk⟩
  · exact ⟨h3, x03, .inl e⟩
  refine ⟨h3, x03, ?_⟩
  rw [show (Value.int .i64 0) = Value.int .i64 ((0 : Nat) : Int) from rfl, e]
  have g3 : h3.get h.next = some (.cells it (some 0)) := by rw [x3.get _ hn]; exact g1
  simp only [p33arrlrborlbrrr, p33arrlrborlbrrrl, p33arrlrborlbrrrll, p33arrlrborlbrrrlr, p33arrlrborlbrrrlrb]
  rcases mss33b (callB Try.prog 0 [9] (k + 300)) L kr (fun x4 x3 x0 h => p33arrlrborlbrrrr (callB Try.prog 0 [9] (k + 300)) L x4 x3 x0 h kr kn) g3 (w := w33) (by rw [R.eq]; rfl) (R.s33.ext x03) R.c33 b1 (.int .i64 (i : Int)) x0 e33.length 0 L (by omega) (by omega) with e | e
  · exact .inl e
  rw [show (Value.int .i64 0) = Value.int .i64 ((0 : Nat) : Int) from rfl, e]
  simp only [p33arrlrborlbrrrr, p33arrlrborlbrrrrl, p33arrlrborlbrrrrr, p33arrlrborlbrrrrrb]
  have hIt : ItB h0 its[i] := ⟨kd, op, cn, s3, s4, f, s29, s30, q, r, w33, w34, w35, fr, mn, e22, e33, e34, e35, hit ▸ R, b0, b1, b2, b3, fun y hy => by
    obtain ⟨j, hj⟩ := List.mem_iff_getElem?.1 hy
    exact hpk j y (Nat.zero_le _) hj⟩
  refine Or.imp_right (fun e => ⟨e, hIt⟩) ?_
  exact cls33b (callB Try.prog 0 [9] (k + 300)) L kr kn g3 (w := w34) (by rw [R.eq]; rfl) (R.s34.ext x03) R.c34 b2 (.int .i64 (i : Int)) x0 e34.length 0 L (by omega) (by omega)
theorem items33b (k L : Nat) (hL : 100 ≤ L) {β : Type} (kr : Value → H → Option β) (kx : H → Option β) {h0 : H} {x0 : Value} {its : List (List Value)} (s0 : SliceE 38 h0 x0 its) (hl : its.length ≤ 20) (hc : ∀ x ∈ its, ItC h0 x) :
    ∀ (d i m : Nat) (h : H), i + d = its.length → d < m → Ext h0 h → ∃ h', Ext h0 h' ∧ (p33arrlrbw (callB Try.prog 0 [9] (k + 300)) L kr kx m (.int .i64 (i : Int)) x0 h = kr (.bool true) h' ∨ (p33arrlrbw (callB Try.prog 0 [9] (k + 300)) L kr kx m (.int .i64 (i : Int)) x0 h = kx h' ∧ ∀ j y, i ≤ j → its[j]? = some y → ItB h0 y)) := by
  have hlen : A.lenS x0 = some (.int .i64 (its.length : Int)) := s0.len.1
  intro d
  induction d with
  | zero =>
    intro i m h hi hm x
    obtain ⟨m, rfl⟩ : ∃ q, m = q + 1 := ⟨m - 1, by omega⟩
    have hd : decide ((i : Int) < (its.length : Int)) = false := by rw [decide_eq_false_iff_not]; omega
    refine ⟨h, x, .inr ⟨?_, fun j y hj hy => by have := (List.getElem?_eq_some_iff.1 hy).1; omega⟩⟩
    simp only [p33arrlrbw, p33arrlrbo, p33arrlrbol, hlen, bnd_some, bin_lss, hd, toBK_bool, cond_false]
  | succ d ih =>
    intro i m h hi hm x
    obtain ⟨m, rfl⟩ : ∃ q, m = q + 1 := ⟨m - 1, by omega⟩
    have hd : decide ((i : Int) < (its.length : Int)) = true := by rw [decide_eq_true_iff]; omega
    have hil : i < its.length := by omega
    have hwr : IntKind.i64.wrap ((i : Int) + 1) = ((i + 1 : Nat) : Int) := wrap_succ (by omega)
    obtain ⟨h1, x1, e⟩ := item33b k L hL kr (fun x3 x0 h => p33arrlrborr (callB Try.prog 0 [9] (k + 300)) L x3 x0 h (fun x3 x0 h => p33arrlrbw (callB Try.prog 0 [9] (k + 300)) L kr kx m x3 x0 h)) x s0 hil (hc _ (List.getElem_mem hil))
    have run : p33arrlrbw (callB Try.prog 0 [9] (k + 300)) L kr kx (m + 1) (.int .i64 (i : Int)) x0 h = p33arrlrborlb (callB Try.prog 0 [9] (k + 300)) L (.int .i64 (i : Int)) x0 h kr (fun x3 x0 h => p33arrlrborr (callB Try.prog 0 [9] (k + 300)) L x3 x0 h (fun x3 x0 h => p33arrlrbw (callB Try.prog 0 [9] (k + 300)) L kr kx m x3 x0 h)) := by
      simp only [p33arrlrbw, p33arrlrbo, p33arrlrbol, hlen, bnd_some, bin_lss, hd, toBK_bool, cond_true, p33arrlrbor, p33arrlrborl]
    rw [run]
    rcases e with e | ⟨e, hIt⟩
    · exact ⟨h1, x1, .inl e⟩
    · rw [e]
      simp only [p33arrlrborr, bin_add, bnd_some, hwr]
      obtain ⟨h', x', e'⟩ := ih (i + 1) m h1 (by omega) (by omega) x1
      refine ⟨h', x', ?_⟩
      rcases e' with e' | ⟨e', he2⟩
      · exact .inl e'
      · refine .inr ⟨e', fun j y hj hy => ?_⟩
        by_cases hji : j = i
        · subst hji
          rw [List.getElem?_eq_getElem hil] at hy
          obtain rfl := Option.some.inj hy
          exact hIt
        · exact he2 j y (by omega) hy
theorem T33b (k : Nat) {h0 h : H} (x : Ext h0 h) {x0 : Value} {its : List (List Value)} (s0 : SliceE 38 h0 x0 its) (hc : ∀ y ∈ its, ItC h0 y) : ∃ b h', callB Try.prog 0 [9] (k + 301) 33 [x0] h = some (.bool b, h') ∧ Ext h0 h' ∧ (b = false → its.length ≤ 20 ∧ ∀ y ∈ its, ItB h0 y) := by
  rw [F33eq [9] rfl]
  have hlen : A.lenS x0 = some (.int .i64 (its.length : Int)) := s0.len.1
  by_cases hg : 20 < its.length
  · have hd : decide ((20 : Int) < (its.length : Int)) = true := by rw [decide_eq_true_iff]; omega
    refine ⟨true, h, ?_, x, fun h => by cases h⟩
    simp only [F33, p33a, p33al, p33ar, p33arl, hlen, bnd_some, bin_gtr, hd, toBK_bool, cond_true]
  · have hd : decide ((20 : Int) < (its.length : Int)) = false := by rw [decide_eq_false_iff_not]; omega
    obtain ⟨h', x', e⟩ := items33b k (k + 300) (by omega) (fun x2 h => some (x2, h)) (fun h => p33arrr (callB Try.prog 0 [9] (k + 300)) (k + 300) h (fun x2 h => some (x2, h))) s0 (by omega) hc its.length 0 (k + 300) h (by omega) (by omega) x
    have run : F33 (callB Try.prog 0 [9] (k + 300)) (k + 300) x0 h = p33arrlrbw (callB Try.prog 0 [9] (k + 300)) (k + 300) (fun x2 h => some (x2, h)) (fun h => p33arrr (callB Try.prog 0 [9] (k + 300)) (k + 300) h (fun x2 h => some (x2, h))) (k + 300) (.int .i64 ((0 : Nat) : Int)) x0 h := by
      simp only [F33, p33a, p33al, p33ar, p33arl, hlen, bnd_some, bin_gtr, hd, toBK_bool, cond_false, p33arr, p33arrl, p33arrll, p33arrlr, p33arrlrb]
      rfl
    rw [run]
    rcases e with e | ⟨e, he2⟩
    · exact ⟨true, h', e, x', fun h => by cases h⟩
    · exact ⟨false, h', e, x', fun _ => ⟨by omega, fun y hy => by
        obtain ⟨j, hj⟩ := List.mem_iff_getElem?.1 hy
        exact he2 j y (Nat.zero_le _) hj⟩⟩
theorem acts8b (k L : Nat) {β : Type} (kr : Value → H → Option β) (kx : H → Option β) {h0 : H} {x0 : Value} {l : List (List Value)} (s0 : SliceE 5 h0 x0 l) (hl : l.length ≤ 300) (hc : ∀ x ∈ l, ActC h0 x) :
    ∀ (d i m : Nat) (h : H), i + d = l.length → d < m → Ext h0 h → ∃ h', Ext h0 h' ∧ (p8arrlrbw (callB Try.prog 0 [9] (k + 301)) L kr kx m (.int .i64 (i : Int)) x0 h = kr (.bool true) h' ∨ (p8arrlrbw (callB Try.prog 0 [9] (k + 301)) L kr kx m (.int .i64 (i : Int)) x0 h = kx h' ∧ ∀ j y, i ≤ j → l[j]? = some y → ActB h0 y)) := by
  have hlen : A.lenS x0 = some (.int .i64 (l.length : Int)) := s0.len.1
  intro d
  induction d with
  | zero =>
    intro i m h hi hm x
    obtain ⟨m, rfl⟩ : ∃ q, m = q + 1 := ⟨m - 1, by omega⟩
    have hd : decide ((i : Int) < (l.length : Int)) = false := by rw [decide_eq_false_iff_not]; omega
    refine ⟨h, x, .inr ⟨?_, fun j y hj hy => by have := (List.getElem?_eq_some_iff.1 hy).1; omega⟩⟩
    simp only [p8arrlrbw, p8arrlrbo, hlen, bnd_some, bin_lss, hd, toBK_bool, cond_false]
  | succ d ih =>
    intro i m h hi hm x
    obtain ⟨m, rfl⟩ : ∃ q, m = q + 1 := ⟨m - 1, by omega⟩
    have hd : decide ((i : Int) < (l.length : Int)) = true := by rw [decide_eq_true_iff]; omega
    have hil : i < l.length := by omega
    have hwr : IntKind.i64.wrap ((i : Int) + 1) = ((i + 1 : Nat) : Int) := wrap_succ (by omega)
    obtain ⟨kd, fr, to, la, cv, its, R⟩ := hc _ (List.getElem_mem hil)
    have hel : l[i]? = some l[i] := List.getElem?_eq_getElem hil
    obtain ⟨id, off, cells, own, e1, _, e3, _, _, e6⟩ := (s0.ext x).at hel .i64
    have ld : A.load false 1 (.pointer (some ⟨id, off + 4, none⟩)) h = some cv := by
      rw [load1_eq, e3]
      have := e6 4 (by omega)
      rw [R.eq] at this
      exact this
    obtain ⟨b, h1, e33, x1, hb33⟩ := T33b k x R.sl R.it
    cases b with
    | true =>
      refine ⟨h1, x1, .inl ?_⟩
      simp only [p8arrlrbw, p8arrlrbo, hlen, bnd_some, bin_lss, hd, toBK_bool, cond_true, e1, fieldAddr_eq, ld, e33, bnd2_some]
    | false =>
      have run : p8arrlrbw (callB Try.prog 0 [9] (k + 301)) L kr kx (m + 1) (.int .i64 (i : Int)) x0 h = p8arrlrbw (callB Try.prog 0 [9] (k + 301)) L kr kx m (.int .i64 ((i + 1 : Nat) : Int)) x0 h1 := by
        simp only [p8arrlrbw, p8arrlrbo, hlen, bnd_some, bin_lss, hd, toBK_bool, cond_true, e1, fieldAddr_eq, ld, e33, bnd2_some, cond_false, bin_add, hwr]
      rw [run]
      obtain ⟨h', x', e'⟩ := ih (i + 1) m h1 (by omega) (by omega) x1
      refine ⟨h', x', ?_⟩
      rcases e' with e' | ⟨e', he2⟩
      · exact .inl e'
      · refine .inr ⟨e', fun j y hj hy => ?_⟩
        by_cases hji : j = i
        · subst hji
          rw [hel] at hy
          obtain rfl := Option.some.inj hy
          exact ⟨kd, fr, to, la, cv, its, R, (hb33 rfl).1, (hb33 rfl).2⟩
        · exact he2 j y (by omega) hy
theorem T8b (k : Nat) {h0 : H} {x0 : Value} {l : List (List Value)} (s0 : SliceE 5 h0 x0 l) (hc : ∀ x ∈ l, ActC h0 x) : ∃ b h', callB Try.prog 0 [9] (k + 302) 8 [x0] h0 = some (.bool b, h') ∧ Ext h0 h' ∧ (b = false → l.length ≤ 300 ∧ ∀ y ∈ l, ActB h0 y) := by
  rw [F8eq [9] rfl]
  have hlen : A.lenS x0 = some (.int .i64 (l.length : Int)) := s0.len.1
  by_cases hg : 300 < l.length
  · have hd : decide ((300 : Int) < (l.length : Int)) = true := by rw [decide_eq_true_iff]; omega
    refine ⟨true, h0, ?_, Ext.refl _, fun h => by cases h⟩
    simp only [F8, p8a, p8al, p8ar, p8arl, hlen, bnd_some, bin_gtr, hd, toBK_bool, cond_true]
  · have hd : decide ((300 : Int) < (l.length : Int)) = false := by rw [decide_eq_false_iff_not]; omega
    obtain ⟨h', x', e⟩ := acts8b k (k + 301) (fun x2 h => some (x2, h)) (fun h => p8arrr (callB Try.prog 0 [9] (k + 301)) (k + 301) h (fun x2 h => some (x2, h))) s0 (by omega) hc l.length 0 (k + 301) h0 (by omega) (by omega) (Ext.refl _)
    have run : F8 (callB Try.prog 0 [9] (k + 301)) (k + 301) x0 h0 = p8arrlrbw (callB Try.prog 0 [9] (k + 301)) (k + 301) (fun x2 h => some (x2, h)) (fun h => p8arrr (callB Try.prog 0 [9] (k + 301)) (k + 301) h (fun x2 h => some (x2, h))) (k + 301) (.int .i64 ((0 : Nat) : Int)) x0 h0 := by
      simp only [F8, p8a, p8al, p8ar, p8arl, hlen, bnd_some, bin_gtr, hd, toBK_bool, cond_false, p8arr, p8arrl, p8arrll, p8arrlr, p8arrlrb]
      rfl
    rw [run]
    rcases e with e | ⟨e, he2⟩
    · exact ⟨true, h', e, x', fun h => by cases h⟩
    · exact ⟨false, h', e, x', fun _ => ⟨by omega, fun y hy => by
        obtain ⟨j, hj⟩ := List.mem_iff_getElem?.1 hy
        exact he2 j y (Nat.zero_le _) hj⟩⟩
end Go.Proofs.Ytdjhkdogpbiglaa.MailD

namespace Go.Proofs.Ytdjhkdogpbiglaa.MailD
open Go Go.AM
/-- An act that put. -/
structure PA where
  tk : Bool
  f : Nat
  t : Nat
  l : Nat
def PA.cells (a : PA) : List Value := [.int .u8 (if a.tk then 1 else 0), .int .i64 (a.f : Int), .int .i64 (a.t : Int), .int .i64 (a.l : Int), .slice none 0 0]
/-- Two rows, one by one. -/
def Rel (R : Value → Nat → Prop) : List Value → List Nat → Prop
  | [], [] => True
  | c :: cs, k :: ks => R c k ∧ Rel R cs ks
  | _, _ => False
theorem Rel.len {R : Value → Nat → Prop} : ∀ {cs : List Value} {ks : List Nat}, Rel R cs ks → cs.length = ks.length
  | [], [], _ => rfl
  | c :: cs, k :: ks, h => by simp only [List.length_cons]; rw [Rel.len h.2]
  | [], _ :: _, h => h.elim
  | _ :: _, [], h => h.elim
theorem Rel.snoc {R : Value → Nat → Prop} {c : Value} {k : Nat} : ∀ {cs : List Value} {ks : List Nat}, Rel R cs ks → R c k → Rel R (cs ++ [c]) (ks ++ [k])
  | [], [], _, h => ⟨h, trivial⟩
  | c' :: cs, k' :: ks, h, h' => ⟨h.1, Rel.snoc h.2 h'⟩
  | [], _ :: _, h, _ => h.elim
  | _ :: _, [], h, _ => h.elim
theorem Rel.mono {R R' : Value → Nat → Prop} : ∀ {cs : List Value} {ks : List Nat}, Rel R cs ks → (∀ c ∈ cs, ∀ k, R c k → R' c k) → Rel R' cs ks
  | [], [], _, _ => trivial
  | c :: cs, k :: ks, h, h' => ⟨h' c (by simp) k h.1, Rel.mono h.2 fun c hc => h' c (by simp [hc])⟩
  | [], _ :: _, h, _ => h.elim
  | _ :: _, [], h, _ => h.elim
theorem flatten_set {n j : Nat} {v : Value} (hj : j < n) : ∀ (es : List (List Value)) (i : Nat) (e : List Value), (∀ x ∈ es, x.length = n) → es[i]? = some e → es.flatten.set (i * n + j) v = (es.set i (e.set j v)).flatten
  | [], i, e, _, h => by simp at h
  | x :: es, 0, e, hs, h => by
    simp only [List.getElem?_cons_zero, Option.some.injEq] at h
    subst h
    have hx := hs x (by simp)
    simp only [List.flatten_cons, List.set_cons_zero, Nat.zero_mul, Nat.zero_add]
    rw [List.set_append, if_pos (by omega)]
  | x :: es, i + 1, e, hs, h => by
    have hx := hs x (by simp)
    simp only [List.getElem?_cons_succ] at h
    have ih := flatten_set (v := v) hj es i e (fun y hy => hs y (by simp [hy])) h
    simp only [List.flatten_cons, List.set_cons_succ]
    rw [List.set_append, if_neg (by rw [hx, Nat.succ_mul]; omega), hx, show (i + 1) * n + j - n = i * n + j by rw [Nat.succ_mul]; omega, ih]
/-- A cell of an element is written. -/
theorem Vec.put {n : Nat} {h : H} {v : Value} {es : List (List Value)} (x : Vec n h v es) {i j : Nat} {e : List Value} (he : es[i]? = some e) (hj : j < n) (k : IntKind) {w : Value} (hw : cellsL w = some [w]) :
    ∃ id h', A.idxS n v (.int k (i : Int)) = some (.pointer (some ⟨id, i * n, none⟩)) ∧ A.store 1 (.pointer (some ⟨id, i * n + j, none⟩)) w h = some h' ∧ Vec n h' v (es.set i (e.set j w)) ∧ ExtBut (fun q => sid v = some q) h h' ∧ h'.next = h.next := by
  have hi : i < es.length := (List.getElem?_eq_some_iff.1 he).1
  rcases x.2 with ⟨_, h0⟩ | ⟨q, rfl, hq, hg⟩
  · subst h0; simp at hi
  have hfl := flatten_len x.1
  have hle : (i + 1) * n ≤ es.length * n := Nat.mul_le_mul_right n hi
  rw [Nat.succ_mul] at hle
  have ix := idxS_eq n q 0 es.length (2 * es.length) i k hi
  rw [Nat.zero_add] at ix
  have hs : splice es.flatten (i * n + j) [w] = (es.set i (e.set j w)).flatten := by rw [splice_one (by omega), flatten_set hj es i e x.1 he]
  refine ⟨q, h.put q (.cells (es.set i (e.set j w)).flatten (some n)), ix, ?_, ⟨fun y hy => ?_, .inr ⟨q, by rw [List.length_set], hq, by rw [H.get_put, if_pos rfl]⟩⟩, ExtBut.put ⟨Nat.le_refl _, fun _ _ _ => rfl⟩ q _ rfl, rfl⟩
  · rw [store_eq, hg, hw]
    have c1 : Nat.beq [w].length 1 = true := rfl
    have c2 : Nat.ble (i * n + j + 1) es.flatten.length = true := by rw [ble_dec, decide_eq_true_iff]; omega
    simp only [c1, c2, Bool.and_self, cond_true, hs]
  · rcases List.mem_or_eq_of_mem_set hy with h | h
    · exact x.1 y h
    · rw [h, List.length_set]; exact x.1 e (List.mem_of_getElem? he)
end Go.Proofs.Ytdjhkdogpbiglaa.MailD

namespace Go.Proofs.Ytdjhkdogpbiglaa.MailD
open Go Go.AM
/-- What a clone is: nothing, or cells of its own. -/
def Cl (n : Nat) (h : H) (v : Value) (els : List (List Value)) (base : Nat) : Prop :=
  (∀ e ∈ els, e.length = n) ∧ ((els = [] ∧ A.lenS v = some (.int .i64 0) ∧ cellsL v = some [v] ∧ AM.same v v = true ∧ ∀ i, AM.sid v = some i → base ≤ i) ∨ ∃ q, v = .slice (some ⟨q, 0, none⟩) els.length (2 * els.length) ∧ base ≤ q ∧ q < h.next ∧ h.get q = some (.cells els.flatten (some n)))
theorem Cl.len {n : Nat} {h : H} {v : Value} {els : List (List Value)} {base : Nat} (c : Cl n h v els base) : A.lenS v = some (.int .i64 (els.length : Int)) := by
  rcases c.2 with ⟨rfl, hl, _⟩ | ⟨q, rfl, _⟩
  · exact hl
  · rfl
theorem Cl.cells {n : Nat} {h : H} {v : Value} {els : List (List Value)} {base : Nat} (c : Cl n h v els base) : cellsL v = some [v] := by
  rcases c.2 with ⟨_, _, hc, _⟩ | ⟨q, rfl, _⟩
  · exact hc
  · rfl
theorem Cl.same {n : Nat} {h : H} {v : Value} {els : List (List Value)} {base : Nat} (c : Cl n h v els base) : AM.same v v = true := by
  rcases c.2 with ⟨_, _, _, hs, _⟩ | ⟨q, rfl, _⟩
  · exact hs
  · exact same_slice _ _ _ (fun b h => by cases h; rfl)
theorem Cl.sid {n : Nat} {h : H} {v : Value} {els : List (List Value)} {base : Nat} (c : Cl n h v els base) : ∀ i, AM.sid v = some i → base ≤ i := by
  rcases c.2 with ⟨_, _, _, _, hs⟩ | ⟨q, rfl, hb, _⟩
  · exact hs
  · intro i hi
    have : q = i := by simpa [AM.sid] using hi
    omega
theorem Cl.extBut {S : Nat → Prop} {n : Nat} {h h' : H} {v : Value} {els : List (List Value)} {base : Nat} (c : Cl n h v els base) (x : ExtBut S h h') (hs : ∀ i, AM.sid v = some i → ¬ S i) : Cl n h' v els base := by
  refine ⟨c.1, ?_⟩
  rcases c.2 with hz | ⟨q, rfl, hb, hq, hg⟩
  · exact .inl hz
  · exact .inr ⟨q, rfl, hb, Nat.lt_of_lt_of_le hq x.next, by rw [x.get q hq (hs q rfl)]; exact hg⟩
theorem Cl.ext {n : Nat} {h h' : H} {v : Value} {els : List (List Value)} {base : Nat} (c : Cl n h v els base) (x : Ext h h') : Cl n h' v els base := c.extBut (S := fun _ => False) x.but (by simp)
theorem flatten_splice {n : Nat} {w : List Value} : ∀ (es : List (List Value)) (i : Nat), (∀ x ∈ es, x.length = n) → w.length = n → i < es.length → splice es.flatten (i * n) w = (es.set i w).flatten
  | [], i, _, _, h => by simp at h
  | x :: es, 0, hs, hw, _ => by
    have hx := hs x (by simp)
    simp only [splice, Nat.zero_mul, List.take_zero, List.nil_append, Nat.zero_add, List.set_cons_zero, List.flatten_cons, hw]
    rw [← hx, List.drop_left]
  | x :: es, i + 1, hs, hw, h => by
    have hx := hs x (by simp)
    have ih := flatten_splice es i (fun y hy => hs y (by simp [hy])) hw (by simpa using h)
    simp only [List.set_cons_succ, List.flatten_cons]
    rw [← ih]
    simp only [splice]
    have e1 : (i + 1) * n = x.length + i * n := by rw [Nat.succ_mul, hx]; omega
    rw [e1, List.take_length_add_append, Nat.add_assoc, List.drop_length_add_append]
    simp only [List.append_assoc]
theorem Cl.at {n : Nat} {h : H} {v : Value} {els : List (List Value)} {base : Nat} (c : Cl n h v els base) {i : Nat} (hi : i < els.length) : ∃ q, A.idxS n v (.int .i64 (i : Int)) = some (.pointer (some ⟨q, i * n, none⟩)) ∧ base ≤ q ∧ AM.sid v = some q ∧
    A.load true n (.pointer (some ⟨q, i * n, none⟩)) h = some (.agg ⟨els[i]⟩) ∧
    ∀ (w : List Value) (g : H), w.length = n → g.get q = h.get q → h.next ≤ g.next → A.store n (.pointer (some ⟨q, i * n, none⟩)) (.agg ⟨w⟩) g = some (g.put q (.cells (els.set i w).flatten (some n))) ∧ Cl n (g.put q (.cells (els.set i w).flatten (some n))) v (els.set i w) base := by
  rcases c.2 with ⟨rfl, _⟩ | ⟨q, rfl, hb, hq, hg⟩
  · simp at hi
  have hfl := flatten_len c.1
  have hle : (i + 1) * n ≤ els.length * n := Nat.mul_le_mul_right n hi
  rw [Nat.succ_mul] at hle
  have ix := idxS_eq n q 0 els.length (2 * els.length) i .i64 hi
  rw [Nat.zero_add] at ix
  have hs : SliceE n h (.slice (some ⟨q, 0, none⟩) els.length (2 * els.length)) els := ⟨c.1, .inr ⟨q, 0, _, rfl, by omega, hq, fun _ => ⟨_, _, hg, by omega, by rw [List.drop_zero, List.take_of_length_le (by omega)]⟩⟩⟩
  obtain ⟨id, off, cells, own, e1, _, e3, e4, e5, _⟩ := hs.at (List.getElem?_eq_getElem hi) .i64
  rw [ix] at e1
  have eid : q = id ∧ i * n = off := by
    injection e1 with e1; injection e1 with e1; injection e1 with e1; injection e1 with a b _
    exact ⟨a, b⟩
  obtain ⟨rfl, rfl⟩ := eid
  refine ⟨q, ix, hb, rfl, ?_, fun w g hw hgq hgn => ?_⟩
  · rw [loadN_eq, e3]
    have : Nat.ble (i * n + n) cells.length = true := by rw [ble_dec, decide_eq_true_iff]; exact e4
    simp only [this, cond_true, e5]
  · rw [store_eq, hgq, hg]
    have c1 : Nat.beq w.length n = true := by rw [beq_dec', decide_eq_true_iff]; exact hw
    have c2 : Nat.ble (i * n + n) els.flatten.length = true := by rw [ble_dec, decide_eq_true_iff]; omega
    refine ⟨?_, fun e he => ?_, .inr ⟨q, by rw [List.length_set], hb, Nat.lt_of_lt_of_le hq hgn, by rw [H.get_put, if_pos rfl]⟩⟩
    · simp only [cellsL_agg, c1, c2, Bool.and_self, cond_true, flatten_splice els i c.1 hw hi]
    · rcases List.mem_or_eq_of_mem_set he with h1 | h1
      · exact c.1 e h1
      · rw [h1]; exact hw
end Go.Proofs.Ytdjhkdogpbiglaa.MailD
