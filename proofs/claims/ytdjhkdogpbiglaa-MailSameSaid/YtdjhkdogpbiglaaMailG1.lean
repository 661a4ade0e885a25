/-
  Mail: what the cells of packets and items hold; whether a packet is more than statements go through.
-/
import Derived.Test.YtdjhkdogpbiglaaMailS4
namespace Go.Proofs.Ytdjhkdogpbiglaa.MailD
open Go Go.AM

/-- What the cells of a packet hold. -/
structure PkF where
  i : Nat → Int
  s : Nat → ByteArray
  b : Nat → Bool
  w : Value

/-- A packet's cells. -/
def PkF.cells (f : PkF) : List Value :=
  [.int .u8 (f.i 0), .bool (f.b 1), .int .u8 (f.i 2), .bool (f.b 3), .int .u16 (f.i 4), .string (f.s 5), .string (f.s 6), .int .u8 (f.i 7), .bool (f.b 8), .int .u16 (f.i 9), .string (f.s 10), .bool (f.b 11), .string (f.s 12), .string (f.s 13), .int .u8 (f.i 14), .bool (f.b 15), .bool (f.b 16), .bool (f.b 17), .string (f.s 18), .string (f.s 19), .bool (f.b 20), .int .u8 (f.i 21), f.w, .string (f.s 23)]

/-- A note of a packet: a text and a number. -/
def SubC (x : List Value) : Prop := ∃ st q, x = [.string st, q]

theorem packet_open {h : H} {cs : List Value} (ty : Ty Try.prog h 66 cs) : ∃ (f : PkF) (els : List (List Value)), cs = f.cells ∧ SliceE 2 h f.w els ∧ (∀ x ∈ els, SubC x) ∧ els.length ≤ maxLen := by
  have pl := ty.fields Try.underlying66
  simp only [TyFs] at pl
  obtain ⟨_, _, rfl, p0, ⟨_, _, rfl, p1, ⟨_, _, rfl, p2, ⟨_, _, rfl, p3, ⟨_, _, rfl, p4, ⟨_, _, rfl, p5, ⟨_, _, rfl, p6, ⟨_, _, rfl, p7, ⟨_, _, rfl, p8, ⟨_, _, rfl, p9, ⟨_, _, rfl, p10, ⟨_, _, rfl, p11, ⟨_, _, rfl, p12, ⟨_, _, rfl, p13, ⟨_, _, rfl, p14, ⟨_, _, rfl, p15, ⟨_, _, rfl, p16, ⟨_, _, rfl, p17, ⟨_, _, rfl, p18, ⟨_, _, rfl, p19, ⟨_, _, rfl, p20, rfl⟩⟩⟩⟩⟩⟩⟩⟩⟩⟩⟩⟩⟩⟩⟩⟩⟩⟩⟩⟩⟩ := pl
  obtain ⟨a4, rfl, _⟩ := p0.int_inv Try.underlying5
  obtain ⟨a5, rfl⟩ := p1.bool_inv Try.underlying4
  obtain ⟨a6, rfl, _⟩ := p2.int_inv Try.underlying5
  obtain ⟨a7, rfl⟩ := p3.bool_inv Try.underlying4
  obtain ⟨a8, rfl, _⟩ := p4.int_inv Try.underlying61
  obtain ⟨a9, rfl, _⟩ := p5.str_inv Try.underlying9
  obtain ⟨a10, rfl, _⟩ := p6.str_inv Try.underlying9
  obtain ⟨a11, rfl, _⟩ := p7.int_inv Try.underlying5
  obtain ⟨a12, rfl⟩ := p8.bool_inv Try.underlying4
  obtain ⟨a13, rfl, _⟩ := p9.int_inv Try.underlying61
  obtain ⟨a14, rfl, _⟩ := p10.str_inv Try.underlying9
  obtain ⟨a15, rfl⟩ := p11.bool_inv Try.underlying4
  obtain ⟨a20, rfl⟩ := p13.bool_inv Try.underlying4
  obtain ⟨a21, rfl⟩ := p14.bool_inv Try.underlying4
  obtain ⟨a22, rfl, _⟩ := p15.str_inv Try.underlying9
  obtain ⟨a23, rfl, _⟩ := p16.str_inv Try.underlying9
  obtain ⟨a24, rfl⟩ := p17.bool_inv Try.underlying4
  obtain ⟨a25, rfl, _⟩ := p18.int_inv Try.underlying5
  obtain ⟨a27, rfl, _⟩ := p20.str_inv Try.underlying9
  obtain ⟨w, els, rfl, hs, hm, he⟩ := p19.slice_inv Try.underlying64
  have wl := p12.fields Try.underlying63
  simp only [TyFs] at wl
  obtain ⟨_, _, rfl, q0, ⟨_, _, rfl, q1, ⟨_, _, rfl, q2, ⟨_, _, rfl, q3, rfl⟩⟩⟩⟩ := wl
  obtain ⟨a16, rfl, _⟩ := q0.str_inv Try.underlying9
  obtain ⟨a17, rfl, _⟩ := q1.str_inv Try.underlying9
  obtain ⟨a18, rfl, _⟩ := q2.int_inv Try.underlying5
  obtain ⟨a19, rfl⟩ := q3.bool_inv Try.underlying4
  refine ⟨⟨fun k => match k with | 0 => a4 | 2 => a6 | 4 => a8 | 7 => a11 | 9 => a13 | 14 => a18 | 21 => a25 | _ => 0, fun k => match k with | 5 => a9 | 6 => a10 | 10 => a14 | 12 => a16 | 13 => a17 | 18 => a22 | 19 => a23 | 23 => a27 | _ => .empty, fun k => match k with | 1 => a5 | 3 => a7 | 8 => a12 | 11 => a15 | 15 => a19 | 16 => a20 | 17 => a21 | 20 => a24 | _ => false, w⟩, els, rfl, hs, fun x hx => ?_, hm⟩
  have xl := (he x hx).fields Try.underlying75
  simp only [TyFs] at xl
  obtain ⟨_, _, rfl, x0, ⟨_, _, rfl, x1, rfl⟩⟩ := xl
  obtain ⟨b0, rfl, _⟩ := x0.str_inv Try.underlying9
  obtain ⟨b1, rfl, _⟩ := x1.int_inv Try.underlying5
  exact ⟨b0, _, rfl⟩

/-- A row of texts that may grow. -/
def Txs (h : H) (v : Value) (l : List ByteArray) : Prop :=
  ∃ q e, v = .slice (some ⟨q, 0, none⟩) l.length (2 * l.length + e) ∧ e < 2 ∧ q < h.next ∧ h.get q = some (.cells (l.map Value.string) (some 1))

theorem Txs.ext {h h' : H} {v : Value} {l : List ByteArray} (t : Txs h v l) (x : Ext h h') : Txs h' v l := by
  obtain ⟨q, e, hv, he, hq, hg⟩ := t
  exact ⟨q, e, hv, he, Nat.lt_of_lt_of_le hq x.next, by rw [x.get q hq]; exact hg⟩

theorem Txs.push {hA h : H} {v : Value} {l : List ByteArray} {s : ByteArray} (t : Txs h v l) (x : Ext hA h) (hv : ∀ i, sid v = some i → hA.next ≤ i) (hl : l.length ≤ 70000) :
    ∃ u h1 v' h', A.buildSlice 1 1 Z9L [(0, 1, .string s)] h = some (u, h1) ∧ A.append 1 16 v u h1 = some (v', h') ∧ Txs h' v' (l ++ [s]) ∧ Ext hA h' ∧ (∀ i, sid v' = some i → hA.next ≤ i) := by
  obtain ⟨q, e, rfl, he, hq, hg⟩ := t
  have hqA : hA.next ≤ q := hv q rfl
  have xn := x.next
  have hb := buildSlice_one (n := 1) (zs := Z9L) h rfl (cellsL_string s) rfl
  obtain ⟨h1, hh1⟩ : ∃ h1, h1 = h.push (.cells [.string s] (some 1)) := ⟨_, rfl⟩
  rw [← hh1] at hb
  have x1 : Ext h h1 := hh1 ▸ Ext.push h _
  have n1 : h1.next = h.next + 1 := by rw [hh1]; rfl
  have g1 : h1.get h.next = some (.cells [.string s] (some 1)) := by rw [hh1, H.get_push, if_pos rfl]
  have gq : h1.get q = some (.cells (l.map Value.string) (some 1)) := by rw [x1.get q hq]; exact hg
  have hel : A.elems 1 (.slice (some ⟨h.next, 0, none⟩) 1 3) h1 = some [.string s] := by simp only [A.elems, g1]; rfl
  have hlo : A.lenOf (.slice (some ⟨h.next, 0, none⟩) 1 3) = 1 := rfl
  have c1 : Nat.ble (l.length + 1) ((2 * l.length + e) / 2) = false := by rw [ble_dec, decide_eq_false_iff_not]; omega
  have c2 : Nat.ble ((l.length + 1) * 16) (2 ^ 47) = true := by rw [ble_dec, decide_eq_true_iff]; omega
  have c3 : Nat.ble (l.length + 1) (2 ^ 47) = true := by rw [ble_dec, decide_eq_true_iff]; omega
  have c4 : Nat.ble (0 + l.length * 1) (l.map Value.string).length = true := by rw [ble_dec, decide_eq_true_iff, List.length_map]; omega
  have c0 : Nat.beq 1 0 = false := rfl
  by_cases hz : e = 1
  · have c5 : Nat.beq ((2 * l.length + e) % 2) 1 = true := by rw [beq_dec', decide_eq_true_iff]; omega
    refine ⟨_, h1, .slice (some ⟨h1.next, 0, none⟩) (l.length + 1) (2 * (l.length + 1)), h1.push (.cells (((l.map Value.string).drop 0).take (l.length * 1) ++ [.string s]) (some 1)), hb, ?_, ⟨h1.next, 0, by simp, by omega, Nat.lt_succ_self _, ?_⟩, (x.trans x1).pushed _, fun i hi => ?_⟩
    · simp only [A.append, hel, hlo, c0, cond_false, gq, c1, c2, c3, c4, c5, Bool.and_self, cond_true]
    · rw [H.get_push, if_pos rfl, List.drop_zero, Nat.mul_one, List.take_of_length_le (by simp), List.map_append]
      rfl
    · have : h1.next = i := by simpa [sid] using hi
      omega
  · have c5 : Nat.beq ((2 * l.length + e) % 2) 1 = false := by rw [beq_dec', decide_eq_false_iff_not]; omega
    have c6 : Nat.beq (0 + l.length * 1) (l.map Value.string).length = true := by rw [beq_dec', decide_eq_true_iff, List.length_map]; omega
    have c7 : Nat.beq 1 1 = true := rfl
    refine ⟨_, h1, .slice (some ⟨h1.next, 0, none⟩) (l.length + 1) (2 * (l.length + 1)), (h1.kill q).push (.cells ((l.map Value.string).drop 0 ++ [.string s]) (some 1)), hb, ?_, ⟨h1.next, 0, by simp, by omega, Nat.lt_succ_self _, ?_⟩, ((x.trans x1).kill q hqA).pushed _, fun i hi => ?_⟩
    · simp only [A.append, hel, hlo, c0, cond_false, gq, c1, c2, c3, c4, c5, c6, c7, Bool.and_self, cond_true]
    · rw [H.get_push, next_kill', if_pos rfl, List.drop_zero, List.map_append]
      rfl
    · have : h1.next = i := by simpa [sid] using hi
      omega

theorem Txs.at {h : H} {v : Value} {l : List ByteArray} (t : Txs h v l) {i : Nat} (hi : i < l.length) : ∃ a, A.idxS 1 v (.int .i64 (i : Int)) = some (.pointer (some a)) ∧ A.load false 1 (.pointer (some a)) h = some (.string l[i]) := by
  obtain ⟨q, e, rfl, _, hq, hg⟩ := t
  have ix := idxS_eq 1 q 0 l.length (2 * l.length + e) i .i64 hi
  refine ⟨_, ix, ?_⟩
  rw [load1_eq, hg]
  simp [List.getElem?_map, hi]
theorem Txs.len {h : H} {v : Value} {l : List ByteArray} (t : Txs h v l) : A.lenS v = some (.int .i64 (l.length : Int)) := by
  obtain ⟨q, e, rfl, _⟩ := t; rfl

/-- Texts of the notes are gathered. -/
theorem subs46 (C : CF) (L : Nat) {β : Type} (kx : Value → Value → H → Option β) {hA : H} {n : Nat} (hn : n < hA.next) {cs : List Value} {w : Value} (hg : hA.get n = some (.cells cs (some 0))) (hw : cs[22]? = some w) {els : List (List Value)} (sw : SliceE 2 hA w els) (he : ∀ x ∈ els, SubC x) (hlen : els.length ≤ 100) (x3 : Value) :
    ∀ (d i m : Nat) (h : H) (v : Value) (l : List ByteArray), i + d = els.length → d < m → Ext hA h → Txs h v l → (∀ i, sid v = some i → hA.next ≤ i) → l.length = 8 + i →
      ∃ h' v' l', p46arrrrlrbw C L kx m (.int .i64 (i : Int)) (ptrV n) v x3 h = kx v' x3 h' ∧ Ext hA h' ∧ Txs h' v' l' ∧ l'.length = 8 + els.length := by
  have hlen2 : A.lenS w = some (.int .i64 (els.length : Int)) := sw.len.1
  intro d
  induction d with
  | zero =>
    intro i m h v l hi hm x t hv hl
    obtain ⟨m, rfl⟩ : ∃ q, m = q + 1 := ⟨m - 1, by omega⟩
    have ld : A.load false 1 (.pointer (some ⟨n, 22, none⟩)) h = some w := by rw [load1_eq, x.get n hn, hg]; exact hw
    have hd : decide ((i : Int) < (els.length : Int)) = false := by rw [decide_eq_false_iff_not]; omega
    refine ⟨h, v, l, ?_, x, t, by omega⟩
    simp only [p46arrrrlrbw, p46arrrrlrbo, fieldAddr_eq, Nat.zero_add, bnd_some, ld, hlen2, bin_lss, hd, toBK_bool, cond_false]
  | succ d ih =>
    intro i m h v l hi hm x t hv hl
    obtain ⟨m, rfl⟩ : ∃ q, m = q + 1 := ⟨m - 1, by omega⟩
    have ld : A.load false 1 (.pointer (some ⟨n, 22, none⟩)) h = some w := by rw [load1_eq, x.get n hn, hg]; exact hw
    have hd : decide ((i : Int) < (els.length : Int)) = true := by rw [decide_eq_true_iff]; omega
    have hil : i < els.length := by omega
    obtain ⟨st, qv, hx⟩ := he _ (List.getElem_mem hil)
    have hel : els[i]? = some [.string st, qv] := by rw [List.getElem?_eq_getElem hil, hx]
    obtain ⟨id, off, cells, own, e1, _, e3, _, _, e6⟩ := (sw.ext x).at hel .i64
    have ld2 : A.load false 1 (.pointer (some ⟨id, off, none⟩)) h = some (.string st) := by rw [load1_eq, e3]; exact e6 0 (by omega)
    have hwr : IntKind.i64.wrap ((i : Int) + 1) = ((i + 1 : Nat) : Int) := wrap_succ (by omega)
    obtain ⟨u, h1, v1, h2, b1, b2, t2, x2, hv2⟩ := t.push (s := st) x hv (by omega)
    obtain ⟨h', v', l', q1, q2, q3, q4⟩ := ih (i + 1) m h2 v1 (l ++ [st]) (by omega) (by omega) x2 t2 hv2 (by simp; omega)
    refine ⟨h', v', l', ?_, q2, q3, q4⟩
    simp only [p46arrrrlrbw, p46arrrrlrbo, fieldAddr_eq, Nat.zero_add, Nat.add_zero, bnd_some, ld, hlen2, bin_lss, hd, toBK_bool, cond_true, e1, ld2, b1, bnd2_some, b2, bin_add, hwr]
    exact q1

/-- Their lengths are held against what is allowed. -/
theorem txs46 (C : CF) (L : Nat) {β : Type} (kr : Value → H → Option β) (kx : H → Option β) {h : H} {v : Value} {l : List ByteArray} (t : Txs h v l) (hl : l.length ≤ 200) :
    ∀ (d i m : Nat) (x3 : Int), i + d = l.length → d < m → 0 ≤ x3 → x3 ≤ 10000 → p46arrrrrlrbw C L kr kx m (.int .i64 (i : Int)) v (.int .i64 x3) h = kr (.bool true) h ∨ p46arrrrrlrbw C L kr kx m (.int .i64 (i : Int)) v (.int .i64 x3) h = kx h := by
  intro d
  induction d with
  | zero =>
    intro i m x3 hi hm _ _
    obtain ⟨m, rfl⟩ : ∃ q, m = q + 1 := ⟨m - 1, by omega⟩
    have hd : decide ((i : Int) < (l.length : Int)) = false := by rw [decide_eq_false_iff_not]; omega
    right
    simp only [p46arrrrrlrbw, p46arrrrrlrbo, t.len, bnd_some, bin_lss, hd, toBK_bool, cond_false]
  | succ d ih =>
    intro i m x3 hi hm h0 h1
    obtain ⟨m, rfl⟩ : ∃ q, m = q + 1 := ⟨m - 1, by omega⟩
    have hd : decide ((i : Int) < (l.length : Int)) = true := by rw [decide_eq_true_iff]; omega
    have hil : i < l.length := by omega
    obtain ⟨a, ix, ld⟩ := t.at hil
    have hwr : IntKind.i64.wrap ((i : Int) + 1) = ((i + 1 : Nat) : Int) := wrap_succ (by omega)
    by_cases hg : x3 < (l[i].size : Int)
    · left
      have hgd : decide (x3 < (l[i].size : Int)) = true := decide_eq_true hg
      simp only [p46arrrrrlrbw, p46arrrrrlrbo, t.len, bnd_some, bin_lss, hd, toBK_bool, cond_true, ix, ld, lenStr_eq, bin_gtr, hgd]
    · have hgd : decide (x3 < (l[i].size : Int)) = false := decide_eq_false hg
      have hw2 : IntKind.i64.wrap (x3 - (l[i].size : Int)) = x3 - (l[i].size : Int) := wrap64 (by omega) (by omega)
      have e : p46arrrrrlrbw C L kr kx (m + 1) (.int .i64 (i : Int)) v (.int .i64 x3) h = p46arrrrrlrbw C L kr kx m (.int .i64 ((i + 1 : Nat) : Int)) v (.int .i64 (x3 - (l[i].size : Int))) h := by
        simp only [p46arrrrrlrbw, p46arrrrrlrbo, t.len, bnd_some, bin_lss, hd, toBK_bool, cond_true, ix, ld, lenStr_eq, bin_gtr, hgd, cond_false, bin_sub, hw2, bin_add, hwr]
      rw [e]
      exact ih (i + 1) m _ (by omega) (by omega) (by omega) (by omega)

theorem T46 (k : Nat) {h : H} {f : PkF} {els : List (List Value)} (sw : SliceE 2 h f.w els) (he : ∀ x ∈ els, SubC x) : ∃ b h', callB Try.prog 0 [9] (k + 300) 46 [.agg ⟨f.cells⟩] h = some (.bool b, h') ∧ Ext h h' := by
  rw [F46eq [9] rfl]
  obtain ⟨h1, hh1⟩ : ∃ h1, h1 = h.push (.cells f.cells (some 0)) := ⟨_, rfl⟩
  have eb : A.box 24 (.agg ⟨f.cells⟩) h = some (ptrV h.next, h1) := by rw [hh1]; rfl
  have n1 : h1.next = h.next + 1 := by rw [hh1]; rfl
  have x1 : Ext h h1 := hh1 ▸ Ext.push h _
  have g1 : h1.get h.next = some (.cells f.cells (some 0)) := by rw [hh1, H.get_push, if_pos rfl]
  have l22 : A.load false 1 (.pointer (some ⟨h.next, 22, none⟩)) h1 = some f.w := by rw [load1_eq, g1]; rfl
  have hlen : A.lenS f.w = some (.int .i64 (els.length : Int)) := sw.len.1
  by_cases hgr : 100 < els.length
  · have hd : decide ((100 : Int) < (els.length : Int)) = true := by rw [decide_eq_true_iff]; omega
    refine ⟨true, h1, ?_, x1⟩
    simp only [F46, p46a, p46al, eb, bnd2_some, p46ar, p46arl, fieldAddr_eq, Nat.zero_add, bnd_some, l22, hlen, bin_gtr, hd, toBK_bool, cond_true]
  have hd : decide ((100 : Int) < (els.length : Int)) = false := by rw [decide_eq_false_iff_not]; omega
  have ls : ∀ i st, f.cells[i]? = some (.string st) → A.load false 1 (.pointer (some ⟨h.next, i, none⟩)) h1 = some (.string st) := fun i st hs => by rw [load1_eq, g1]; exact hs
  have l5 := ls 5 (f.s 5) rfl
  have l6 := ls 6 (f.s 6) rfl
  have l10 := ls 10 (f.s 10) rfl
  have l12 := ls 12 (f.s 12) rfl
  have l13 := ls 13 (f.s 13) rfl
  have l18 := ls 18 (f.s 18) rfl
  have l19 := ls 19 (f.s 19) rfl
  have l23 := ls 23 (f.s 23) rfl
  obtain ⟨h2, hh2⟩ : ∃ h2, h2 = h1.push (.cells ([f.s 5, f.s 6, f.s 10, f.s 12, f.s 13, f.s 18, f.s 19, f.s 23].map Value.string) (some 1)) := ⟨_, rfl⟩
  have bs : A.buildSlice 1 8 Z9L [(0, 1, .string (f.s 5)), (1, 1, .string (f.s 6)), (2, 1, .string (f.s 10)), (3, 1, .string (f.s 12)), (4, 1, .string (f.s 13)), (5, 1, .string (f.s 18)), (6, 1, .string (f.s 19)), (7, 1, .string (f.s 23))] h1
      = some (.slice (some ⟨h1.next, 0, none⟩) 8 17, h2) := by rw [hh2]; rfl
  have x2 : Ext h1 h2 := hh2 ▸ Ext.push h1 _
  have n2 : h2.next = h1.next + 1 := by rw [hh2]; rfl
  have t2 : Txs h2 (.slice (some ⟨h1.next, 0, none⟩) 8 17) [f.s 5, f.s 6, f.s 10, f.s 12, f.s 13, f.s 18, f.s 19, f.s 23] := ⟨h1.next, 1, rfl, by omega, by omega, by rw [hh2, H.get_push, if_pos rfl]⟩
  have sw1 := sw.ext x1
  obtain ⟨h3, v3, l3, e3, x3, t3, n3⟩ := subs46 (callB Try.prog 0 [9] (k + 299)) (k + 299) (fun x4 x3 h => p46arrrrr (callB Try.prog 0 [9] (k + 299)) (k + 299) x4 x3 h (fun x2 h => some (x2, h))) (hA := h1) (n := h.next) (by omega) g1 (show f.cells[22]? = some f.w from rfl) sw1 he (by omega) (.int .i64 10000)
    els.length 0 (k + 299) h2 _ _ (by omega) (by omega) x2 t2 (fun i hi => by
      have : h1.next = i := (by simpa [sid] using hi)
      omega) rfl
  have e3' : p46arrrrlrbw (callB Try.prog 0 [9] (k + 299)) (k + 299) (fun x4 x3 h => p46arrrrr (callB Try.prog 0 [9] (k + 299)) (k + 299) x4 x3 h (fun x2 h => some (x2, h))) (k + 299) (.int .i64 0) (ptrV h.next) (.slice (some ⟨h1.next, 0, none⟩) 8 17) (.int .i64 10000) h2 = _ := e3
  have e4 := txs46 (callB Try.prog 0 [9] (k + 299)) (k + 299) (fun x2 h => some (x2, h)) (fun h => p46arrrrrr (callB Try.prog 0 [9] (k + 299)) (k + 299) h (fun x2 h => some (x2, h))) t3 (by omega) l3.length 0 (k + 299) 10000 (by omega) (by omega) (by omega) (by omega)
  have e4' : p46arrrrrlrbw (callB Try.prog 0 [9] (k + 299)) (k + 299) (fun x2 h => some (x2, h)) (fun h => p46arrrrrr (callB Try.prog 0 [9] (k + 299)) (k + 299) h (fun x2 h => some (x2, h))) (k + 299) (.int .i64 0) v3 (.int .i64 10000) h3 = some (.bool true, h3) ∨
    p46arrrrrlrbw (callB Try.prog 0 [9] (k + 299)) (k + 299) (fun x2 h => some (x2, h)) (fun h => p46arrrrrr (callB Try.prog 0 [9] (k + 299)) (k + 299) h (fun x2 h => some (x2, h))) (k + 299) (.int .i64 0) v3 (.int .i64 10000) h3 = some (.bool false, h3) := e4
  have run : F46 (callB Try.prog 0 [9] (k + 299)) (k + 299) (.agg ⟨f.cells⟩) h = p46arrrrrlrbw (callB Try.prog 0 [9] (k + 299)) (k + 299) (fun x2 h => some (x2, h)) (fun h => p46arrrrrr (callB Try.prog 0 [9] (k + 299)) (k + 299) h (fun x2 h => some (x2, h))) (k + 299) (.int .i64 0) v3 (.int .i64 10000) h3 := by
    simp only [F46, p46a, p46al, eb, bnd2_some, p46ar, p46arl, fieldAddr_eq, Nat.zero_add, bnd_some, l22, hlen, bin_gtr, hd, toBK_bool, cond_false, p46arr, p46arrl, p46arrr, p46arrrl, l5, l6, l10, Nat.add_zero, l12, l13, l18, l19, l23, bs, p46arrrr, p46arrrrl, p46arrrrll, p46arrrrlr, p46arrrrlrb]
    rw [e3']
    simp only [p46arrrrr, p46arrrrrl, p46arrrrrll, p46arrrrrlr, p46arrrrrlrb]
  rw [run]
  rcases e4' with e | e
  · exact ⟨true, h3, e, x1.trans x3⟩
  · exact ⟨false, h3, e, x1.trans x3⟩
end Go.Proofs.Ytdjhkdogpbiglaa.MailD
