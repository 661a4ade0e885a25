/-
  RecordRow returns true: of any row of notes, any numbers. No condition.
-/
import Derived.Test.YtlhppeikbgolbaaRecS7
import Derived.Test.YtlhppeikbgolbaaRecS5
import Derived.Test.YtlhppeikbgolbaaRows
import Derived.Test.YtlhppeikbgolbaaAmLaw
namespace Go.Proofs.Ytlhppeikbgolbaa.RecD
open Go Go.AM

theorem EqN.refl (f : NoteF) (w : Value) : EqN { f with w := w } f := by
  simp [EqN, EqP]

/-- Ops are given out. -/
theorem L7b {m L : Nat} {β : Type} {kr : Value → H → Option β} {kx : Value → Value → Value → Value → Value → H → Option β} {h1 : H} {p : Nat} {v x7 x1 x0 : Value} {ns : List (List Value)} {ds : List (List Value × List (List Value))} {many : Nat} (hmany : many ≤ 9) :
    ∀ (n k g : Nat) (h : H), k ≤ many → many - k < n → g + (many - k) ≤ 1000 → Ext h1 h → LogR h1 h p v ns ds (g : Int) →
    ∃ h', p7arrrrlrborlbrrlrbw (callB Try.prog 0 O1 (m + 1)) L kr kx n (.int .i64 many) (.int .i64 k) x7 (.int .i64 g) x1 x0 (.pointer (some ⟨p, 0, none⟩)) h = kx x7 (.int .i64 ((g + (many - k) : Nat) : Int)) x1 x0 (.pointer (some ⟨p, 0, none⟩)) h' ∧
      LogR h1 h' p v ns ds ((g + (many - k) : Nat) : Int) ∧ Ext h1 h' := by
  intro n
  induction n with
  | zero => intro k g h _ h1; omega
  | succ n ih =>
    intro k g h hk hn hg hx l
    by_cases hlt : k < many
    · have hc : ((k : Int) < (many : Int)) := by omega
      have hw := wrap_succ (n := k) (by omega)
      have hw2 := wrap_succ (n := g) (by omega)
      have e24 := S24 m h p v g l.hp
      have l2 := l.op (IntKind.i64.wrap ((g : Int) + 1))
      obtain ⟨h', e, l', x'⟩ := ih (k + 1) (g + 1) (h.put p (.cells [v, .int .i64 (IntKind.i64.wrap ((g : Int) + 1))] (some 0))) (by omega) (by omega) (by omega) (hx.put _ _ l.p0) (by rw [hw2] at l2 ⊢; exact l2)
      have hgm : g + 1 + (many - (k + 1)) = g + (many - k) := by omega
      rw [hgm] at e l'
      refine ⟨h', ?_, l', x'⟩
      rw [← e]
      conv => lhs; rw [p7arrrrlrborlbrrlrbw]
      simp only [p7arrrrlrborlbrrlrbo]
      rw [← hw, ← hw2]
      simp [hc, e24]
    · have hc : ¬ ((k : Int) < (many : Int)) := by omega
      have hkm : g + (many - k) = g := by omega
      rw [hkm]
      exact ⟨h, by simp [p7arrrrlrborlbrrlrbw, p7arrrrlrborlbrrlrbo, hc], l, hx⟩

/-- How many ops are given out ahead of a note. -/
def manyAt (os : List Int) (i : Nat) : Nat := match os[i]? with | some b => (b.tmod 10).toNat | none => 0
theorem manyAt_le {os : List Int} (i : Nat) : manyAt os i ≤ 9 := by
  unfold manyAt
  split
  · rename_i b _; have := Int.tmod_lt_of_pos b (show (0 : Int) < 10 by omega); omega
  · omega

theorem Q7a {C : CF} {L : Nat} {β : Type} {h : H} {x1 x6 x0 x5 : Value} {os : List Int} {i : Nat} (s : SliceE 1 h x1 (bytesE os)) (hos : ∀ b ∈ os, 0 ≤ b ∧ b ≤ 255) (hi : i < 1000) (kn : Value → Value → Value → Value → Value → Value → H → Option β) :
    p7arrrrlrborlbrl C L (.int .i64 0) (.int .i64 i) x6 x1 x0 x5 h kn = kn (.int .i64 (manyAt os i)) (.int .i64 i) x6 x1 x0 x5 h := by
  have hlen := s.len.1
  have e1 : (bytesE os).length = os.length := by simp [bytesE]
  rw [e1] at hlen
  by_cases hlt : i < os.length
  · have hc : ((i : Int) < (os.length : Int)) := by omega
    obtain ⟨id, off, cells, own, g1, g2, g3, g4, g5, g6⟩ := s.at (i := i) (e := [.int .u8 os[i]]) (by simp [bytesE, hlt]) .i64
    have g6' := g6 0 (by omega)
    simp only [Nat.add_zero, List.getElem?_cons_zero] at g6'
    obtain ⟨b0, b1⟩ := hos os[i] (List.getElem_mem _)
    have hm : manyAt os i = (os[i].tmod 10).toNat := by simp [manyAt, hlt]
    have t0 : 0 ≤ os[i].tmod 10 := Int.tmod_nonneg 10 b0
    have t1 := Int.tmod_lt_of_pos os[i] (show (0 : Int) < 10 by omega)
    have hcv : A.conv Try.prog 5 3 (.int .u8 (os[i].tmod 10)) = some (.int .i64 (manyAt os i)) := by
      have : IntKind.i64.wrap (os[i].tmod 10) = manyAt os i := by rw [wrap64 (by omega) (by omega), hm]; omega
      simp [A.conv, Try.underlying5, Try.underlying3, this]
    simp only [p7arrrrlrborlbrl]
    simp [hlen, hc, g1, g3, g6', bin_rem, hcv]
  · have hc : ¬ ((i : Int) < (os.length : Int)) := by omega
    have hm : manyAt os i = 0 := by simp [manyAt, hlt]
    simp [p7arrrrlrborlbrl, hlen, hc, hm]

/-- One note more. -/
theorem Q7b {m L : Nat} {h0 h1 h : H} {p i : Nat} {x0 x1 x6 v : Value} {fs : List (NoteF × List (List Value))} {ns : List (List Value)} {ops : Int} (r : RowR h0 x0 fs) (hx1 : Ext h0 h1) (hx : Ext h1 h)
    (h60 : fs.length ≤ 60) (h20 : ∀ d ∈ fs, d.2.length ≤ 20) (hi : i < fs.length) (l : LogR h1 h p v ns (dsOf (fs.take i)) ops) :
    ∃ h' v' ns', LogR h1 h' p v' ns' (dsOf (fs.take (i + 1))) ops ∧ Ext h1 h' ∧ ∀ {β : Type} (kr : Value → H → Option β) (kn : Value → Value → Value → Value → Value → H → Option β),
      p7arrrrlrborlbrrr (callB Try.prog 0 O1 (m + 3)) L (.int .i64 i) x6 x1 x0 (.pointer (some ⟨p, 0, none⟩)) h kr kn = kn (.int .i64 i) x6 x1 x0 (.pointer (some ⟨p, 0, none⟩)) h' := by
  have hnl : ns.length = i := by have := l.notes.1; simp at this; omega
  have e19 := S19 (m + 2) l
  have r' := r.ext (hx1.trans hx)
  obtain ⟨id, off, cells, own, g1, g2, g3, g4, g5, g6⟩ := r'.row.at (i := i) (e := fs[i].1.cells) (by simp [hi]) .i64
  obtain ⟨ss, _⟩ := r'.subs fs[i] (List.getElem_mem _)
  have hsub := h20 fs[i] (List.getElem_mem _)
  obtain ⟨w', h3, e1, s1, x1', i1⟩ := S14 (m + 2) h fs[i].1.cells fs[i].1.w fs[i].2 rfl rfl ss hsub
  have hset : fs[i].1.cells.set 26 w' = ({ fs[i].1 with w := w' } : NoteF).cells := rfl
  rw [hset] at e1
  obtain ⟨h4, v', x, e2, l4, x2⟩ := S23 m (l.ext x1') (hx.trans x1') (by simp [dsOf]; omega) (cs := ({ fs[i].1 with w := w' } : NoteF).cells) (w := w') (els := fs[i].2) rfl rfl s1 hsub
  have htk : dsOf (fs.take (i + 1)) = dsOf (fs.take i) ++ [(fs[i].1.cells, fs[i].2)] := by
    simp only [dsOf, List.take_add_one, List.getElem?_eq_getElem hi, Option.toList_some, List.map_append, List.map_cons, List.map_nil]
  refine ⟨h4, v', ns ++ [x], ?_, x2, fun kr kn => ?_⟩
  · rw [htk]
    refine ⟨l4.hp, l4.p0, l4.p1, l4.vec, l4.v0, ⟨by have := l4.notes.1; simpa using this, fun j y d hy hd => ?_⟩⟩
    by_cases hj : j < (dsOf (fs.take i)).length
    · refine l4.notes.2 j y d hy ?_
      rw [List.getElem?_append_left hj] at hd ⊢; exact hd
    · rw [List.getElem?_append_right (by omega)] at hd
      have hj0 : j - (dsOf (fs.take i)).length = 0 := by
        have := (List.getElem?_eq_some_iff.1 hd).1; simp at this ⊢; omega
      rw [hj0] at hd
      simp only [List.getElem?_cons_zero, Option.some.injEq] at hd
      subst hd
      obtain ⟨w2, y1, y2, y3, y4, y5⟩ := l4.notes.2 j y (({ fs[i].1 with w := w' } : NoteF).cells, fs[i].2) hy (by rw [List.getElem?_append_right (by omega), hj0]; rfl)
      exact ⟨w2, y1, rfl, y3, y4, y5⟩
  · simp only [p7arrrrlrborlbrrr]
    simp [e19, hnl, g1, g3, g4, g5, e1, e2]

theorem L7a {m L : Nat} (hL : 20 ≤ L) {β : Type} {kr : Value → H → Option β} {kx : Value → Value → H → Option β} {h0 h1 : H} {p : Nat} {x0 x1 : Value} {fs : List (NoteF × List (List Value))} {os : List Int} (r : RowR h0 x0 fs) (hx1 : Ext h0 h1)
    (h60 : fs.length ≤ 60) (h20 : ∀ d ∈ fs, d.2.length ≤ 20) (s : SliceE 1 h0 x1 (bytesE os)) (hos : ∀ b ∈ os, 0 ≤ b ∧ b ≤ 255) :
    ∀ (n i g : Nat) (h : H) (v : Value) (ns : List (List Value)), i ≤ fs.length → fs.length - i < n → g ≤ 9 * i → Ext h1 h → LogR h1 h p v ns (dsOf (fs.take i)) (g : Int) →
    ∃ h' v' ns' g', p7arrrrlrbw (callB Try.prog 0 O1 (m + 3)) L kr kx n (.int .i64 i) (.int .i64 g) x1 x0 (.pointer (some ⟨p, 0, none⟩)) h = kx x0 (.pointer (some ⟨p, 0, none⟩)) h' ∧ LogR h1 h' p v' ns' (dsOf fs) g' ∧ Ext h1 h' := by
  intro n
  induction n with
  | zero => intro i g h v ns _ h1; omega
  | succ n ih =>
    intro i g h v ns hi hn hg hx l
    by_cases hlt : i < fs.length
    · have hc : ((i : Int) < (fs.length : Int)) := by omega
      have hw := wrap_succ (n := i) (by omega)
      have hlen := r.len
      have hm9 := manyAt_le (os := os) i
      obtain ⟨h2, e2, l2, x2⟩ := L7b (m := m + 2) (L := L) (kr := kr) (kx := fun x7 x6 x1 x0 x5 h => p7arrrrlrborlbrrr (callB Try.prog 0 O1 (m + 3)) L x7 x6 x1 x0 x5 h kr (fun x7 x6 x1 x0 x5 h => p7arrrrlrborr (callB Try.prog 0 O1 (m + 3)) L x7 x6 x1 x0 x5 h (fun x7 x6 x1 x0 x5 h => p7arrrrlrbw (callB Try.prog 0 O1 (m + 3)) L kr kx n x7 x6 x1 x0 x5 h)))
        (x7 := .int .i64 i) (x1 := x1) (x0 := x0) hm9 L 0 g h (by omega) (by omega) (by omega) hx l
      obtain ⟨h3, v3, ns3, l3, x3, e3⟩ := Q7b (m := m) (L := L) (x1 := x1) (x6 := .int .i64 ((g + (manyAt os i - 0) : Nat) : Int)) r hx1 x2 h60 h20 hlt l2
      obtain ⟨h4, v4, ns4, g4, e4, l4, x4⟩ := ih (i + 1) (g + (manyAt os i - 0)) h3 v3 ns3 (by omega) (by omega) (by omega) x3 l3
      refine ⟨h4, v4, ns4, g4, ?_, l4, x4⟩
      rw [← e4]
      have c0 : ((0 : Nat) : Int) = 0 := rfl
      rw [c0] at e2
      rw [p7arrrrlrbw, p7arrrrlrbo]
      simp only [p7arrrrlrbol, hlen, bnd_some, bin_lss, toBK_bool, hc, decide_true, cond_true, p7arrrrlrbor, p7arrrrlrborl, p7arrrrlrborlb, p7arrrrlrborlbl, p7arrrrlrborlbr]
      rw [Q7a (s.ext (hx1.trans hx)) hos (by omega)]
      simp only [p7arrrrlrborlbrr, p7arrrrlrborlbrrl, p7arrrrlrborlbrrll, p7arrrrlrborlbrrlr, p7arrrrlrborlbrrlrb]
      refine e2.trans ?_
      rw [e3]
      simp only [p7arrrrlrborr, bin_add, bnd_some, hw]
    · have hc : ¬ ((i : Int) < (fs.length : Int)) := by omega
      refine ⟨h, v, ns, (g : Int), ?_, ?_, hx⟩
      · simp [p7arrrrlrbw, p7arrrrlrbo, p7arrrrlrbol, r.len, hc]
      · rw [List.take_of_length_le (by omega)] at l; exact l

/-- Each note is as it was. -/
theorem L7c {m L : Nat} {β : Type} {kr : Value → H → Option β} {kx : H → Option β} {h0 h1 h2 : H} {p : Nat} {x0 x10 v : Value} {fs : List (NoteF × List (List Value))} {ns out : List (List Value)} {ops : Int} (r : RowR h2 x0 fs) (h60 : fs.length ≤ 60) (h20 : ∀ d ∈ fs, d.2.length ≤ 20)
    (l : LogR h1 h2 p v ns (dsOf fs) ops) (va : SliceE 35 h2 x10 out) (how : Notes h2 out (dsOf fs) (fun _ => False)) (hm : 30 ≤ m) :
    ∀ (n i : Nat) (h : H), i ≤ fs.length → fs.length - i < n → Ext h2 h →
    ∃ h', p7arrrrrrrlrbw (callB Try.prog 0 O1 (m + 3)) L kr kx n (.int .i64 i) x0 x10 (.pointer (some ⟨p, 0, none⟩)) h = kx h' := by
  intro n
  induction n with
  | zero => intro i h _ h1; omega
  | succ n ih =>
    intro i h hi hn hx
    have hlen := r.len
    by_cases hlt : i < fs.length
    · have hc : ((i : Int) < (fs.length : Int)) := by omega
      have hw := wrap_succ (n := i) (by omega)
      obtain ⟨w1, h3, e15, s1, x3, _⟩ := S15 m (l.ext hx) hlt
      have hz := cells36
      have hsz := spliceZ ({ fs[i].1 with w := w1 } : NoteF)
      have htk := take35 ({ fs[i].1 with w := w1 } : NoteF)
      obtain ⟨h4, hh4⟩ : ∃ h4, h4 = (h3.push (.cells noteZ.cells (some 0))).put h3.next (.cells ({ fs[i].1 with w := w1 } : NoteF).cells (some 0)) := ⟨_, rfl⟩
      have x4 : Ext h3 h4 := by rw [hh4]; exact (Ext.push _ _).put _ _ (Nat.le_refl _)
      have g12 : h4.get h3.next = some (.cells ({ fs[i].1 with w := w1 } : NoteF).cells (some 0)) := by rw [hh4]; simp [H.get_put]
      have x24 : Ext h2 h4 := (hx.trans x3).trans x4
      have r4 := r.ext x24
      obtain ⟨id, off, cells, own, g1, g2, g3, g4, g5, g6⟩ := r4.row.at (i := i) (e := fs[i].1.cells) (by simp [hlt]) .i64
      obtain ⟨ss, sT⟩ := r.subs fs[i] (List.getElem_mem _)
      have hsub := h20 fs[i] (List.getElem_mem _)
      obtain ⟨b1, h5, e26, x5, i26⟩ := S26 (m + 1) (f := { fs[i].1 with w := w1 }) (g := fs[i].1) (s1.ext x4) (ss.ext x24) sT sT (by omega) (by omega)
      have b1t : b1 = true := i26.2 ⟨EqN.refl _ _, rfl⟩
      subst b1t
      obtain ⟨hi', w2, o1, o2, o3, _⟩ := how.at hlt
      have x25 := x24.trans x5
      obtain ⟨id', off', cells', own', j1, j2, j3, j4, j5, j6⟩ := (va.ext x25).at (i := i) (e := out[i]) (List.getElem?_eq_getElem hi') .i64
      rw [o1] at j5
      have k3 : h5.get id = some (.cells cells own) := by rw [x5.get _ g2]; exact g3
      obtain ⟨b2, h6, e26', x6, i26'⟩ := S26 (m + 1) (f := { fs[i].1 with w := w2 }) (g := fs[i].1) (o2.ext x25) (ss.ext x25) sT sT (by omega) (by omega)
      have b2t : b2 = true := i26'.2 ⟨EqN.refl _ _, rfl⟩
      subst b2t
      obtain ⟨h', e'⟩ := ih (i + 1) h6 (by omega) (by omega) (x25.trans x6)
      refine ⟨h', ?_⟩
      rw [← e']
      have q1 : ∀ (kn : Value → Value → Value → Value → Value → Value → H → Option β), p7arrrrrrrlrborlbl (callB Try.prog 0 O1 (m + 3)) L (.int .i64 i) x0 x10 (.pointer (some ⟨p, 0, none⟩)) h kn =
          kn (.bool true) (.pointer (some ⟨h3.next, 0, none⟩)) (.int .i64 i) x0 x10 (.pointer (some ⟨p, 0, none⟩)) h4 := by
        intro kn
        simp only [p7arrrrrrrlrborlbl]
        simp [e15, A.extract, hz, H.get_push, hsz]
        rw [← hh4]
      have q2 : ∀ (kn : Value → Value → Value → Value → Value → H → Option β), p7arrrrrrrlrborlbrl (callB Try.prog 0 O1 (m + 3)) L (.bool true) (.pointer (some ⟨h3.next, 0, none⟩)) (.int .i64 i) x0 x10 (.pointer (some ⟨p, 0, none⟩)) h4 kn =
          kn (.bool false) (.int .i64 i) x0 x10 (.pointer (some ⟨p, 0, none⟩)) h6 := by
        intro kn
        simp only [p7arrrrrrrlrborlbrl]
        simp [g12, htk, g1, g3, g4, g5, e26, j1, j3, j4, j5, k3, e26']
      rw [p7arrrrrrrlrbw, p7arrrrrrrlrbo]
      simp only [p7arrrrrrrlrbol, hlen, bnd_some, bin_lss, toBK_bool, hc, decide_true, cond_true, p7arrrrrrrlrbor, p7arrrrrrrlrborl, p7arrrrrrrlrborlb, q1, p7arrrrrrrlrborlbr, q2, p7arrrrrrrlrborlbrr, condV_bool, cond_false, p7arrrrrrrlrborr, bin_add, hw]
    · have hc : ¬ ((i : Int) < (fs.length : Int)) := by omega
      exact ⟨h, by simp [p7arrrrrrrlrbw, p7arrrrrrrlrbo, p7arrrrrrrlrbol, hlen, hc]⟩

theorem S7 {h : H} {x0 x1 : Value} {fs : List (NoteF × List (List Value))} {os : List Int} (r : RowR h x0 fs) (hm : fs.length ≤ maxLen) (s : SliceE 1 h x1 (bytesE os)) (hos : ∀ b ∈ os, 0 ≤ b ∧ b ≤ 255) :
    ∃ n h', callB Try.prog 0 O1 n 7 [x0, x1] h = some (.bool true, h') := by
  refine ⟨fs.length + 100 + 1, ?_⟩
  rw [F7eq O1 rfl]
  obtain ⟨n, hn⟩ : ∃ n, n = fs.length + 100 := ⟨_, rfl⟩
  rw [← hn]
  obtain ⟨b, h1, e9, x1', hb⟩ := S9 (n - 1) r hm (by omega)
  rw [show n - 1 + 1 = n by omega] at e9
  have aw : ∀ h, callB Try.prog 0 O1 n 10 [] h = some (.bool true, h) := fun h => by
    rw [show n = (n - 1) + 1 by omega]; rfl
  simp only [F7, p7a, p7al, p7ar, p7arl, e9, bnd2_some, toBK_bool]
  cases b with
  | true => exact ⟨h1, by simp [aw]⟩
  | false =>
    obtain ⟨h60, h20⟩ := hb rfl
    have r1 := r.ext x1'
    have e25 := S25 (n - 1) h1
    rw [show n - 1 + 1 = n by omega] at e25
    obtain ⟨h2, v2, ns2, g2, e2, l2, x2⟩ := L7a (m := n - 3) (L := n) (by omega) (kr := fun x4 h => some (x4, h)) (kx := fun x0 x5 h => p7arrrrr (callB Try.prog 0 O1 n) n x0 x5 h fun x4 h => some (x4, h)) r1 (Ext.refl h1) h60 h20 (s.ext x1') hos n 0 0 _ _ _ (by omega) (by omega) (by omega) (Ext.push h1 _) (LogR.new h1)
    rw [show n - 3 + 3 = n by omega] at e2
    obtain ⟨x10, h3, out, e18, x3, v3, _, how⟩ := S18 (n - 3) l2 h60 (by omega)
    rw [show n - 3 + 3 = n by omega] at e18
    have l3 := l2.ext x3
    have ho : Notes h3 out (dsOf fs) (fun _ => False) := ⟨how.notes.1, fun i x d hx hd => by
      obtain ⟨w, a1, a2, a3, a4, _⟩ := how.notes.2 i x d hx hd
      exact ⟨w, a1, a2, a3, a4, fun _ _ hf => hf⟩⟩
    have hol : out.length = fs.length := by have := how.notes.1; simpa using this
    obtain ⟨h4, e4⟩ := L7c (h0 := h) (m := n - 3) (L := n) (kr := fun x4 h => some (x4, h)) (kx := fun h => p7arrrrrrrr (callB Try.prog 0 O1 n) n h fun x4 h => some (x4, h)) (r1.ext (x2.trans x3)) h60 h20 l3 v3.slice ho (by omega) n 0 h3 (by omega) (by omega) (Ext.refl _)
    rw [show n - 3 + 3 = n by omega] at e4
    refine ⟨h4, ?_⟩
    have c0 : ((0 : Nat) : Int) = 0 := rfl
    rw [c0] at e2 e4
    have lo := v3.slice.len.1
    rw [hol] at lo
    have lr := (r1.ext (x2.trans x3)).len
    simp only [cond_false, p7arr, p7arrl, e25, bnd2_some, p7arrr, p7arrrl, p7arrrr, p7arrrrl, p7arrrrll, p7arrrrlr, p7arrrrlrb]
    refine e2.trans ?_
    simp only [p7arrrrr, p7arrrrrl, e18, bnd2_some, p7arrrrrr, p7arrrrrrl, lo, lr, bnd_some, bin_neq, decide_true, Bool.not_true, toBK_bool, cond_false, p7arrrrrrr, p7arrrrrrrl, p7arrrrrrrll, p7arrrrrrrlr, p7arrrrrrrlrb]
    refine e4.trans ?_
    simp [p7arrrrrrrr, aw]

theorem bytes_open {h : H} {v : Value} (ty : TyV Try.prog h 38 v) : ∃ bs : List Int, SliceE 1 h v (bytesE bs) ∧ (∀ b ∈ bs, 0 ≤ b ∧ b ≤ 255) ∧ bs.length ≤ maxLen := by
  cases ty with
  | agg hu _ => rw [Try.underlying38] at hu; simp at hu
  | one hu ty =>
    obtain ⟨v', els, hv, hs, hm, he⟩ := ty.slice_inv Try.underlying38
    simp only [List.cons.injEq, and_true] at hv
    subst hv
    have hc : Try.prog.cellsOf 5 = 1 := by kernel_rfl
    rw [hc] at hs
    have key : ∀ els : List (List Value), (∀ x ∈ els, Ty Try.prog h 5 x) → ∃ bs : List Int, els = bytesE bs ∧ ∀ b ∈ bs, 0 ≤ b ∧ b ≤ 255 := by
      intro els
      induction els with
      | nil => intro _; exact ⟨[], rfl, by simp⟩
      | cons x els ih =>
        intro hx
        obtain ⟨bs, h1, h2⟩ := ih fun y hy => hx y (by simp [hy])
        obtain ⟨b, hb, hw⟩ := (hx x (by simp)).int_inv Try.underlying5
        refine ⟨b :: bs, by rw [h1, hb]; rfl, fun c hc => ?_⟩
        rcases List.mem_cons.1 hc with rfl | hc
        · simp only [Lit.wf, Bool.and_eq_true, decide_eq_true_eq] at hw
          have m1 : IntKind.u8.min = 0 := rfl
          have m2 : IntKind.u8.max = 255 := rfl
          rw [m1, m2] at hw; exact hw
        · exact h2 c hc
    obtain ⟨bs, h1, h2⟩ := key els he
    subst h1
    exact ⟨bs, hs, h2, by simpa [bytesE] using hm⟩

theorem recordRowRun (h : AM.H) (xs : List Value) (_ : Go.AM.Start h) (ty : TyAll Try.prog h [22, 38] xs) : ∃ n h', callB Try.prog 0 O1 n 7 xs h = some (.bool true, h') := by
  match xs, ty with
  | [a, b], ⟨t1, t2, _⟩ =>
    obtain ⟨fs, r, hm⟩ := row_open t1
    obtain ⟨os, s, ho, _⟩ := bytes_open t2
    exact S7 r hm s ho
end Go.Proofs.Ytlhppeikbgolbaa.RecD

namespace Go.Proofs.Ytlhppeikbgolbaa.recordRow
open Go Go.AM Go.RowKit Go.ChangeShapes Go.WideShapes Go.ChangeAt

theorem own : ownKnob Try.prog.godebug = none := by kernel_rfl
theorem zeros : zerosPlain Try.prog = true := by kernel_rfl
theorem mixed : Try.prog.follows .mixedOrders = true := by kernel_rfl
theorem names : namesOK Try.prog = true := by kernel_rfl
theorem awake : ClosedTrue Try.prog 10 :=
  closedTrue (n := 100) zeros mixed names ⟨Try.f10, RecD.c10a, Try.func10, by kernel_rfl, by decide +kernel⟩ (by kernel_rfl)

set_option maxRecDepth 100000 in
theorem lifted (os : Os) (started : os.Started) (H : Type) (enc : TypeId × Value → H) :
    ReturnsInHanded {} Try.checked os 7 .any (Rows.recordRowSpec.pre6 enc Try.prog Try.f7 Rows.recordRowRow.domain false) (Rows.recordRowSpec.post enc Try.prog Try.f7 false true false false) :=
  law_lifted (C := Try.checked) (ts := [22, 38]) (tb := 4) (O := RecD.O1) (n := 8) own started (by kernel_rfl) Try.func7
    (ChangeSpec.witness6 (enc := enc) (C := Try.checked) false ⟨#[], #[.slice none 0 0, .slice none 0 0], []⟩ 8 (by kernel_rfl) (by kernel_rfl) (by kernel_rfl) (by kernel_rfl))
    (by kernel_rfl) (by kernel_rfl) (by kernel_rfl) Try.underlying4 rfl
    (fun ds hd => by match ds, hd with | [d0, d1], _ => exact ⟨rfl, rfl, rfl⟩)
    (by kernel_rfl) (by kernel_rfl) (by kernel_rfl) zeros mixed names (fun f hf => by simp at hf; subst hf; exact awake) RecD.recordRowRun

theorem over : Rows.recordRowRow.holds Try.pinned (OpenSpec.ofChange Rows.recordRowSpec) :=
  OpenClaim.holds_of_wide 7 Try.f7 rfl rfl rfl rfl rfl rfl rfl ⟨rfl, rfl, rfl, rfl, rfl⟩ rfl rfl rfl rfl rfl (by kernel_rfl) Try.func7 (by kernel_rfl)
    (of_decide_eq_true (by kernel_rfl)) (by unfold Func.isWrapper; first | (rw [if_pos (by decide +kernel)]; kernel_rfl) | (rw [if_neg (by decide +kernel)]; exact ⟨rfl, rfl⟩))
    (fun os started H enc _ => lifted os started H enc)

theorem proved : Rows.RecordRowSaid := over
#print axioms proved
end Go.Proofs.Ytlhppeikbgolbaa.recordRow
