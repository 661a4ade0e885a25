/-
  RecordOwn returns true: of any row of notes, any byte. No condition.
-/
import Derived.Test.YtlhppeikbgolbaaRecS7
import Derived.Test.YtlhppeikbgolbaaRecS5
import Derived.Test.YtlhppeikbgolbaaRows
import Derived.Test.YtlhppeikbgolbaaAmLaw
namespace Go.Proofs.Ytlhppeikbgolbaa.RecD
open Go Go.AM

theorem EqN.refl (f : NoteF) (w : Value) : EqN { f with w := w } f := by
  simp [EqN, EqP]

/-- Subs in memory of the call's own. -/
structure WS (h : H) (v : Value) (els : List (List Value)) : Prop where
  s : SliceE 2 h v els
  t : SubsT els
  o : ∀ i, sid v = some i → OwnAt h i

theorem WS.extBut {S : Nat → Prop} {h h' : H} {v : Value} {els : List (List Value)} (w : WS h v els) (x : ExtBut S h h') (hs : ∀ i, sid v = some i → ¬ S i) : WS h' v els :=
  ⟨w.s.extBut x hs, w.t, fun i hi => by
    obtain ⟨cs, es, hg⟩ := w.o i hi
    exact ⟨cs, es, by rw [x.get i (w.s.sid_lt i hi) (hs i hi)]; exact hg⟩⟩

theorem flatten_set {n : Nat} {els : List (List Value)} (h : ∀ x ∈ els, x.length = n) {k c : Nat} {e : List Value} (he : els[k]? = some e) (hc : c < n) (nv : Value) :
    (els.set k (e.set c nv)).flatten = els.flatten.set (k * n + c) nv := by
  have hk : k < els.length := (List.getElem?_eq_some_iff.1 he).1
  have hel : e.length = n := h e (List.mem_of_getElem? he)
  have h' : ∀ x ∈ els.set k (e.set c nv), x.length = n := by
    intro x hx
    rcases List.mem_or_eq_of_mem_set hx with hx | rfl
    · exact h x hx
    · simp [hel]
  have hn : 0 < n := by omega
  apply List.ext_getElem?
  intro j
  have hq : j = j / n * n + j % n := by rw [Nat.mul_comm]; exact (Nat.div_add_mod _ _).symm
  have hr : j % n < n := Nat.mod_lt _ hn
  have e1 := flatten_get h' (j / n) (j % n) hr
  have e2 := flatten_get h (j / n) (j % n) hr
  rw [← hq] at e1 e2
  rw [e1, List.getElem?_set, List.getElem?_set, e2]
  by_cases hjk : k = j / n
  · rw [if_pos hjk]
    subst hjk
    rw [if_pos hk, he]
    simp only [Option.bind_some, List.getElem?_set, hel]
    by_cases hjc : c = j % n
    · rw [if_pos hjc, if_pos (by omega), if_pos (by rw [hjc]; exact hq.symm), if_pos]
      rw [flatten_len h]
      have := Nat.mul_le_mul_right n hk
      rw [Nat.succ_mul] at this; omega
    · rw [if_neg hjc, if_neg (by omega)]
  · rw [if_neg hjk, if_neg]
    intro e
    apply hjk
    have : j / n = k := by
      rw [← e, Nat.add_comm, Nat.mul_comm, Nat.add_mul_div_left _ _ hn, Nat.div_eq_of_lt hc]; omega
    exact this.symm

/-- A cell of a Sub is written. -/
theorem WS.store {h : H} {v : Value} {els : List (List Value)} (w : WS h v els) {k c : Nat} {a : ByteArray} {q : Int} {nv : Value} (he : els[k]? = some [.string a, .int .u8 q])
    (hc : (c = 0 ∧ ∃ b, nv = .string b) ∨ (c = 1 ∧ ∃ b, nv = .int .u8 b)) :
    ∃ id off cells es els', A.idxS 2 v (.int .i64 k) = some (.pointer (some ⟨id, off, none⟩)) ∧ sid v = some id ∧ h.get id = some (.cells cells (some es)) ∧ off + 2 ≤ cells.length ∧ cells[off + 1]? = some (.int .u8 q) ∧
      WS (h.put id (.cells (splice cells (off + c) [nv]) (some es))) v els' ∧ els'.length = els.length := by
  have hk : k < els.length := (List.getElem?_eq_some_iff.1 he).1
  have hc2 : c < 2 := by rcases hc with ⟨rfl, _⟩ | ⟨rfl, _⟩ <;> omega
  rcases w.s.2 with ⟨_, hnil⟩ | ⟨id, off, cap, hv, hcap, hid, h3⟩
  · subst hnil; simp at hk
  · obtain ⟨cells, own, hg, h4, h5⟩ := h3 (fun e => by subst e; simp at hk)
    obtain ⟨cs2, es, hg2⟩ := w.o id (by rw [hv]; rfl)
    rw [hg] at hg2
    simp only [Option.some.injEq, Blk.cells.injEq] at hg2
    obtain ⟨rfl, rfl⟩ := hg2
    have hle : (k + 1) * 2 ≤ els.length * 2 := Nat.mul_le_mul_right 2 hk
    have hix := idxS_eq 2 id off els.length cap k .i64 hk
    have hq1 : cells[off + k * 2 + 1]? = some (.int .u8 q) := by
      have : ((cells.drop off).take (els.length * 2))[k * 2 + 1]? = els.flatten[k * 2 + 1]? := by rw [h5]
      rw [List.getElem?_take, if_pos (by omega), List.getElem?_drop, flatten_get w.s.1 k 1 (by omega), he] at this
      rw [Nat.add_assoc]; exact this
    have hsp : splice cells (off + k * 2 + c) [nv] = cells.set (off + k * 2 + c) nv := splice_one (by omega)
    have hset : els.set k ([.string a, .int .u8 q].set c nv) = els.set k ([.string a, .int .u8 q].set c nv) := rfl
    refine ⟨id, off + k * 2, cells, es, els.set k ([Value.string a, .int .u8 q].set c nv), by rw [hv]; exact hix, by rw [hv]; rfl, hg, by omega, hq1, ⟨⟨?_, ?_⟩, ?_, ?_⟩, by simp⟩
    · intro x hx
      rcases List.mem_or_eq_of_mem_set hx with hx | rfl
      · exact w.s.1 x hx
      · simp
    · refine .inr ⟨id, off, cap, by rw [List.length_set]; exact hv, by rw [List.length_set]; exact hcap, hid, fun _ => ⟨_, _, by rw [H.get_put, if_pos rfl], ?_, ?_⟩⟩
      · rw [List.length_set, hsp, List.length_set]; exact h4
      · rw [flatten_set w.s.1 he hc2, List.length_set, hsp, ← h5]
        apply List.ext_getElem?
        intro j
        simp only [List.getElem?_take, List.getElem?_drop, List.getElem?_set, List.length_take, List.length_drop]
        by_cases hj : j < els.length * 2
        · rw [if_pos hj]
          by_cases hjc : k * 2 + c = j
          · rw [if_pos (by omega), if_pos (by omega), if_pos (by omega), if_pos (by omega)]
          · rw [if_neg (by omega), if_neg hjc, if_pos hj]
        · rw [if_neg hj, if_neg (by omega), if_neg hj]
    · intro x hx
      rcases List.mem_or_eq_of_mem_set hx with hx | rfl
      · exact w.t x hx
      · rcases hc with ⟨rfl, b, rfl⟩ | ⟨rfl, b, rfl⟩
        · exact ⟨b, q, rfl⟩
        · exact ⟨a, b, rfl⟩
    · intro i hi
      rw [hv] at hi
      simp only [sid, Option.some.injEq] at hi
      subst hi
      exact ⟨_, es, by rw [H.get_put, if_pos rfl]⟩

/-- What was handed in is written over. -/
theorem L8a {C : CF} {L : Nat} {β : Type} {kx : Value → Value → Value → Value → H → Option β} {h1 : H} {t7 : Nat} {f : NoteF} {x6 x5 x0 : Value} {by' : Int}
    (hl : f.w = f.w) :
    ∀ (n k : Nat) (h : H) (els : List (List Value)), k ≤ els.length → els.length - k < n → els.length < 2 ^ 40 → WS h f.w els → h.get t7 = some (.cells f.cells (some 0)) → t7 < h.next → sid f.w ≠ some t7 → ExtBut (fun i => sid f.w = some i) h1 h →
    ∃ h', p8arrrlrborlbrrrbw C L kx n (.int .i64 k) (.pointer (some ⟨t7, 0, none⟩)) x6 (.int .u8 by') x5 x0 h = kx x6 (.int .u8 by') x5 x0 h' ∧ ExtBut (fun i => sid f.w = some i) h1 h' := by
  intro n
  induction n with
  | zero => intro k h els _ h1; omega
  | succ n ih =>
    intro k h els hk hn hel w ht htl hts hx
    have l1 := w.s.len.1
    by_cases hlt : k < els.length
    · have hc : ((k : Int) < (els.length : Int)) := by omega
      have hw := wrap_succ (n := k) (by omega)
      obtain ⟨a, q, he⟩ := w.t els[k] (List.getElem_mem _)
      have he' : els[k]? = some [.string a, .int .u8 q] := by rw [List.getElem?_eq_getElem hlt, he]
      obtain ⟨id, off, cells, es, els', g1, g2, g3, g4, g5, w', hl'⟩ := w.store (c := 1) (nv := .int .u8 (IntKind.u8.wrap (q + by'))) he' (.inr ⟨rfl, _, rfl⟩)
      obtain ⟨h', e', x'⟩ := ih (k + 1) _ els' (by omega) (by omega) (by omega) w' (by rw [H.get_put, if_neg (fun e => hts (by rw [e]; exact g2))]; exact ht) htl hts (hx.put id _ g2)
      refine ⟨h', ?_, x'⟩
      rw [← e', p8arrrlrborlbrrrbw, ← hw]
      simp only [p8arrrlrborlbrrrbo]
      have hle1 : off + 1 + 1 ≤ cells.length := by omega
      simp [ht, l1, hc, g1, g3, g5, hle1]
    · have hc : ¬ ((k : Int) < (els.length : Int)) := by omega
      exact ⟨h, by simp [p8arrrlrborlbrrrbw, p8arrrlrborlbrrrbo, ht, l1, hc], hx⟩

theorem LogR.extBut {S : Nat → Prop} {h0 h h' : H} {p : Nat} {v : Value} {ns : List (List Value)} {ds : List (List Value × List (List Value))} {ops : Int} (l : LogR h0 h p v ns ds ops) (x : ExtBut S h h')
    (h1 : ¬ S p) (h2 : ∀ i, sid v = some i → ¬ S i) (h3 : ∀ y ∈ ns, ∀ w, y[26]? = some w → ∀ i, sid w = some i → ¬ S i) : LogR h0 h' p v ns ds ops := by
  refine ⟨by rw [x.get _ l.p1 h1]; exact l.hp, l.p0, Nat.lt_of_lt_of_le l.p1 x.next, l.vec.extBut x h2, l.v0, ⟨l.notes.1, fun i y d hy hd => ?_⟩⟩
  obtain ⟨w, rfl, a1, a2, a3, a4⟩ := l.notes.2 i y d hy hd
  exact ⟨w, rfl, a1, a2.extBut x (h3 _ (List.mem_of_getElem? hy) w (by simp [a1])), a3, a4⟩

/-- The log is filled, and what was handed in is written over. -/
theorem L8 {m L : Nat} (hL : 30 ≤ L) {β : Type} {kx : Value → Value → H → Option β} {h0 h1 : H} {p : Nat} {x0 : Value} {by' : Int} {fs : List (NoteF × List (List Value))} (r : RowR h0 x0 fs) (hx1 : Ext h0 h1)
    (h60 : fs.length ≤ 60) (h20 : ∀ d ∈ fs, d.2.length ≤ 20) :
    ∀ (n i : Nat) (h : H) (v : Value) (ns : List (List Value)), i ≤ fs.length → fs.length - i < n → Ext h1 h → LogR h1 h p v ns (dsOf (fs.take i)) 0 →
    ∃ h' v' ns', p8arrrlrbw (callB Try.prog 0 O1 (m + 3)) L kx n (.int .i64 i) (.int .u8 by') (.pointer (some ⟨p, 0, none⟩)) x0 h = kx (.pointer (some ⟨p, 0, none⟩)) x0 h' ∧ LogR h1 h' p v' ns' (dsOf fs) 0 ∧ Ext h1 h' := by
  intro n
  induction n with
  | zero => intro i h v ns _ h1; omega
  | succ n ih =>
    intro i h v ns hi hn hx l
    have hlen := r.len
    by_cases hlt : i < fs.length
    · have hc : ((i : Int) < (fs.length : Int)) := by omega
      have hw := wrap_succ (n := i) (by omega)
      have r' := r.ext (hx1.trans hx)
      obtain ⟨id, off, cells, own, g1, g2, g3, g4, g5, g6⟩ := r'.row.at (i := i) (e := fs[i].1.cells) (by simp [hlt]) .i64
      obtain ⟨ss, sT⟩ := r'.subs fs[i] (List.getElem_mem _)
      have hsub := h20 fs[i] (List.getElem_mem _)
      obtain ⟨w', h3, e1, s1, x1', i1⟩ := S14 (m + 2) h fs[i].1.cells fs[i].1.w fs[i].2 rfl rfl ss hsub
      have hset : fs[i].1.cells.set 26 w' = ({ fs[i].1 with w := w' } : NoteF).cells := rfl
      rw [hset] at e1
      -- the note's place
      have hz := cells36
      have hsz := spliceZ ({ fs[i].1 with w := w' } : NoteF)
      have htk35 := take35 ({ fs[i].1 with w := w' } : NoteF)
      obtain ⟨h4, hh4⟩ : ∃ h4, h4 = (h3.push (.cells noteZ.cells (some 0))).put h3.next (.cells ({ fs[i].1 with w := w' } : NoteF).cells (some 0)) := ⟨_, rfl⟩
      have x4 : Ext h3 h4 := by rw [hh4]; exact (Ext.push _ _).put _ _ (Nat.le_refl _)
      have g7 : h4.get h3.next = some (.cells ({ fs[i].1 with w := w' } : NoteF).cells (some 0)) := by rw [hh4]; simp [H.get_put]
      have hn4 : h4.next = h3.next + 1 := by rw [hh4]; rfl
      have s4 := s1.ext x4
      have l4 := l.ext (x1'.trans x4)
      have hx4 := hx.trans (x1'.trans x4)
      obtain ⟨h5, v5, y, e23, l5, x5, fy, xb5, fv5⟩ := S23' m l4 hx4 (by simp [dsOf]; omega) (cs := ({ fs[i].1 with w := w' } : NoteF).cells) (w := w') (els := fs[i].2) rfl rfl s4 hsub
      have htk : dsOf (fs.take (i + 1)) = dsOf (fs.take i) ++ [(fs[i].1.cells, fs[i].2)] := by
        simp only [dsOf, List.take_add_one, List.getElem?_eq_getElem hlt, Option.toList_some, List.map_append, List.map_cons, List.map_nil]
      have l5' : LogR h1 h5 p v5 (ns ++ [y]) (dsOf (fs.take (i + 1))) 0 := by
        rw [htk]
        refine ⟨l5.hp, l5.p0, l5.p1, l5.vec, l5.v0, ⟨by have := l5.notes.1; simpa using this, fun j y d hy hd => ?_⟩⟩
        by_cases hj : j < (dsOf (fs.take i)).length
        · refine l5.notes.2 j y d hy ?_
          rw [List.getElem?_append_left hj] at hd ⊢; exact hd
        · rw [List.getElem?_append_right (by omega)] at hd
          have hj0 : j - (dsOf (fs.take i)).length = 0 := by
            have := (List.getElem?_eq_some_iff.1 hd).1; simp at this ⊢; omega
          rw [hj0] at hd
          simp only [List.getElem?_cons_zero, Option.some.injEq] at hd
          subst hd
          obtain ⟨w2, y1, y2, y3, y4, y5⟩ := l5.notes.2 j y (({ fs[i].1 with w := w' } : NoteF).cells, fs[i].2) hy (by rw [List.getElem?_append_right (by omega), hj0]; rfl)
          exact ⟨w2, y1, rfl, y3, y4, y5⟩
      -- who is where
      have hw'1 : ∀ j, sid w' = some j → h.next ≤ j ∧ j < h3.next := fun j hj => ⟨(i1 j hj).1, s1.sid_lt j hj⟩
      have hnp : ∀ j, sid w' = some j → ¬ (j = p ∨ sid v = some j) := by
        intro j hj hb
        have h1 := hw'1 j hj
        rcases hb with hb | hb
        · have := l.p1; omega
        · have := l.vec.slice.sid_lt j hb; omega
      have ws : WS h5 ({ fs[i].1 with w := w' } : NoteF).w fs[i].2 := by
        refine ⟨s4.extBut xb5 hnp, sT, fun j hj => ?_⟩
        obtain ⟨_, cs, es, hg⟩ := i1 j hj
        have h2 := (hw'1 j hj).2
        exact ⟨cs, es, by rw [xb5.get j (by omega) (hnp j hj), x4.get j h2]; exact hg⟩
      have g75 : h5.get h3.next = some (.cells ({ fs[i].1 with w := w' } : NoteF).cells (some 0)) := by
        rw [xb5.get _ (by omega) (fun hb => ?_)]
        · exact g7
        · have hx13 := x1'.next
          rcases hb with hb | hb
          · have := l.p1; omega
          · have := l.vec.slice.sid_lt _ hb; omega
      obtain ⟨h6, e6, x6⟩ := L8a (C := callB Try.prog 0 O1 (m + 3)) (L := L) (f := { fs[i].1 with w := w' }) (x6 := .int .i64 i) (by' := by') (x5 := .pointer (some ⟨p, 0, none⟩)) (x0 := x0) (t7 := h3.next) (h1 := h5)
        (kx := fun x6 x1 x5 x0 h => p8arrrlrborr (callB Try.prog 0 O1 (m + 3)) L x6 x1 x5 x0 h (fun x6 x1 x5 x0 h => p8arrrlrbw (callB Try.prog 0 O1 (m + 3)) L kx n x6 x1 x5 x0 h)) rfl L 0 h5 fs[i].2 (by omega) (by omega) (by omega) ws g75 (by have := xb5.next; omega)
        (fun e => by have := (hw'1 _ e).2; omega) ⟨Nat.le_refl _, fun _ _ _ => rfl⟩
      have l6 := l5'.extBut x6 (fun e => hnp p e (.inl rfl)) (fun j hj e => by
        have h1 := fv5 j hj
        have h2 := (hw'1 j e).2
        omega) (fun z hz u hu j hj e => by
        have h2 := hw'1 j e
        rcases List.mem_append.1 hz with hz | hz
        · obtain ⟨jj, hjj⟩ := List.mem_iff_getElem?.1 hz
          have hjl : jj < (dsOf (fs.take i)).length := by rw [← l.notes.1]; exact (List.getElem?_eq_some_iff.1 hjj).1
          obtain ⟨u2, b1, b2, b3, _⟩ := l.notes.2 jj z _ hjj (List.getElem?_eq_getElem hjl)
          have hu2 : u2 = u := by
            rw [b1] at hu
            simpa [b2] using hu
          subst hu2
          have := b3.sid_lt j hj; omega
        · simp at hz; subst hz
          have := fy j u hu hj
          omega)
      have hx6 : Ext h1 h6 := ⟨Nat.le_trans x5.next x6.next, fun id hid => by
        rw [x6.get id (Nat.lt_of_lt_of_le hid x5.next) (fun e => by have := (hw'1 id e).1; have := hx.next; omega)]
        exact x5.get id hid⟩
      obtain ⟨h7, v7, ns7, e7, l7, x7⟩ := ih (i + 1) h6 v5 _ (by omega) (by omega) hx6 l6
      refine ⟨h7, v7, ns7, ?_, l7, x7⟩
      have q1 : ∀ (kn : Value → Value → Value → Value → Value → H → Option β), p8arrrlrborlbl (callB Try.prog 0 O1 (m + 3)) L (.int .i64 i) (.int .u8 by') (.pointer (some ⟨p, 0, none⟩)) x0 h kn =
          kn (.pointer (some ⟨h3.next, 0, none⟩)) (.int .i64 i) (.int .u8 by') (.pointer (some ⟨p, 0, none⟩)) x0 h4 := by
        intro kn
        simp only [p8arrrlrborlbl]
        simp [g1, g3, g4, g5, e1, hz, H.get_push, hsz]
        rw [← hh4]
      have q2 : ∀ (kn : Value → Value → Value → Value → Value → H → Option β), p8arrrlrborlbrl (callB Try.prog 0 O1 (m + 3)) L (.pointer (some ⟨h3.next, 0, none⟩)) (.int .i64 i) (.int .u8 by') (.pointer (some ⟨p, 0, none⟩)) x0 h4 kn =
          kn (.pointer (some ⟨h3.next, 0, none⟩)) (.int .i64 i) (.int .u8 by') (.pointer (some ⟨p, 0, none⟩)) x0 h5 := by
        intro kn
        simp only [p8arrrlrborlbrl]
        simp [g7, htk35, e23]
      rw [← e7]
      have c0 : ((0 : Nat) : Int) = 0 := rfl
      rw [c0] at e6
      rw [p8arrrlrbw, p8arrrlrbo]
      simp only [p8arrrlrbol, hlen, bnd_some, bin_lss, toBK_bool, hc, decide_true, cond_true, p8arrrlrbor, p8arrrlrborl, p8arrrlrborlb, q1, p8arrrlrborlbr, q2, p8arrrlrborlbrr, p8arrrlrborlbrrl, p8arrrlrborlbrrr, p8arrrlrborlbrrrb]
      refine e6.trans ?_
      simp only [p8arrrlrborr, bin_add, bnd_some, hw]
    · have hc : ¬ ((i : Int) < (fs.length : Int)) := by omega
      refine ⟨h, v, ns, ?_, ?_, hx⟩
      · simp [p8arrrlrbw, p8arrrlrbo, p8arrrlrbol, hlen, hc]
      · rw [List.take_of_length_le (by omega)] at l; exact l

/-- What was answered is written over: a note, and its fellow in the row. -/
theorem L8b {C : CF} {L : Nat} {β : Type} {kx : Value → Value → Value → Value → Value → H → Option β} {h1 : H} {t12 i : Nat} {f g : NoteF} {x0 x5 x9 x10 : Value} {fs : List (NoteF × List (List Value))} {out : List (List Value)} (hi : i < fs.length)
    (hio : out[i]? = some g.cells) :
    ∀ (n k : Nat) (h : H) (e1 e2 : List (List Value)), k ≤ fs[i].2.length → fs[i].2.length - k < n → fs[i].2.length ≤ 20 → RowR h x0 fs → SliceE 35 h x10 out → WS h f.w e1 → WS h g.w e2 → e1.length = fs[i].2.length → e2.length = fs[i].2.length →
      h.get t12 = some (.cells f.cells (some 0)) → t12 < h.next → sid f.w ≠ some t12 → sid g.w ≠ some t12 → (∀ j, sid f.w = some j → sid g.w ≠ some j) → (∀ j, sid x10 = some j → sid f.w ≠ some j ∧ sid g.w ≠ some j) →
      (∀ h', ExtBut (fun j => sid f.w = some j ∨ sid g.w = some j) h1 h' → RowR h' x0 fs) → ExtBut (fun j => sid f.w = some j ∨ sid g.w = some j) h1 h →
    ∃ h', p8arrrrlrborlbrrrborlbrrrbw C L kx n (.int .i64 k) (.pointer (some ⟨t12, 0, none⟩)) (.int .i64 i) x10 x9 x5 x0 h = kx (.int .i64 i) x10 x9 x5 x0 h' ∧ ExtBut (fun j => sid f.w = some j ∨ sid g.w = some j) h1 h' := by
  intro n
  induction n with
  | zero => intro k h e1 e2 _ h1; omega
  | succ n ih =>
    intro k h e1 e2 hk hn h20 r so w1 w2 l1 l2 ht htl hf hg hfg hxo hrow hx
    obtain ⟨id, off, cells, own, g1, g2, g3, g4, g5, g6⟩ := r.row.at (i := i) (e := fs[i].1.cells) (by simp [hi]) .i64
    have g26 := g6 26 (by omega)
    simp only [NoteF.cell26] at g26
    have ls := (r.subs fs[i] (List.getElem_mem _)).1.len.1
    by_cases hlt : k < fs[i].2.length
    · have hc : ((k : Int) < (fs[i].2.length : Int)) := by omega
      have hw := wrap_succ (n := k) (by omega)
      have hlt1 : k < e1.length := by omega
      have hlt2 : k < e2.length := by omega
      obtain ⟨a, q, he⟩ := w1.t e1[k] (List.getElem_mem _)
      obtain ⟨a2, q2, he2⟩ := w2.t e2[k] (List.getElem_mem _)
      obtain ⟨ida, offa, ca, esa, e1', a1, a2', a3, a4, a5, w1', la⟩ := w1.store (c := 0) (nv := .string ⟨⟨[63]⟩⟩) (k := k) (a := a) (q := q) (by rw [List.getElem?_eq_getElem hlt1, he]) (.inl ⟨rfl, _, rfl⟩)
      obtain ⟨h2, hh2⟩ : ∃ h2, h2 = h.put ida (.cells (splice ca (offa + 0) [.string ⟨⟨[63]⟩⟩]) (some esa)) := ⟨_, rfl⟩
      rw [← hh2] at w1'
      have xa : ExtBut (fun j => sid f.w = some j) h h2 := by rw [hh2]; exact ExtBut.put ⟨Nat.le_refl _, fun _ _ _ => rfl⟩ _ _ a2'
      have w2a : WS h2 g.w e2 := w2.extBut xa (fun j hj e => hfg j e hj)
      have so2 : SliceE 35 h2 x10 out := so.extBut xa (fun j hj => (hxo j hj).1)
      obtain ⟨idb, offb, cb, esb, e2', b1, b2', b3, b4, b5, w2', lb⟩ := w2a.store (c := 0) (nv := .string ⟨⟨[63]⟩⟩) (k := k) (a := a2) (q := q2) (by rw [List.getElem?_eq_getElem hlt2, he2]) (.inl ⟨rfl, _, rfl⟩)
      obtain ⟨h3, hh3⟩ : ∃ h3, h3 = h2.put idb (.cells (splice cb (offb + 0) [.string ⟨⟨[63]⟩⟩]) (some esb)) := ⟨_, rfl⟩
      rw [← hh3] at w2'
      have xb : ExtBut (fun j => sid g.w = some j) h2 h3 := by rw [hh3]; exact ExtBut.put ⟨Nat.le_refl _, fun _ _ _ => rfl⟩ _ _ b2'
      have xab : ExtBut (fun j => sid f.w = some j ∨ sid g.w = some j) h h3 :=
        ExtBut.trans (b := h2) ⟨xa.next, fun j h1 h2 => xa.get j h1 (fun e => h2 (.inl e))⟩ ⟨xb.next, fun j h1 h2 => xb.get j h1 (fun e => h2 (.inr e))⟩
      have hx3 := hx.trans xab
      obtain ⟨h', e', x'⟩ := ih (k + 1) h3 e1' e2' (by omega) (by omega) h20 (hrow h3 hx3) (so2.extBut xb (fun j hj => (hxo j hj).2)) (w1'.extBut xb (fun j hj => hfg j hj)) w2' (by omega) (by omega)
        (by rw [xab.get _ htl (fun e => e.elim hf hg)]; exact ht) (Nat.lt_of_lt_of_le htl xab.next) hf hg hfg hxo hrow hx3
      refine ⟨h', ?_, x'⟩
      obtain ⟨ido, offo, co, oo, o1, o2, o3, o4, o5, o6⟩ := so2.at (i := i) hio .i64
      have o26 := o6 26 (by omega)
      simp only [NoteF.cell26] at o26
      rw [← e', p8arrrrlrborlbrrrborlbrrrbw, ← hw]
      simp only [p8arrrrlrborlbrrrborlbrrrbo]
      have hlea : offa + 1 ≤ ca.length := by omega
      have hleb : offb + 1 ≤ cb.length := by omega
      simp only [Nat.add_zero] at hh2 hh3
      simp [g1, g3, g26, ls, hc, ht, a1, a3, hlea]
      rw [← hh2]
      simp [o1, o3, o26, b1, b3, hleb]
      rw [← hh3]
    · have hc : ¬ ((k : Int) < (fs[i].2.length : Int)) := by omega
      exact ⟨h, by simp [p8arrrrlrborlbrrrborlbrrrbw, p8arrrrlrborlbrrrborlbrrrbo, g1, g3, g26, ls, hc], hx⟩

theorem RowR.extBut {S : Nat → Prop} {h0 h h' : H} {v : Value} {fs : List (NoteF × List (List Value))} (r : RowR h0 v fs) (x0 : Ext h0 h) (x : ExtBut S h h') (hs : ∀ j, S j → h0.next ≤ j) : RowR h' v fs :=
  r.ext ⟨Nat.le_trans x0.next x.next, fun id hid => by
    rw [x.get id (Nat.lt_of_lt_of_le hid x0.next) (fun e => by have := hs id e; omega)]; exact x0.get id hid⟩

/-- One note of the row. -/
theorem L8c {m L : Nat} (hL : 30 ≤ L) {β : Type} {kr : Value → H → Option β} {kx : Value → Value → Value → H → Option β} {h0 h1 h2 : H} {p : Nat} {x0 x9 x10 v : Value} {fs : List (NoteF × List (List Value))} {ns out : List (List Value)} {ops : Int}
    (r : RowR h1 x0 fs) (h60 : fs.length ≤ 60) (h20 : ∀ d ∈ fs, d.2.length ≤ 20) (l : LogR h0 h1 p v ns (dsOf fs) ops) (hx12 : Ext h1 h2) (va : SliceE 35 h2 x10 out) (how : Owns h1 h2 out fs x10) (hs10 : ∀ j, sid x10 = some j → h1.next ≤ j) (hm : 30 ≤ m) :
    ∀ (n i : Nat) (h : H), i ≤ fs.length → fs.length - i < n → Ext h1 h → h2.next ≤ h.next → SliceE 35 h x10 out →
      (∀ (j : Nat) (w : Value) (hj : j < fs.length), i ≤ j → out[j]? = some ({ fs[j].1 with w := w } : NoteF).cells → WS h w fs[j].2) →
    ∃ h', p8arrrrlrborlbrrrbw (callB Try.prog 0 O1 (m + 3)) L kr kx n (.int .i64 i) x10 x9 (.pointer (some ⟨p, 0, none⟩)) x0 h = kx x9 (.pointer (some ⟨p, 0, none⟩)) x0 h' ∧ Ext h1 h' := by
  intro n
  induction n with
  | zero => intro i h _ h1; omega
  | succ n ih =>
    intro i h hi hn hx hnx so hws
    have r' := r.ext hx
    have hlen := r'.len
    by_cases hlt : i < fs.length
    · have hc : ((i : Int) < (fs.length : Int)) := by omega
      have hw := wrap_succ (n := i) (by omega)
      obtain ⟨w1, h3, e15, s1, x3, f1⟩ := S15 m (l.ext hx) hlt
      have hz := cells36
      have hsz := spliceZ ({ fs[i].1 with w := w1 } : NoteF)
      have htk := take35 ({ fs[i].1 with w := w1 } : NoteF)
      obtain ⟨h4, hh4⟩ : ∃ h4, h4 = (h3.push (.cells noteZ.cells (some 0))).put h3.next (.cells ({ fs[i].1 with w := w1 } : NoteF).cells (some 0)) := ⟨_, rfl⟩
      have x4 : Ext h3 h4 := by rw [hh4]; exact (Ext.push _ _).put _ _ (Nat.le_refl _)
      have hn4 : h4.next = h3.next + 1 := by rw [hh4]; rfl
      have g12 : h4.get h3.next = some (.cells ({ fs[i].1 with w := w1 } : NoteF).cells (some 0)) := by rw [hh4]; simp [H.get_put]
      have xh4 : Ext h h4 := x3.trans x4
      have r4 := r'.ext xh4
      obtain ⟨id, off, cells, own, g1, g2, g3, g4, g5, g6⟩ := r4.row.at (i := i) (e := fs[i].1.cells) (by simp [hlt]) .i64
      obtain ⟨ss, sT⟩ := r'.subs fs[i] (List.getElem_mem _)
      have hsub := h20 fs[i] (List.getElem_mem _)
      obtain ⟨b1, h5, e26, x5, i26⟩ := S26 (m + 1) (f := { fs[i].1 with w := w1 }) (g := fs[i].1) (s1.ext x4) (ss.ext xh4) sT sT (by omega) (by omega)
      have b1t : b1 = true := i26.2 ⟨EqN.refl _ _, rfl⟩
      subst b1t
      obtain ⟨hi', w2, o1, o2, _, o4⟩ := how.notes.at hlt
      have ho : out[i]? = some ({ fs[i].1 with w := w2 } : NoteF).cells := by rw [List.getElem?_eq_getElem hi', o1]
      have wo := hws i w2 hlt (Nat.le_refl _) ho
      have xh5 := xh4.trans x5
      obtain ⟨id', off', cells', own', j1, j2, j3, j4, j5, j6⟩ := (so.ext xh5).at (i := i) ho .i64
      have k3 : h5.get id = some (.cells cells own) := by rw [x5.get _ g2]; exact g3
      obtain ⟨b2, h6, e26', x6, i26'⟩ := S26 (m + 1) (f := { fs[i].1 with w := w2 }) (g := fs[i].1) (wo.s.ext xh5) (ss.ext xh5) sT sT (by omega) (by omega)
      have b2t : b2 = true := i26'.2 ⟨EqN.refl _ _, rfl⟩
      subst b2t
      have xh6 := xh5.trans x6
      have x46 : Ext h4 h6 := x5.trans x6
      -- who is where
      have f1' : ∀ j, sid w1 = some j → h.next ≤ j ∧ j < h3.next := fun j hj => ⟨(f1 j hj).1, s1.sid_lt j hj⟩
      have f2' : ∀ j, sid w2 = some j → h1.next ≤ j ∧ j < h.next := fun j hj => by
        have hlt2 := o2.sid_lt j hj
        have hge : ¬ j < h1.next := fun e => o4 j hj (.inl e)
        omega
      have w1s : WS h6 w1 fs[i].2 := by
        refine ⟨s1.ext (x4.trans x46), sT, fun j hj => ?_⟩
        obtain ⟨_, cs, es, hg⟩ := f1 j hj
        exact ⟨cs, es, by rw [(x4.trans x46).get j (f1' j hj).2]; exact hg⟩
      have w2s : WS h6 w2 fs[i].2 := wo.extBut (S := fun _ => False) xh6.but (by simp)
      have hx16 : Ext h1 h6 := hx.trans xh6
      have sfresh : ∀ j, (sid w1 = some j ∨ sid w2 = some j) → h1.next ≤ j := fun j hj => by
        rcases hj with hj | hj
        · have := (f1' j hj).1; have := hx.next; omega
        · exact (f2' j hj).1
      have g126 : h6.get h3.next = some (.cells ({ fs[i].1 with w := w1 } : NoteF).cells (some 0)) := by rw [x46.get _ (by omega)]; exact g12
      obtain ⟨h7, e7, x7⟩ := L8b (C := callB Try.prog 0 O1 (m + 3)) (L := L) (f := { fs[i].1 with w := w1 }) (g := { fs[i].1 with w := w2 }) (x0 := x0) (x5 := .pointer (some ⟨p, 0, none⟩)) (x9 := x9) (x10 := x10) (t12 := h3.next) (h1 := h6) (i := i) hlt ho
        (kx := fun x11 x10 x9 x5 x0 h => p8arrrrlrborlbrrrborr (callB Try.prog 0 O1 (m + 3)) L x11 x10 x9 x5 x0 h (fun x11 x10 x9 x5 x0 h => p8arrrrlrborlbrrrbw (callB Try.prog 0 O1 (m + 3)) L kr kx n x11 x10 x9 x5 x0 h))
        L 0 h6 fs[i].2 fs[i].2 (by omega) (by omega) hsub (r.ext hx16) (so.ext xh6) w1s w2s rfl rfl g126 (by have := x46.next; omega)
        (fun e => by have := (f1' _ e).2; omega) (fun e => by have := (f2' _ e).2; have := x3.next; omega) (fun j hj e => by have := f1' j hj; have := f2' j e; omega)
        (fun j hj => ⟨fun e => by have := f1' j e; have := so.sid_lt j hj; omega, fun e => o4 j e (.inr hj)⟩)
        (fun h' x => r.extBut hx16 x (fun j hj => sfresh j hj)) ⟨Nat.le_refl _, fun _ _ _ => rfl⟩
      have hx17 : Ext h1 h7 := ⟨Nat.le_trans hx16.next x7.next, fun id hid => by
        rw [x7.get id (Nat.lt_of_lt_of_le hid hx16.next) (fun e => by have := sfresh id e; omega)]; exact hx16.get id hid⟩
      have xh7 : ExtBut (fun j => sid w2 = some j) h h7 := ⟨Nat.le_trans xh6.next x7.next, fun id hid hs => by
        rw [x7.get id (Nat.lt_of_lt_of_le hid xh6.next) (fun e => by
          rcases e with e | e
          · have := (f1' id e).1; omega
          · exact hs e)]
        exact xh6.get id hid⟩
      obtain ⟨h8, e8, x8⟩ := ih (i + 1) h7 (by omega) (by omega) hx17 (Nat.le_trans hnx xh7.next) (so.extBut xh7 (fun j hj e => o4 j e (.inr hj))) (fun j w hj hij hout => by
        refine (hws j w hj (by omega) hout).extBut xh7 (fun k hk e => ?_)
        have hp := how.apart
        have hjo : j < out.length := (List.getElem?_eq_some_iff.1 hout).1
        have := (List.pairwise_iff_getElem.1 hp) i j hi' hjo (by omega) k
        have n1 : nsid out[i] = some k := by rw [o1]; exact e
        have n2 : nsid out[j] = some k := by
          rw [List.getElem?_eq_getElem hjo] at hout
          rw [Option.some.inj hout]; exact hk
        exact this n1 n2)
      refine ⟨h8, ?_, x8⟩
      rw [← e8]
      have q1 : ∀ (kn : Value → Value → Value → Value → Value → Value → Value → H → Option β), p8arrrrlrborlbrrrborlbl (callB Try.prog 0 O1 (m + 3)) L (.int .i64 i) x10 x9 (.pointer (some ⟨p, 0, none⟩)) x0 h kn =
          kn (.bool true) (.pointer (some ⟨h3.next, 0, none⟩)) (.int .i64 i) x10 x9 (.pointer (some ⟨p, 0, none⟩)) x0 h4 := by
        intro kn
        simp only [p8arrrrlrborlbrrrborlbl]
        simp [e15, A.extract, hz, H.get_push, hsz]
        rw [← hh4]
      have q2 : ∀ (kn : Value → Value → Value → Value → Value → Value → Value → H → Option β), p8arrrrlrborlbrrrborlbrll (callB Try.prog 0 O1 (m + 3)) L (.bool true) (.pointer (some ⟨h3.next, 0, none⟩)) (.int .i64 i) x10 x9 (.pointer (some ⟨p, 0, none⟩)) x0 h4 kn =
          kn (.bool false) (.pointer (some ⟨h3.next, 0, none⟩)) (.int .i64 i) x10 x9 (.pointer (some ⟨p, 0, none⟩)) x0 h6 := by
        intro kn
        simp only [p8arrrrlrborlbrrrborlbrll]
        simp [g12, htk, g1, g3, g4, g5, e26, j1, j3, j4, j5, k3, e26']
      have c0 : ((0 : Nat) : Int) = 0 := rfl
      rw [c0] at e7
      rw [p8arrrrlrborlbrrrbw, p8arrrrlrborlbrrrbo]
      simp only [p8arrrrlrborlbrrrbol, hlen, bnd_some, bin_lss, toBK_bool, hc, decide_true, cond_true, p8arrrrlrborlbrrrbor, p8arrrrlrborlbrrrborl, p8arrrrlrborlbrrrborlb, q1, p8arrrrlrborlbrrrborlbr, p8arrrrlrborlbrrrborlbrl, q2, p8arrrrlrborlbrrrborlbrlr, condV_bool, cond_false,
        p8arrrrlrborlbrrrborlbrr, p8arrrrlrborlbrrrborlbrrl, p8arrrrlrborlbrrrborlbrrr, p8arrrrlrborlbrrrborlbrrrb]
      refine e7.trans ?_
      simp only [p8arrrrlrborlbrrrborr, bin_add, bnd_some, hw]
    · have hc : ¬ ((i : Int) < (fs.length : Int)) := by omega
      exact ⟨h, by simp [p8arrrrlrborlbrrrbw, p8arrrrlrborlbrrrbo, p8arrrrlrborlbrrrbol, hlen, hc], hx⟩

/-- Two rounds. -/
theorem L8d {m L : Nat} (hL : 70 ≤ L) {β : Type} {kr : Value → H → Option β} {kx : H → Option β} {h0 h1 : H} {p : Nat} {x0 v : Value} {fs : List (NoteF × List (List Value))} {ns : List (List Value)} {ops : Int}
    (r : RowR h1 x0 fs) (h60 : fs.length ≤ 60) (h20 : ∀ d ∈ fs, d.2.length ≤ 20) (l : LogR h0 h1 p v ns (dsOf fs) ops) (hm : 70 ≤ m) :
    ∀ (n t : Nat) (h : H), t ≤ 2 → 2 - t < n → Ext h1 h →
    ∃ h', p8arrrrlrbw (callB Try.prog 0 O1 (m + 3)) L kr kx n (.int .i64 t) (.pointer (some ⟨p, 0, none⟩)) x0 h = kx h' := by
  intro n
  induction n with
  | zero => intro t h _ h1; omega
  | succ n ih =>
    intro t h ht hn hx
    by_cases hlt : t < 2
    · have hc : ((t : Int) < 2) := by omega
      have hw := wrap_succ (n := t) (by omega)
      have lh := l.ext hx
      have rh := r.ext hx
      obtain ⟨x10, h2, out, e18, x2, v2, hs2, how⟩ := S18 m lh h60 (by omega)
      have hol : out.length = fs.length := by have := how.notes.1; simpa using this
      have lo := v2.slice.len.1
      rw [hol] at lo
      have lr := (rh.ext x2).len
      obtain ⟨h3, e3, x3⟩ := L8c (m := m) (L := L) (by omega) (kr := kr) (x9 := .int .i64 t) (kx := fun x9 x5 x0 h => p8arrrrlrborr (callB Try.prog 0 O1 (m + 3)) L x9 x5 x0 h (fun x9 x5 x0 h => p8arrrrlrbw (callB Try.prog 0 O1 (m + 3)) L kr kx n x9 x5 x0 h))
        rh h60 h20 lh x2 v2.slice how hs2 (by omega) L 0 h2 (by omega) (by omega) x2 (Nat.le_refl _) v2.slice (fun j w hj _ hout => by
          obtain ⟨hj', w', o1, o2, _, _⟩ := how.notes.at hj
          have hww : w' = w := by
            rw [List.getElem?_eq_getElem hj', o1] at hout
            have := congrArg (fun l : List Value => l[26]?) (Option.some.inj hout)
            simpa [NoteF.cells] using this
          subst hww
          refine ⟨o2, (r.subs fs[j] (List.getElem_mem _)).2, fun k hk => how.own out[j] (List.getElem_mem _) k ?_⟩
          rw [o1]; exact hk)
      obtain ⟨h4, e4⟩ := ih (t + 1) h3 (by omega) (by omega) (hx.trans x3)
      refine ⟨h4, ?_⟩
      rw [← e4]
      have c0 : ((0 : Nat) : Int) = 0 := rfl
      rw [c0] at e3
      rw [p8arrrrlrbw, p8arrrrlrbo]
      simp only [p8arrrrlrbol, bin_lss, bnd_some, hc, decide_true, toBK_bool, cond_true, p8arrrrlrbor, p8arrrrlrborl, p8arrrrlrborlb, p8arrrrlrborlbl, e18, bnd2_some, p8arrrrlrborlbr, p8arrrrlrborlbrl, lo, lr, bin_neq, Bool.not_true, cond_false,
        p8arrrrlrborlbrr, p8arrrrlrborlbrrl, p8arrrrlrborlbrrr, p8arrrrlrborlbrrrb]
      refine e3.trans ?_
      simp only [p8arrrrlrborr, bin_add, bnd_some, hw]
    · have hc : ¬ ((t : Int) < 2) := by omega
      exact ⟨h, by simp [p8arrrrlrbw, p8arrrrlrbo, p8arrrrlrbol, hc]⟩

theorem S8 {h : H} {x0 : Value} {by' : Int} {fs : List (NoteF × List (List Value))} (r : RowR h x0 fs) (hm : fs.length ≤ maxLen) :
    ∃ n h', callB Try.prog 0 O1 n 8 [x0, .int .u8 by'] h = some (.bool true, h') := by
  refine ⟨fs.length + 200 + 1, ?_⟩
  rw [F8eq O1 rfl]
  obtain ⟨n, hn⟩ : ∃ n, n = fs.length + 200 := ⟨_, rfl⟩
  rw [← hn]
  obtain ⟨b, h1, e9, x1', hb⟩ := S9 (n - 1) r hm (by omega)
  rw [show n - 1 + 1 = n by omega] at e9
  have aw : ∀ h, callB Try.prog 0 O1 n 10 [] h = some (.bool true, h) := fun h => by
    rw [show n = (n - 1) + 1 by omega]; rfl
  simp only [F8, p8a, p8al, p8ar, p8arl, e9, bnd2_some, toBK_bool]
  cases b with
  | true => exact ⟨h1, by simp [aw]⟩
  | false =>
    obtain ⟨h60, h20⟩ := hb rfl
    have r1 := r.ext x1'
    have e25 := S25 (n - 1) h1
    rw [show n - 1 + 1 = n by omega] at e25
    obtain ⟨h2, v2, ns2, e2, l2, x2⟩ := L8 (m := n - 3) (L := n) (by omega) (by' := by') (kx := fun x5 x0 h => p8arrrr (callB Try.prog 0 O1 n) n x5 x0 h fun x4 h => some (x4, h)) r1 (Ext.refl h1) h60 h20 n 0 _ _ _ (by omega) (by omega) (Ext.push h1 _) (LogR.new h1)
    rw [show n - 3 + 3 = n by omega] at e2
    obtain ⟨h3, e3⟩ := L8d (m := n - 3) (L := n) (by omega) (kr := fun x4 h => some (x4, h)) (kx := fun h => p8arrrrr (callB Try.prog 0 O1 n) n h fun x4 h => some (x4, h)) (r1.ext x2) h60 h20 l2 (by omega) n 0 h2 (by omega) (by omega) (Ext.refl _)
    rw [show n - 3 + 3 = n by omega] at e3
    have c0 : ((0 : Nat) : Int) = 0 := rfl
    rw [c0] at e2 e3
    refine ⟨h3, ?_⟩
    simp only [cond_false, p8arr, p8arrl, e25, bnd2_some, p8arrr, p8arrrl, p8arrrll, p8arrrlr, p8arrrlrb]
    refine e2.trans ?_
    simp only [p8arrrr, p8arrrrl, p8arrrrll, p8arrrrlr, p8arrrrlrb]
    refine e3.trans ?_
    simp [p8arrrrr, aw]

theorem recordOwnRun (h : AM.H) (xs : List Value) (_ : Go.AM.Start h) (ty : TyAll Try.prog h [22, 5] xs) : ∃ n h', callB Try.prog 0 O1 n 8 xs h = some (.bool true, h') := by
  match xs, ty with
  | [a, b], ⟨t1, t2, _⟩ =>
    obtain ⟨fs, r, hm⟩ := row_open t1
    cases t2 with
    | agg hu _ => rw [Try.underlying5] at hu; simp at hu
    | one _ ty =>
      obtain ⟨k, e, _⟩ := ty.int_inv Try.underlying5
      simp only [List.cons.injEq, and_true] at e
      subst e
      exact S8 r hm
end Go.Proofs.Ytlhppeikbgolbaa.RecD

namespace Go.Proofs.Ytlhppeikbgolbaa.recordOwn
open Go Go.AM Go.RowKit Go.ChangeShapes Go.WideShapes Go.ChangeAt

theorem own : ownKnob Try.prog.godebug = none := by kernel_rfl
theorem zeros : zerosPlain Try.prog = true := by kernel_rfl
theorem mixed : Try.prog.follows .mixedOrders = true := by kernel_rfl
theorem names : namesOK Try.prog = true := by kernel_rfl
theorem awake : ClosedTrue Try.prog 10 :=
  closedTrue (n := 100) zeros mixed names ⟨Try.f10, RecD.c10a, Try.func10, by kernel_rfl, by decide +kernel⟩ (by kernel_rfl)

set_option maxRecDepth 100000 in
theorem lifted (os : Os) (started : os.Started) (H : Type) (enc : TypeId × Value → H) :
    ReturnsInHanded {} Try.checked os 8 .any (Rows.recordOwnSpec.pre6 enc Try.prog Try.f8 Rows.recordOwnRow.domain false) (Rows.recordOwnSpec.post enc Try.prog Try.f8 false true false false) :=
  law_lifted (C := Try.checked) (ts := [22, 5]) (tb := 4) (O := RecD.O1) (n := 8) own started (by kernel_rfl) Try.func8
    (ChangeSpec.witness6 (enc := enc) (C := Try.checked) false ⟨#[], #[.slice none 0 0, .int .u8 0], []⟩ 8 (by kernel_rfl) (by kernel_rfl) (by kernel_rfl) (by kernel_rfl))
    (by kernel_rfl) (by kernel_rfl) (by kernel_rfl) Try.underlying4 rfl
    (fun ds hd => by match ds, hd with | [d0, d1], _ => exact ⟨rfl, rfl, rfl⟩)
    (by kernel_rfl) (by kernel_rfl) (by kernel_rfl) zeros mixed names (fun f hf => by simp at hf; subst hf; exact awake) RecD.recordOwnRun

theorem over : Rows.recordOwnRow.holds Try.pinned (OpenSpec.ofChange Rows.recordOwnSpec) :=
  OpenClaim.holds_of_wide 8 Try.f8 rfl rfl rfl rfl rfl rfl rfl ⟨rfl, rfl, rfl, rfl, rfl⟩ rfl rfl rfl rfl rfl (by kernel_rfl) Try.func8 (by kernel_rfl)
    (of_decide_eq_true (by kernel_rfl)) (by unfold Func.isWrapper; first | (rw [if_pos (by decide +kernel)]; kernel_rfl) | (rw [if_neg (by decide +kernel)]; exact ⟨rfl, rfl⟩))
    (fun os started H enc _ => lifted os started H enc)

theorem proved : Rows.RecordOwnSaid := over
#print axioms proved
end Go.Proofs.Ytlhppeikbgolbaa.recordOwn
