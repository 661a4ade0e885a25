/-
  A log is filled with a row; its places are told.
-/
import Derived.Test.YtlhppeikbgolbaaRecS2
namespace Go.Proofs.Ytlhppeikbgolbaa.RecD
open Go Go.AM

abbrev dsOf (fs : List (NoteF × List (List Value))) : List (List Value × List (List Value)) := fs.map fun d => (d.1.cells, d.2)

theorem LogR.op {h0 h : H} {p : Nat} {v : Value} {ns : List (List Value)} {ds : List (List Value × List (List Value))} {ops : Int} (l : LogR h0 h p v ns ds ops) (k : Int) :
    LogR h0 (h.put p (.cells [v, .int .i64 k] (some 0))) p v ns ds k := by
  have e : ExtBut (fun i => i = p) h (h.put p (.cells [v, .int .i64 k] (some 0))) := ExtBut.put ⟨Nat.le_refl _, fun _ _ _ => rfl⟩ _ _ rfl
  exact ⟨by simp [H.get_put], l.p0, l.p1, l.vec.extBut e (fun i hi hp => (l.v0 i hi).2 hp), l.v0, l.notes.extBut e (fun i hi => .inl hi) (fun _ _ h => h)⟩

theorem LogR.ext {h0 h h' : H} {p : Nat} {v : Value} {ns : List (List Value)} {ds : List (List Value × List (List Value))} {ops : Int} (l : LogR h0 h p v ns ds ops) (x : Ext h h') : LogR h0 h' p v ns ds ops :=
  ⟨by rw [x.get _ l.p1]; exact l.hp, l.p0, Nat.lt_of_lt_of_le l.p1 x.next, l.vec.ext x, l.v0, l.notes.extBut (S := fun _ => False) x.but (by simp) (fun _ _ h => h)⟩

theorem LogR.new (h : H) : LogR h (h.push (.cells [.slice none 0 0, .int .i64 0] (some 0))) h.next (.slice none 0 0) [] [] 0 :=
  ⟨by simp [H.get_push], Nat.le_refl _, by simp, Vec.nil _ _, by simp [sid], ⟨rfl, fun i x d hx => by simp at hx⟩⟩

/-- One round of filling. -/
theorem step11 {m : Nat} {h0 h1 h : H} {p i : Nat} {x0 v : Value} {fs : List (NoteF × List (List Value))} {ns : List (List Value)} {ops : Int} (r : RowR h0 x0 fs) (hx1 : Ext h0 h1) (hx : Ext h1 h)
    (h60 : fs.length ≤ 60) (h20 : ∀ d ∈ fs, d.2.length ≤ 20) (hi : i < fs.length) (l : LogR h1 h p v ns (dsOf (fs.take i)) ops) :
    ∃ h' v' ns' ops', LogR h1 h' p v' ns' (dsOf (fs.take (i + 1))) ops' ∧ Ext h1 h' ∧ ∀ {L : Nat} {β : Type} (kn : Value → Value → Value → H → Option β) (kx0 : Value → H → Option β),
      p11arrlrbo (callB Try.prog 0 O1 (m + 3)) L (.int .i64 i) x0 (.pointer (some ⟨p, 0, none⟩)) h kn kx0 = kn (.int .i64 ((i + 1 : Nat) : Int)) x0 (.pointer (some ⟨p, 0, none⟩)) h' := by
  have hlen := r.len
  have hc : ((i : Int) < (fs.length : Int)) := by omega
  have hw := wrap_succ (n := i) (by omega)
  have htk : dsOf (fs.take (i + 1)) = dsOf (fs.take i) ++ [(fs[i].1.cells, fs[i].2)] := by
    simp only [dsOf, List.take_add_one, List.getElem?_eq_getElem hi, Option.toList_some, List.map_append, List.map_cons, List.map_nil]
  -- from a heap at which the log stands
  have fin : ∀ (h2 : H) (ops2 : Int), LogR h1 h2 p v ns (dsOf (fs.take i)) ops2 → Ext h1 h2 → ∃ t20 t21 h3 x3 h4 v' x, A.idxS 35 x0 (.int .i64 i) = some t20 ∧ A.load true 35 t20 h2 = some t21 ∧ callB Try.prog 0 O1 (m + 3) 14 [t21] h2 = some (x3, h3) ∧
      callB Try.prog 0 O1 (m + 3) 23 [.pointer (some ⟨p, 0, none⟩), x3] h3 = some (.int .i64 ns.length, h4) ∧ LogR h1 h4 p v' (ns ++ [x]) (dsOf (fs.take (i + 1))) ops2 ∧ Ext h1 h4 := by
    intro h2 ops2 l2 hx2
    have r' := r.ext (hx1.trans hx2)
    obtain ⟨id, off, cells, own, g1, g2, g3, g4, g5, g6⟩ := r'.row.at (i := i) (e := fs[i].1.cells) (by simp [hi]) .i64
    obtain ⟨ss, _⟩ := r'.subs fs[i] (List.getElem_mem _)
    have hsub := h20 fs[i] (List.getElem_mem _)
    obtain ⟨w', h3, e1, s1, x1, i1⟩ := S14 (m + 2) h2 fs[i].1.cells fs[i].1.w fs[i].2 rfl rfl ss hsub
    have l3 := l2.ext x1
    have hcl : (fs[i].1.cells.set 26 w').length = 35 := rfl
    obtain ⟨h4, v', x, e2, l4, x2⟩ := S23 m l3 (hx2.trans x1) (by simp [dsOf]; omega) (cs := fs[i].1.cells.set 26 w') (w := w') (els := fs[i].2) hcl rfl s1 hsub
    refine ⟨_, .agg ⟨fs[i].1.cells⟩, h3, _, h4, v', x, g1, by simp [g3, g4, g5], e1, e2, ?_, x2⟩
    rw [htk]
    refine ⟨l4.hp, l4.p0, l4.p1, l4.vec, l4.v0, ⟨by have := l4.notes.1; simpa using this, fun j y d hy hd => ?_⟩⟩
    by_cases hj : j < (dsOf (fs.take i)).length
    · refine l4.notes.2 j y d hy ?_
      rw [List.getElem?_append_left hj] at hd ⊢; exact hd
    · rw [List.getElem?_append_right (by omega)] at hd
      have hj0 : j - (dsOf (fs.take i)).length = 0 := by
        have := (List.getElem?_eq_some_iff.1 hd).1; simp at this ⊢; omega
      rw [hj0] at hd
      simp only [List.getElem?_cons_zero, Option.some.injEq] at hd
      subst hd
      obtain ⟨w2, y1, y2, y3, y4, y5⟩ := l4.notes.2 j y (fs[i].1.cells.set 26 w', fs[i].2) hy (by rw [List.getElem?_append_right (by omega), hj0]; rfl)
      refine ⟨w2, ?_, rfl, y3, y4, y5⟩
      rw [y1]; simp
  by_cases hev : (i : Int).tmod 2 = 0
  · have s24 := S24 (m + 2) h p v ops l.hp
    obtain ⟨t20, t21, h3, x3, h4, v', x, e1, e2, e3, e4, l4, x4⟩ := fin _ _ (l.op (IntKind.i64.wrap (ops + 1))) (hx.put _ _ l.p0)
    refine ⟨h4, v', _, _, l4, x4, fun kn kx0 => ?_⟩
    rw [← hw]
    simp only [p11arrlrbo]
    rw [bin_rem _ _ _ _ _ (by omega)]
    simp [hlen, hc, hev, s24, e1, e2, e3, e4]
  · obtain ⟨t20, t21, h3, x3, h4, v', x, e1, e2, e3, e4, l4, x4⟩ := fin _ _ l hx
    refine ⟨h4, v', _, _, l4, x4, fun kn kx0 => ?_⟩
    rw [← hw]
    simp only [p11arrlrbo]
    rw [bin_rem _ _ _ _ _ (by omega)]
    simp [hlen, hc, hev, e1, e2, e3, e4]

theorem L11 {m L : Nat} {β : Type} {kx0 : Value → H → Option β} {h0 h1 : H} {p : Nat} {x0 : Value} {fs : List (NoteF × List (List Value))} (r : RowR h0 x0 fs) (hx1 : Ext h0 h1)
    (h60 : fs.length ≤ 60) (h20 : ∀ d ∈ fs, d.2.length ≤ 20) :
    ∀ (n i : Nat) (h : H) (v : Value) (ns : List (List Value)) (ops : Int), i ≤ fs.length → fs.length - i < n → Ext h1 h → LogR h1 h p v ns (dsOf (fs.take i)) ops →
    ∃ h' v' ns' ops', p11arrlrbw (callB Try.prog 0 O1 (m + 3)) L kx0 n (.int .i64 i) x0 (.pointer (some ⟨p, 0, none⟩)) h = kx0 (.pointer (some ⟨p, 0, none⟩)) h' ∧ LogR h1 h' p v' ns' (dsOf fs) ops' ∧ Ext h1 h' := by
  intro n
  induction n with
  | zero => intro i h v ns ops _ h1; omega
  | succ n ih =>
    intro i h v ns ops hi hn hx l
    by_cases hlt : i < fs.length
    · obtain ⟨h', v', ns', ops', l', x', e⟩ := step11 (m := m) r hx1 hx h60 h20 hlt l
      obtain ⟨h2, v2, ns2, ops2, e2, l2, x2⟩ := ih (i + 1) h' v' ns' ops' (by omega) (by omega) x' l'
      exact ⟨h2, v2, ns2, ops2, by rw [p11arrlrbw, e]; exact e2, l2, x2⟩
    · have hc : ¬ ((i : Int) < (fs.length : Int)) := by omega
      refine ⟨h, v, ns, ops, ?_, ?_, hx⟩
      · simp [p11arrlrbw, p11arrlrbo, r.len, hc]
      · rw [List.take_of_length_le (by omega)] at l; exact l

/-- A log that is filled with a row. -/
theorem S11 (m : Nat) {h : H} {x0 : Value} {fs : List (NoteF × List (List Value))} (r : RowR h x0 fs) (h60 : fs.length ≤ 60) (h20 : ∀ d ∈ fs, d.2.length ≤ 20) (hm : 60 < m) :
    ∃ p h' v ns ops, callB Try.prog 0 O1 (m + 4) 11 [x0] h = some (.pointer (some ⟨p, 0, none⟩), h') ∧ LogR h h' p v ns (dsOf fs) ops ∧ Ext h h' := by
  rw [F11eq O1 rfl]
  have e25 := S25 (m + 2) h
  obtain ⟨h', v, ns, ops, e, l, x⟩ := L11 (m := m) (L := m + 3) (kx0 := fun x3 h => some (x3, h)) r (Ext.refl h) h60 h20 (m + 3) 0 _ _ _ _ (by omega) (by omega) (Ext.push h _) (LogR.new h)
  refine ⟨h.next, h', v, ns, ops, ?_, l, x⟩
  simp only [F11, p11a, p11al, p11ar, p11arl, p11arr, p11arrl, p11arrll, p11arrlr, p11arrlrb, p11arrr, e25, bnd_some, bnd2_some]
  exact e

/-- The places of an op's notes. -/
theorem S12 (m : Nat) {h0 h : H} {p : Nat} {v : Value} {ns : List (List Value)} {ds : List (List Value × List (List Value))} {ops op : Int} {kv : Value} {ks : List Int} (l : LogR h0 h p v ns ds ops)
    (hd : ds.length ≤ 60) (ht : ∀ d ∈ ds, Head d.1) (s : SliceE 1 h kv (bytesE ks)) (hk : ks.length < 2 ^ 62) (hm : ks.length < m) (h60 : 60 < m) :
    ∃ x h', callB Try.prog 0 O1 (m + 4) 12 [.pointer (some ⟨p, 0, none⟩), .int .i64 op, kv] h = some (x, h') ∧ Ext h h' ∧ Vec 1 h' x (intsE (placesTo op ks ds ds.length)) := by
  rw [F12eq O1 rfl]
  have hnd : ns.length = ds.length := l.notes.1
  obtain ⟨h1, hh1⟩ : ∃ h1, h1 = (h.push (.cells [.int .i64 op] (some 0))).push (.cells [kv] (some 0)) := ⟨_, rfl⟩
  have hx1 : Ext h h1 := by rw [hh1]; exact (Ext.push _ _).pushed _
  have l1 := l.ext hx1
  have e19 := S19 (m + 2) l1
  have hn1 : h1.next = h.next + 2 := by rw [hh1]; rfl
  obtain ⟨x, h', e, hx, hv⟩ := L12 (m := m) (kx0 := fun x8 h => some (x8, h)) l1 hd ht (a := h.next) (b := h.next + 1) (op := op) (kv := kv) (ks := ks) (by rw [hh1]; simp [H.get_push]) (by omega)
    (by rw [hh1]; simp [H.get_push]) (by omega) (s.ext hx1) hk hm (m + 3) (m + 3) 0 (.slice none 0 0) h1 (by omega) (by omega) (Ext.refl _) (Vec.nil _ _) (by simp [sid])
  refine ⟨x, h', ?_, hx1.trans hx, by rw [← hnd]; exact hv⟩
  have hcv := s.cells
  simp only [F12, p12a, p12al, p12ar, p12arl, p12arr, p12arrl, p12arrr, p12arrrl, p12arrrll, p12arrrlr, p12arrrlrb, p12arrrr]
  simp [hcv]
  rw [← hh1, e19]
  exact e
end Go.Proofs.Ytlhppeikbgolbaa.RecD
