/-
  The document's log: a note more, the places of an op's notes; rows held against each other.
-/
import Derived.Test.YtlhppeikbgolbaaRecS7
import Derived.Test.YtlhppeikbgolbaaRecS6
namespace Go.Proofs.Ytlhppeikbgolbaa.RecD
open Go Go.AM

/-- A note more, in the document's log: the note itself. -/
theorem S13 (n : Nat) {h0 h : H} {p : Nat} {v : Value} {ns : List (List Value)} {ds : List (List Value × List (List Value))} {ops : Int} (l : LogR h0 h p v ns ds ops) (hx0 : Ext h0 h) (hd : ds.length ≤ 60)
    {cs : List Value} {w : Value} {els : List (List Value)} (hc : cs.length = 35) (hw : cs[26]? = some w) (s : SliceE 2 h w els) (hl : els.length ≤ 20) (hs : ∀ i, sid w = some i → i ≠ p ∧ sid v ≠ some i) :
    ∃ h' v', callB Try.prog 0 O1 (n + 1) 13 [.pointer (some ⟨p, 0, none⟩), .agg ⟨cs⟩] h = some (.tuple ⟨[]⟩, h') ∧ LogR h0 h' p v' (ns ++ [cs]) (ds ++ [(cs, els)]) ops ∧ Ext h0 h' := by
  rw [F13eq O1 rfl]
  have hnd : ns.length = ds.length := l.notes.1
  have x1 : Ext h (h.push (.cells cs (some 0))) := Ext.push h _
  have hb := buildSlice_one (n := 35) (zs := Z36L) (v := .agg ⟨cs⟩) (h.push (.cells cs (some 0))) rfl rfl hc
  have hvc := l.vec.slice.cells
  have x2 : Ext h ((h.push (.cells cs (some 0))).push (.cells cs (some 35))) := x1.pushed _
  obtain ⟨h4, ha, vec4, hn4, hx4⟩ := append_vec (bs := 304) (l.vec.ext x2) (slice_one (n := 35) (h := h.push (.cells cs (some 0))) hc) (by simp) (by omega) (by simp; omega) (by simp; omega)
  have hpv : ¬ sid v = some p := fun e => (l.v0 p e).2 rfl
  have gp4 : h4.get p = some (.cells [v, .int .i64 ops] (some 0)) := by
    rw [hx4.get p (Nat.lt_of_lt_of_le l.p1 x2.next) hpv, x2.get p l.p1]; exact l.hp
  simp only [List.length_cons, List.length_nil, Nat.zero_add, next_push'] at ha vec4 hn4
  have htk : List.take 35 cs = cs := List.take_of_length_le (by omega)
  have hpn : p ≠ h.next := by have := l.p1; omega
  have hp1 := l.p1
  refine ⟨h4.put p (.cells [.slice (some ⟨h.next + 1 + 1, 0, none⟩) (ns.length + 1) (2 * (ns.length + 1)), .int .i64 ops] (some 0)), .slice (some ⟨h.next + 1 + 1, 0, none⟩) (ns.length + 1) (2 * (ns.length + 1)), ?_, ?_, ?_⟩
  · simp only [F13, p13a]
    simp [hc, H.get_push, hpn, l.hp, htk, hb, ha, gp4, splice]
  · have hput : ExtBut (fun i => i = p) h4 (h4.put p (.cells [.slice (some ⟨h.next + 1 + 1, 0, none⟩) (ns.length + 1) (2 * (ns.length + 1)), .int .i64 ops] (some 0))) := ExtBut.put ⟨Nat.le_refl _, fun _ _ _ => rfl⟩ _ _ rfl
    refine ⟨by simp [H.get_put], l.p0, by simp; omega, vec4.extBut hput (fun i hi e => ?_), fun i hi => ?_, ?_⟩
    · simp [sid] at hi; omega
    · simp [sid] at hi; have := hx0.next; omega
    · have hxall : ExtBut (fun i => i = p ∨ sid v = some i) h (h4.put p (.cells [.slice (some ⟨h.next + 1 + 1, 0, none⟩) (ns.length + 1) (2 * (ns.length + 1)), .int .i64 ops] (some 0))) :=
        (x2.but.trans (b := (h.push (.cells cs (some 0))).push (.cells cs (some 35))) ⟨hx4.next, fun id h1 h2 => hx4.get id h1 (fun e => h2 (.inr e))⟩).put _ _ (.inl rfl)
      have old := l.notes.extBut (bad' := fun i => i = p ∨ sid (.slice (some ⟨h.next + 1 + 1, 0, none⟩) (ns.length + 1) (2 * (ns.length + 1))) = some i) hxall (fun _ h => h) (fun i hi hb => by
        rcases hb with hb | hb
        · exact .inl hb
        · simp [sid] at hb; omega)
      refine ⟨by simp [hnd], fun i x d hx hd' => ?_⟩
      by_cases hi : i < ns.length
      · rw [List.getElem?_append_left hi] at hx
        rw [List.getElem?_append_left (by omega)] at hd'
        exact old.2 i x d hx hd'
      · rw [List.getElem?_append_right (by omega)] at hx
        rw [List.getElem?_append_right (by omega)] at hd'
        have hi0 : i - ns.length = 0 := by
          have := (List.getElem?_eq_some_iff.1 hx).1; simp at this; omega
        have hi1 : i - ds.length = 0 := by omega
        rw [hi0] at hx; rw [hi1] at hd'
        simp only [List.getElem?_cons_zero, Option.some.injEq] at hx hd'
        subst hx; subst hd'
        refine ⟨w, ?_, hc, s.extBut hxall (fun i hi hb => ?_), hl, fun i hi hb => ?_⟩
        · have hlt : 26 < cs.length := by omega
          apply List.ext_getElem?
          intro j
          rw [List.getElem?_set]
          split
          · rename_i e; subst e
            have hw' : cs[26] = w := by rw [List.getElem?_eq_getElem hlt] at hw; exact Option.some.inj hw
            simp [hlt, hw']
          · rfl
        · rcases hb with hb | hb
          · exact (hs i hi).1 hb
          · exact (hs i hi).2 hb
        · have h3 := s.sid_lt i hi
          rcases hb with hb | hb
          · exact (hs i hi).1 hb
          · simp [sid] at hb; omega
  · have e1 : Ext h0 ((h.push (.cells cs (some 0))).push (.cells cs (some 35))) := hx0.trans x2
    refine Ext.put ⟨Nat.le_trans e1.next hx4.next, fun id hid => ?_⟩ _ _ l.p0
    rw [hx4.get id (Nat.lt_of_lt_of_le hid e1.next) (fun e => by have := (l.v0 id e).1; omega)]
    exact e1.get id hid

/-- Two rows of numbers. -/
theorem L20 {C : CF} {L : Nat} {β : Type} {kr : Value → H → Option β} {kx : H → Option β} {h : H} {x y : Value} {l : List Int} (s1 : SliceE 1 h x (intsE l)) (s2 : SliceE 1 h y (intsE l)) (hb : l.length < 2 ^ 62) :
    ∀ (n i : Nat), i ≤ l.length → l.length - i < n → p20arrlrbw C L kr kx n (.int .i64 i) y x h = kx h := by
  have hint : (intsE l).length = l.length := by simp [intsE]
  have l1 := s1.len.1
  rw [hint] at l1
  intro n
  induction n with
  | zero => intro i _ h1; omega
  | succ n ih =>
    intro i hi hn
    by_cases hlt : i < l.length
    · have hc : ((i : Int) < (l.length : Int)) := by omega
      have hw := wrap_succ (n := i) (by omega)
      have he : (intsE l)[i]? = some [.int .i64 l[i]] := by simp [intsE, hlt]
      obtain ⟨id, off, cells, own, g1, g2, g3, g4, g5, g6⟩ := s1.at he .i64
      obtain ⟨id', off', cells', own', j1, j2, j3, j4, j5, j6⟩ := s2.at he .i64
      have g6' := g6 0 (by omega)
      have j6' := j6 0 (by omega)
      simp only [Nat.add_zero, List.getElem?_cons_zero] at g6' j6'
      rw [p20arrlrbw, ← ih (i + 1) (by omega) (by omega), ← hw]
      simp only [p20arrlrbo]
      simp [l1, hc, g1, g3, g6', j1, j3, j6']
    · have hc : ¬ ((i : Int) < (l.length : Int)) := by omega
      simp [p20arrlrbw, p20arrlrbo, l1, hc]

theorem S20 (n : Nat) {h : H} {x y : Value} {l : List Int} (s1 : SliceE 1 h x (intsE l)) (s2 : SliceE 1 h y (intsE l)) (hb : l.length < 2 ^ 62) (hn : l.length < n) :
    callB Try.prog 0 O1 (n + 1) 20 [x, y] h = some (.bool true, h) := by
  rw [F20eq O1 rfl]
  have hint : (intsE l).length = l.length := by simp [intsE]
  have l1 := s1.len.1
  have l2 := s2.len.1
  rw [hint] at l1 l2
  have e := L20 (C := callB Try.prog 0 O1 n) (L := n) (kr := fun x4 h => some (x4, h)) (kx := fun h => p20arrr (callB Try.prog 0 O1 n) n h fun x4 h => some (x4, h)) s1 s2 hb n 0 (by omega) (by omega)
  simp only [F20, p20a, p20al, p20ar, p20arl, l1, l2, bnd_some, bin_neq, decide_true, Bool.not_true, toBK_bool, cond_false, p20arr, p20arrl, p20arrll, p20arrlr, p20arrlrb]
  exact e

/-- Two rows of notes that are the same. -/
theorem L17 {m L : Nat} (hm : 30 ≤ m) {β : Type} {kr : Value → H → Option β} {kx : H → Option β} {h0 : H} {x y : Value} {a b : List (List Value)} {fs : List (NoteF × List (List Value))} (sx : SliceE 35 h0 x a) (sy : SliceE 35 h0 y b)
    (na : Notes h0 a (dsOf fs) (fun _ => False)) (nb : Notes h0 b (dsOf fs) (fun _ => False)) (hT : ∀ d ∈ fs, SubsT d.2) (h60 : fs.length ≤ 60) :
    ∀ (n i : Nat) (h : H), i ≤ fs.length → fs.length - i < n → Ext h0 h → ∃ h', p17arrlrbw (callB Try.prog 0 O1 (m + 2)) L kr kx n (.int .i64 i) y x h = kx h' ∧ Ext h0 h' := by
  have hal : a.length = fs.length := by have := na.1; simpa using this
  intro n
  induction n with
  | zero => intro i h _ h1; omega
  | succ n ih =>
    intro i h hi hn hx
    have l1 := (sx.ext hx).len.1
    rw [hal] at l1
    by_cases hlt : i < fs.length
    · have hc : ((i : Int) < (fs.length : Int)) := by omega
      have hw := wrap_succ (n := i) (by omega)
      obtain ⟨hi1, w1, e1, s1, c1, _⟩ := na.at hlt
      obtain ⟨hi2, w2, e2, s2, c2, _⟩ := nb.at hlt
      obtain ⟨id, off, cells, own, g1, g2, g3, g4, g5, g6⟩ := (sx.ext hx).at (i := i) (e := a[i]) (List.getElem?_eq_getElem hi1) .i64
      obtain ⟨id', off', cells', own', j1, j2, j3, j4, j5, j6⟩ := (sy.ext hx).at (i := i) (e := b[i]) (List.getElem?_eq_getElem hi2) .i64
      rw [e1] at g5
      rw [e2] at j5
      have T := hT fs[i] (List.getElem_mem _)
      obtain ⟨bb, h2, e16, x2, hb⟩ := S16 m (f := { fs[i].1 with w := w1 }) (g := { fs[i].1 with w := w2 }) (s1.ext hx) (s2.ext hx) T T (by omega) (by omega)
      have hbt : bb = true := hb.2 ⟨by simp [EqN, EqP], rfl⟩
      subst hbt
      obtain ⟨h3, e3, x3⟩ := ih (i + 1) h2 (by omega) (by omega) (hx.trans x2)
      refine ⟨h3, ?_, x3⟩
      rw [← e3, p17arrlrbw, ← hw]
      simp only [p17arrlrbo]
      simp [l1, hc, g1, g3, g4, g5, j1, j3, j4, j5, e16]
    · have hc : ¬ ((i : Int) < (fs.length : Int)) := by omega
      exact ⟨h, by simp [p17arrlrbw, p17arrlrbo, l1, hc], hx⟩

theorem S17 (m : Nat) (hm : 70 ≤ m) {h : H} {x y : Value} {a b : List (List Value)} {fs : List (NoteF × List (List Value))} (sx : SliceE 35 h x a) (sy : SliceE 35 h y b)
    (na : Notes h a (dsOf fs) (fun _ => False)) (nb : Notes h b (dsOf fs) (fun _ => False)) (hT : ∀ d ∈ fs, SubsT d.2) (h60 : fs.length ≤ 60) :
    ∃ h', callB Try.prog 0 O1 (m + 3) 17 [x, y] h = some (.bool true, h') ∧ Ext h h' := by
  rw [F17eq O1 rfl]
  have hal : a.length = fs.length := by have := na.1; simpa using this
  have hbl : b.length = fs.length := by have := nb.1; simpa using this
  have l1 := sx.len.1
  have l2 := sy.len.1
  rw [hal] at l1
  rw [hbl] at l2
  obtain ⟨h', e, x'⟩ := L17 (m := m) (L := m + 2) (by omega) (kr := fun x4 h => some (x4, h)) (kx := fun h => p17arrr (callB Try.prog 0 O1 (m + 2)) (m + 2) h fun x4 h => some (x4, h)) sx sy na nb hT h60 (m + 2) 0 h (by omega) (by omega) (Ext.refl _)
  refine ⟨h', ?_, x'⟩
  simp only [F17, p17a, p17al, p17ar, p17arl, l1, l2, bnd_some, bin_neq, decide_true, Bool.not_true, toBK_bool, cond_false, p17arr, p17arrl, p17arrll, p17arrlr, p17arrlrb]
  exact e

/-- Is a kind among them? -/
theorem L21k {C : CF} {L : Nat} {β : Type} {kx : Value → Value → Value → Value → Value → Value → H → Option β} {h0 h : H} {p i : Nat} {v x1 x2 x7 : Value} {ns : List (List Value)} {ds : List (List Value × List (List Value))} {ops kd : Int} {ks : List Int}
    (l : LogR h0 h p v ns ds ops) (hi : i < ns.length) (hk : ns[i][0]? = some (.int .u8 kd)) (s : SliceE 1 h x2 (bytesE ks)) (hb : ks.length < 2 ^ 62) :
    ∀ (n k : Nat) (b : Bool), k ≤ ks.length → ks.length - k < n →
    p21arrlrborlbrlrbw C L kx n (.int .i64 k) (.bool b) (.int .i64 i) x1 (.pointer (some ⟨p, 0, none⟩)) x2 x7 h = kx (.bool (b || decide (kd ∈ ks.drop k))) (.int .i64 i) x1 (.pointer (some ⟨p, 0, none⟩)) x2 x7 h := by
  have hint : (bytesE ks).length = ks.length := by simp [bytesE]
  have l1 := s.len.1
  rw [hint] at l1
  have hp := l.hp
  obtain ⟨id, off, cells, own, g1, g2, g3, g4, g5, g6⟩ := l.vec.slice.at (i := i) (e := ns[i]) (List.getElem?_eq_getElem hi) .i64
  have g6' := g6 0 (by omega)
  rw [hk] at g6'
  simp only [Nat.add_zero] at g6'
  intro n
  induction n with
  | zero => intro k b _ h1; omega
  | succ n ih =>
    intro k b hk' hn
    by_cases hlt : k < ks.length
    · have hc : ((k : Int) < (ks.length : Int)) := by omega
      have hw := wrap_succ (n := k) (by omega)
      obtain ⟨id', off', cells', own', j1, j2, j3, j4, j5, j6⟩ := s.at (i := k) (e := [.int .u8 ks[k]]) (by simp [bytesE, hlt]) .i64
      have j6' := j6 0 (by omega)
      simp only [Nat.add_zero, List.getElem?_cons_zero] at j6'
      have hd : ks.drop k = ks[k] :: ks.drop (k + 1) := List.drop_eq_getElem_cons hlt
      have hb2 : (b || decide (kd ∈ ks.drop k)) = ((b || decide (ks[k] = kd)) || decide (kd ∈ ks.drop (k + 1))) := by
        rw [hd]
        cases b with
        | true => rfl
        | false =>
          simp only [Bool.false_or, List.mem_cons]
          by_cases h1 : kd = ks[k]
          · simp [h1]
          · have h2 : ¬ ks[k] = kd := fun e => h1 e.symm
            simp [h1, h2]
      rw [hb2, ← ih (k + 1) (b || decide (ks[k] = kd)) (by omega) (by omega), p21arrlrborlbrlrbw, ← hw]
      simp only [p21arrlrborlbrlrbo]
      cases b with
      | true => simp [l1, hc]
      | false => simp [l1, hc, j1, j3, j6', hp, g1, g3, g6']
    · have hc : ¬ ((k : Int) < (ks.length : Int)) := by omega
      rw [List.drop_eq_nil_of_le (by omega)]
      simp [p21arrlrborlbrlrbw, p21arrlrborlbrlrbo, l1, hc]

theorem L21 {C : CF} {L : Nat} {β : Type} {kx0 : Value → H → Option β} {h0 h1 : H} {p : Nat} {v : Value} {ns : List (List Value)} {ds : List (List Value × List (List Value))} {ops op : Int} {x2 : Value} {ks : List Int}
    (l : LogR h0 h1 p v ns ds ops) (hd : ds.length ≤ 60) (ht : ∀ d ∈ ds, Head d.1) (s : SliceE 1 h1 x2 (bytesE ks)) (hk : ks.length < 2 ^ 62) (hL : ks.length < L) :
    ∀ (n i : Nat) (x7 : Value) (h : H), i ≤ ns.length → ns.length - i < n → Ext h1 h → Vec 1 h x7 (intsE (placesTo op ks ds i)) → (∀ j, sid x7 = some j → h1.next ≤ j) →
    ∃ x7' h', p21arrlrbw C L kx0 n (.int .i64 i) (.int .i64 op) (.pointer (some ⟨p, 0, none⟩)) x2 x7 h = kx0 x7' h' ∧ Ext h1 h' ∧ Vec 1 h' x7' (intsE (placesTo op ks ds ns.length)) := by
  have hint : (bytesE ks).length = ks.length := by simp [bytesE]
  have hintI : ∀ l : List Int, (intsE l).length = l.length := fun l => by simp [intsE]
  have hnd : ns.length = ds.length := l.notes.1
  intro n
  induction n with
  | zero => intro i x7 h _ h1; omega
  | succ n ih =>
    intro i x7 h hi hn hx hv hs
    have l' := l.ext hx
    have hp := l'.hp
    have lv := l'.vec.slice.len.1
    have lk := (s.ext hx).len.1
    rw [hint] at lk
    by_cases hlt : i < ns.length
    · have hltd : i < ds.length := by omega
      obtain ⟨w, hxw, hc35, _, _, _⟩ := l'.notes.2 i ns[i] ds[i] (List.getElem?_eq_getElem hlt) (List.getElem?_eq_getElem hltd)
      obtain ⟨t0, t1⟩ := ht ds[i] (List.getElem_mem _)
      have e0 : ns[i][0]? = some (.int .u8 (kdC ds[i].1)) := by rw [hxw, List.getElem?_set_ne (by omega)]; exact t0
      have e1 : ns[i][1]? = some (.int .i64 (opC ds[i].1)) := by rw [hxw, List.getElem?_set_ne (by omega)]; exact t1
      obtain ⟨id, off, cells, own, g1, g2, g3, g4, g5, g6⟩ := l'.vec.slice.at (i := i) (e := ns[i]) (List.getElem?_eq_getElem hlt) .i64
      have g61 := g6 1 (by omega)
      rw [e1] at g61
      have hc : ((i : Int) < (ns.length : Int)) := by omega
      have hw := wrap_succ (n := i) (by omega)
      have hpl := placesTo_succ op ks ds i ds[i] (List.getElem?_eq_getElem hltd)
      have hplen : (placesTo op ks ds i).length ≤ i := by
        unfold placesTo; rw [List.length_map]; exact Nat.le_trans (List.length_filter_le _ _) (by simp)
      -- what is told of this note
      have told : ∀ (kn : Value → Value → Value → Value → Value → H → Option β), p21arrlrborlb C L (.int .i64 i) (.int .i64 op) (.pointer (some ⟨p, 0, none⟩)) x2 x7 h kn =
          p21arrlrborlbrr C L (.bool (decide (ks = []) || decide (kdC ds[i].1 ∈ ks))) (.int .i64 i) (.int .i64 op) (.pointer (some ⟨p, 0, none⟩)) x2 x7 h kn := by
        intro kn
        have hz : decide (((ks.length : Nat) : Int) = 0) = decide (ks = []) := by
          by_cases hk0 : ks = []
          · simp [hk0]
          · have : ks.length ≠ 0 := fun e => hk0 (List.length_eq_zero_iff.1 e)
            simp [hk0]
        have := L21k (C := C) (L := L) (x1 := .int .i64 op) (x7 := x7) (kx := fun x9 x8 x1 x0 x2 x7 h => p21arrlrborlbrr C L x9 x8 x1 x0 x2 x7 h kn) l' hlt e0 (s.ext hx) hk L 0 (decide (ks = [])) (by omega) (by omega)
        simp only [p21arrlrborlb, p21arrlrborlbl, lk, bnd_some, bin_eql, hz, toBK_bool, p21arrlrborlbr, p21arrlrborlbrl, p21arrlrborlbrll, p21arrlrborlbrlr, p21arrlrborlbrlrb]
        rw [List.drop_zero] at this
        exact this
      have hdef : isOf op ks ds[i].1 = (decide (opC ds[i].1 = op) && (decide (ks = []) || decide (kdC ds[i].1 ∈ ks))) := rfl
      by_cases hb : isOf op ks ds[i].1 = true
      · rw [if_pos hb] at hpl
        rw [hdef, Bool.and_eq_true, decide_eq_true_eq] at hb
        have hbs := buildSlice_one (n := 1) (zs := Z3L) (v := .int .i64 (i : Int)) (vs := [.int .i64 (i : Int)]) h rfl rfl rfl
        obtain ⟨h4, a1, a2, a3, a4⟩ := append_vec (bs := 8) (hv.ext (Ext.push h (.cells [.int .i64 (i : Int)] (some 1)))) (slice_one (n := 1) (h := h) rfl) (by simp) (by omega) (by simp [hintI]; omega) (by simp [hintI]; omega)
        simp only [List.length_cons, List.length_nil, Nat.zero_add, next_push'] at a1 a2 a3
        have step : p21arrlrbw C L kx0 (n + 1) (.int .i64 i) (.int .i64 op) (.pointer (some ⟨p, 0, none⟩)) x2 x7 h =
            p21arrlrbw C L kx0 n (.int .i64 ((i + 1 : Nat) : Int)) (.int .i64 op) (.pointer (some ⟨p, 0, none⟩)) x2 (.slice (some ⟨h.next + 1, 0, none⟩) ((intsE (placesTo op ks ds i)).length + 1) (2 * ((intsE (placesTo op ks ds i)).length + 1))) h4 := by
          rw [p21arrlrbw, p21arrlrbo, ← hw]
          simp only [p21arrlrbol, nilCheck_eq, bnd_some, fieldAddr_eq, load1_eq, Nat.zero_add, hp, List.getElem?_cons_zero, lv, bin_lss, hc, decide_true, toBK_bool, cond_true, p21arrlrbor, p21arrlrborl, told, p21arrlrborlbrr, hb.2, g1, g3, g61, hb.1, bin_eql, hbs, bnd2_some, a1, p21arrlrborr, bin_add, Nat.add_zero]
        rw [step]
        refine ih (i + 1) _ h4 (by omega) (by omega) ((hx.pushed _).grow a4 hs) ?_ ?_
        · rw [hpl]
          have : intsE (placesTo op ks ds i ++ [(i : Int)]) = intsE (placesTo op ks ds i) ++ [[Value.int .i64 (i : Int)]] := by simp [intsE]
          rw [this]; exact a2
        · intro j hj
          simp only [sid, Option.some.injEq] at hj
          have := hx.next
          omega
      · rw [if_neg hb] at hpl
        have step : p21arrlrbw C L kx0 (n + 1) (.int .i64 i) (.int .i64 op) (.pointer (some ⟨p, 0, none⟩)) x2 x7 h =
            p21arrlrbw C L kx0 n (.int .i64 ((i + 1 : Nat) : Int)) (.int .i64 op) (.pointer (some ⟨p, 0, none⟩)) x2 x7 h := by
          rw [p21arrlrbw, p21arrlrbo, ← hw]
          simp only [p21arrlrbol, nilCheck_eq, bnd_some, fieldAddr_eq, load1_eq, Nat.zero_add, hp, List.getElem?_cons_zero, lv, bin_lss, hc, decide_true, toBK_bool, cond_true, p21arrlrbor, p21arrlrborl, told, p21arrlrborlbrr]
          cases hk2 : (decide (ks = []) || decide (kdC ds[i].1 ∈ ks)) with
          | false => simp only [cond_false, p21arrlrborr, bin_add, bnd_some]
          | true =>
            have hop : ¬ opC ds[i].1 = op := fun e => hb (by rw [hdef, hk2, e]; simp)
            simp only [cond_true, g1, g3, bnd_some, fieldAddr_eq, load1_eq, g61, bin_eql, hop, decide_false, toBK_bool, cond_false, p21arrlrborr, bin_add]
        rw [step]
        exact ih (i + 1) x7 h (by omega) (by omega) hx (by rw [hpl]; exact hv) hs
    · have hi' : i = ns.length := by omega
      have hc : ¬ ((i : Int) < (ns.length : Int)) := by omega
      exact ⟨x7, h, by simp [p21arrlrbw, p21arrlrbo, p21arrlrbol, hp, lv, hc], hx, by rw [← hi']; exact hv⟩

theorem S21 (n : Nat) {h0 h : H} {p : Nat} {v : Value} {ns : List (List Value)} {ds : List (List Value × List (List Value))} {ops op : Int} {x2 : Value} {ks : List Int} (l : LogR h0 h p v ns ds ops)
    (hd : ds.length ≤ 60) (ht : ∀ d ∈ ds, Head d.1) (s : SliceE 1 h x2 (bytesE ks)) (hk : ks.length < 2 ^ 62) (hn : ks.length < n) (h60 : 60 < n) :
    ∃ x h', callB Try.prog 0 O1 (n + 1) 21 [.pointer (some ⟨p, 0, none⟩), .int .i64 op, x2] h = some (x, h') ∧ Ext h h' ∧ Vec 1 h' x (intsE (placesTo op ks ds ds.length)) := by
  rw [F21eq O1 rfl]
  have hnd : ns.length = ds.length := l.notes.1
  obtain ⟨x, h', e, hx, hv⟩ := L21 (C := callB Try.prog 0 O1 n) (L := n) (kx0 := fun x7 h => some (x7, h)) (op := op) l hd ht s hk hn n 0 (.slice none 0 0) h (by omega) (by omega) (Ext.refl _) (Vec.nil _ _) (by simp [sid])
  refine ⟨x, h', ?_, hx, by rw [← hnd]; exact hv⟩
  simp only [F21, p21a, p21al, p21ar, p21arl, p21arr, p21arrl, p21arrll, p21arrlr, p21arrlrb, p21arrr]
  exact e
end Go.Proofs.Ytlhppeikbgolbaa.RecD
