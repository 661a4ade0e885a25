/-
  The functions of a log, one by one, over the abstract machine.
-/
import Derived.Test.YtlhppeikbgolbaaRecN
namespace Go.Proofs.Ytlhppeikbgolbaa.RecD
open Go Go.AM

/-- The functions that are entered. -/
abbrev O1 : List Nat := [10]

theorem S25 (n : Nat) (h : H) : callB Try.prog 0 O1 (n + 1) 25 [] h = some (.pointer (some ⟨h.next, 0, none⟩), h.push (.cells [.slice none 0 0, .int .i64 0] (some 0))) := by
  rw [F25eq O1 rfl]
  kernel_rfl

theorem S24 (n : Nat) (h : H) (p : Nat) (v : Value) (k : Int) (hp : h.get p = some (.cells [v, .int .i64 k] (some 0))) :
    callB Try.prog 0 O1 (n + 1) 24 [.pointer (some ⟨p, 0, none⟩)] h = some (.int .i64 (IntKind.i64.wrap (k + 1)), h.put p (.cells [v, .int .i64 (IntKind.i64.wrap (k + 1))] (some 0))) := by
  rw [F24eq O1 rfl]
  simp [F24, p24a, bin_ptr_nil Try.underlying25, hp, H.get_put, splice]

theorem S33 (n : Nat) (h : H) (v : Value) (els : List (List Value)) (s : SliceE 2 h v els) (hl : els.length ≤ 20) :
    ∃ v' h', callB Try.prog 0 O1 (n + 1) 33 [v] h = some (v', h') ∧ SliceE 2 h' v' els ∧ Ext h h' ∧ ∀ i, sid v' = some i → h.next ≤ i ∧ OwnAt h' i := by
  rw [F33eq O1 rfl]
  rcases s.nil_or with ⟨rfl, rfl⟩ | ⟨a, c, rfl⟩
  · exact ⟨.slice none 0 0, h, by kernel_rfl, s, Ext.refl h, by simp [sid]⟩
  · obtain ⟨v', h', he, hs, hx, _, _, hi⟩ := append_copy (bs := 24) (t := h.next) (s.ext (Ext.push h (.cells [] (some 2)))) (by rw [H.get_push, if_pos rfl]) (by simp) (by omega) (by omega) (by omega)
    refine ⟨v', h', ?_, hs, (Ext.push h _).trans hx, hi⟩
    simp only [F33, p33a]
    rw [bin_slice_nil Try.underlying32]
    simp only [bnd_some, bnd2_some, toBK_bool, cond_false]
    have hbs : A.buildSlice 2 0 Z57L [] h = some (.slice (some ⟨h.next, 0, none⟩) 0 1, h.push (.cells [] (some 2))) := rfl
    rw [hbs]
    simp only [bnd2_some]
    rw [he]; rfl

/-- A note with Subs of its own. -/
theorem S29 (n : Nat) (h : H) (cs : List Value) (v : Value) (els : List (List Value)) (hc : cs.length = 35) (hv : cs[26]? = some v) (s : SliceE 2 h v els) (hl : els.length ≤ 20) :
    ∃ v' h', callB Try.prog 0 O1 (n + 2) 29 [.agg ⟨cs⟩] h = some (.agg ⟨cs.set 26 v'⟩, h') ∧ SliceE 2 h' v' els ∧ Ext h h' ∧ ∀ i, sid v' = some i → h.next ≤ i ∧ OwnAt h' i := by
  rw [F29eq O1 rfl]
  have hlt : 26 < cs.length := by omega
  obtain rfl : cs[26] = v := by rw [List.getElem?_eq_getElem hlt] at hv; exact Option.some.inj hv
  have hz : cellsL Z36 = some Z36L := rfl
  have hz2 : Nat.beq Z36L.length 35 = true := rfl
  have hc1 : Nat.beq cs.length 35 = true := by rw [hc]; rfl
  obtain ⟨v', h3, he, hs, hx, hi⟩ := S33 n ((h.push (.cells cs (some 0))).push (.cells Z36L (some 0))) cs[26] els (s.ext ((Ext.push h _).pushed _)) hl
  have g1 : h3.get h.next = some (.cells cs (some 0)) := by rw [hx.get _ (by simp; omega)]; simp [H.get_push]
  have g2 : h3.get (h.next + 1) = some (.cells Z36L (some 0)) := by rw [hx.get _ (by simp)]; simp [H.get_push]
  have hx' : Ext h h3 := ((Ext.push h _).pushed _).trans hx
  have hsp : splice cs 26 [v'] = cs.set 26 v' := splice_one (by omega)
  have hl' : (cs.set 26 v').length = 35 := by simp [hc]
  have hz3 : Z36L.length = 35 := rfl
  have hcl : cellsL v' = some [v'] := by
    rcases hs.nil_or with ⟨rfl, _⟩ | ⟨a, c, rfl⟩ <;> rfl
  have htk : ∀ l : List Value, l.length = 35 → l.take 35 = l := fun l hl => List.take_of_length_le (by omega)
  have hsz : splice Z36L 0 (cs.set 26 v') = cs.set 26 v' := by
    simp only [splice, List.take_zero, List.nil_append, Nat.zero_add]
    rw [List.drop_eq_nil_of_le (by rw [hz3, hl']; omega), List.append_nil]
  refine ⟨v', (h3.put h.next (.cells (cs.set 26 v') (some 0))).put (h.next + 1) (.cells (cs.set 26 v') (some 0)), ?_, ?_, ?_, fun i hi' => by
    obtain ⟨a1, cs1, es1, a2⟩ := hi i hi'
    simp at a1
    exact ⟨by omega, cs1, es1, by rw [H.get_put, if_neg (by omega), H.get_put, if_neg (by omega)]; exact a2⟩⟩
  · simp only [F29, p29a]
    simp [hz, H.get_push, he, H.get_put, g1, g2, hcl, hc, hsp, hz3, hl', htk, hsz, resC, packA]
    done
  · refine (hs.extBut (S := fun i => i = h.next ∨ i = h.next + 1) ((ExtBut.put (ExtBut.put ⟨Nat.le_refl _, fun _ _ _ => rfl⟩ _ _ (.inl rfl)) _ _ (.inr rfl))) fun i hi' => ?_)
    have := (hi i hi').1; simp at this; omega
  · exact (hx'.put _ _ (by omega)).put _ _ (by omega)
/-- A note copied. -/
theorem S14 (n : Nat) (h : H) (cs : List Value) (v : Value) (els : List (List Value)) (hc : cs.length = 35) (hv : cs[26]? = some v) (s : SliceE 2 h v els) (hl : els.length ≤ 20) :
    ∃ v' h', callB Try.prog 0 O1 (n + 1) 14 [.agg ⟨cs⟩] h = some (.agg ⟨cs.set 26 v'⟩, h') ∧ SliceE 2 h' v' els ∧ Ext h h' ∧ ∀ i, sid v' = some i → h.next ≤ i ∧ OwnAt h' i := by
  rw [F14eq O1 rfl]
  have hlt : 26 < cs.length := by omega
  obtain rfl : cs[26] = v := by rw [List.getElem?_eq_getElem hlt] at hv; exact Option.some.inj hv
  have hz : cellsL Z36 = some Z36L := rfl
  obtain ⟨v', h3, he, hs, hx, _, ⟨a, c, hv'⟩, hi⟩ := append_copy (n := 2) (bs := 24) (t := h.next + 2) (s.ext (((Ext.push h (.cells cs (some 0))).pushed (.cells Z36L (some 0))).pushed (.cells [] (some 2))))
    (by simp [H.get_push, Nat.add_assoc]) (by simp) (by omega) (by omega) (by omega)
  have g1 : h3.get h.next = some (.cells cs (some 0)) := by rw [hx.get _ (by simp; omega)]; simp [H.get_push, Nat.add_assoc]
  have g2 : h3.get (h.next + 1) = some (.cells Z36L (some 0)) := by rw [hx.get _ (by simp)]; simp [H.get_push, Nat.add_assoc]
  have hx' : Ext h h3 := (((Ext.push h _).pushed _).pushed _).trans hx
  have hsp : splice cs 26 [v'] = cs.set 26 v' := splice_one (by omega)
  have hl' : (cs.set 26 v').length = 35 := by simp [hc]
  have hz3 : Z36L.length = 35 := rfl
  have hcl : cellsL v' = some [v'] := by rw [hv']; rfl
  have htk : ∀ l : List Value, l.length = 35 → l.take 35 = l := fun l hl => List.take_of_length_le (by omega)
  have hsz : splice Z36L 0 (cs.set 26 v') = cs.set 26 v' := by
    simp only [splice, List.take_zero, List.nil_append, Nat.zero_add]
    rw [List.drop_eq_nil_of_le (by rw [hz3, hl']; omega), List.append_nil]
  have hbs : ∀ h : H, A.buildSlice 2 0 Z57L [] h = some (.slice (some ⟨h.next, 0, none⟩) 0 1, h.push (.cells [] (some 2))) := fun _ => rfl
  refine ⟨v', (h3.put h.next (.cells (cs.set 26 v') (some 0))).put (h.next + 1) (.cells (cs.set 26 v') (some 0)), ?_, ?_, ?_, fun i hi' => by
    obtain ⟨a1, cs1, es1, a2⟩ := hi i hi'
    exact ⟨by omega, cs1, es1, by rw [H.get_put, if_neg (by omega), H.get_put, if_neg (by omega)]; exact a2⟩⟩
  · simp only [F14, p14a]
    simp [hz, H.get_push, hbs, he, H.get_put, g1, g2, hcl, hc, hsp, hz3, hl', htk, hsz, resC, packA, Nat.add_assoc]
    done
  · refine (hs.extBut (S := fun i => i = h.next ∨ i = h.next + 1) ((ExtBut.put (ExtBut.put ⟨Nat.le_refl _, fun _ _ _ => rfl⟩ _ _ (.inl rfl)) _ _ (.inr rfl))) fun i hi' => ?_)
    have := (hi i hi').1; omega
  · exact (hx'.put _ _ (by omega)).put _ _ (by omega)

/-- x is the note cs, with Subs els in memory of its own. -/
def NoteAt (h : H) (x : List Value) (d : List Value × List (List Value)) (bad : Nat → Prop) : Prop :=
  ∃ w, x = d.1.set 26 w ∧ d.1.length = 35 ∧ SliceE 2 h w d.2 ∧ d.2.length ≤ 20 ∧ ∀ i, sid w = some i → ¬ bad i

/-- A row of notes. -/
def Notes (h : H) (ns : List (List Value)) (ds : List (List Value × List (List Value))) (bad : Nat → Prop) : Prop :=
  ns.length = ds.length ∧ ∀ (i : Nat) (x : List Value) (d : List Value × List (List Value)), ns[i]? = some x → ds[i]? = some d → NoteAt h x d bad

/-- A log at p, over what was there at first. -/
structure LogR (h0 h : H) (p : Nat) (v : Value) (ns : List (List Value)) (ds : List (List Value × List (List Value))) (ops : Int) : Prop where
  hp : h.get p = some (.cells [v, .int .i64 ops] (some 0))
  p0 : h0.next ≤ p
  p1 : p < h.next
  vec : Vec 35 h v ns
  v0 : ∀ i, sid v = some i → h0.next ≤ i ∧ i ≠ p
  notes : Notes h ns ds (fun i => i = p ∨ sid v = some i)

theorem NoteAt.len {h : H} {x : List Value} {d : List Value × List (List Value)} {bad : Nat → Prop} (n : NoteAt h x d bad) : x.length = 35 := by
  obtain ⟨w, rfl, hl, _⟩ := n; simp [hl]

theorem Notes.len {h : H} {ns : List (List Value)} {ds : List (List Value × List (List Value))} {bad : Nat → Prop} (n : Notes h ns ds bad) : ∀ x ∈ ns, x.length = 35 := by
  intro x hx
  obtain ⟨i, hi⟩ := List.mem_iff_getElem?.1 hx
  have hlt : i < ds.length := by rw [← n.1]; exact (List.getElem?_eq_some_iff.1 hi).1
  exact (n.2 i x ds[i] hi (List.getElem?_eq_getElem hlt)).len

theorem Notes.extBut {S : Nat → Prop} {h h' : H} {ns : List (List Value)} {ds : List (List Value × List (List Value))} {bad bad' : Nat → Prop} (n : Notes h ns ds bad) (x : ExtBut S h h')
    (hs : ∀ i, S i → bad i) (hb : ∀ i, i < h.next → bad' i → bad i) : Notes h' ns ds bad' := by
  refine ⟨n.1, fun i y d hy hd => ?_⟩
  obtain ⟨w, rfl, h1, h2, h3, h4⟩ := n.2 i y d hy hd
  exact ⟨w, rfl, h1, h2.extBut x (fun j hj hsj => h4 j hj (hs j hsj)), h3, fun j hj hbj => h4 j hj (hb j (h2.sid_lt j hj) hbj)⟩
theorem S19 (n : Nat) {h0 h : H} {p : Nat} {v : Value} {ns : List (List Value)} {ds : List (List Value × List (List Value))} {ops : Int} (l : LogR h0 h p v ns ds ops) :
    callB Try.prog 0 O1 (n + 1) 19 [.pointer (some ⟨p, 0, none⟩)] h = some (.int .i64 ns.length, h) := by
  rw [F19eq O1 rfl]
  have h1 := l.vec.slice.len.1
  simp [F19, p19a, bin_ptr_nil Try.underlying25, l.hp, h1]

/-- A note more. -/
theorem S23' (n : Nat) {h0 h : H} {p : Nat} {v : Value} {ns : List (List Value)} {ds : List (List Value × List (List Value))} {ops : Int} (l : LogR h0 h p v ns ds ops) (hx0 : Ext h0 h) (hd : ds.length ≤ 60)
    {cs : List Value} {w : Value} {els : List (List Value)} (hc : cs.length = 35) (hw : cs[26]? = some w) (s : SliceE 2 h w els) (hl : els.length ≤ 20) :
    ∃ h' v' x, callB Try.prog 0 O1 (n + 3) 23 [.pointer (some ⟨p, 0, none⟩), .agg ⟨cs⟩] h = some (.int .i64 ns.length, h') ∧ LogR h0 h' p v' (ns ++ [x]) (ds ++ [(cs, els)]) ops ∧ Ext h0 h' ∧ (∀ i w, x[26]? = some w → sid w = some i → h.next ≤ i) ∧
      ExtBut (fun i => i = p ∨ sid v = some i) h h' ∧ (∀ i, sid v' = some i → h.next ≤ i) := by
  rw [F23eq O1 rfl]
  have hnd : ns.length = ds.length := l.notes.1
  -- the note of its own
  obtain ⟨w', h2, he, hs2, hx2, hi2⟩ := S29 n (h.push (.cells cs (some 0))) cs w els hc hw (s.ext (Ext.push h _)) hl
  have hx02 : Ext h h2 := (Ext.push h _).trans hx2
  have gp : h2.get p = some (.cells [v, .int .i64 ops] (some 0)) := by rw [hx02.get _ l.p1]; exact l.hp
  have hl' : (cs.set 26 w').length = 35 := by simp [hc]
  have hb := buildSlice_one (n := 35) (zs := Z36L) (v := .agg ⟨cs.set 26 w'⟩) h2 rfl rfl hl'
  have hvs := l.vec.slice.same
  have hvc := l.vec.slice.cells
  -- append
  have vec3 : Vec 35 (h2.push (.cells (cs.set 26 w') (some 35))) v ns := l.vec.ext (hx02.pushed _)
  obtain ⟨h4, ha, vec4, hn4, hx4⟩ := append_vec (bs := 304) vec3 (slice_one (h := h2) hl') (by simp) (by omega) (by simp; omega) (by simp; omega)
  have hx3 : Ext h (h2.push (.cells (cs.set 26 w') (some 35))) := hx02.pushed _
  have hpv : ¬ sid v = some p := fun e => (l.v0 p e).2 rfl
  have gp4 : h4.get p = some (.cells [v, .int .i64 ops] (some 0)) := by
    rw [hx4.get p (Nat.lt_of_lt_of_le l.p1 hx3.next) hpv, hx3.get p l.p1]; exact l.hp
  simp only [List.length_cons, List.length_nil, Nat.zero_add, next_push'] at ha vec4 hn4
  have hn2 : h.next + 1 ≤ h2.next := hx2.next
  refine ⟨h4.put p (.cells [.slice (some ⟨h2.next + 1, 0, none⟩) (ns.length + 1) (2 * (ns.length + 1)), .int .i64 ops] (some 0)), .slice (some ⟨h2.next + 1, 0, none⟩) (ns.length + 1) (2 * (ns.length + 1)), cs.set 26 w', ?_, ?_, ?_, ?_, ?_, ?_⟩
  · simp only [F23, p23a]
    have hcc : List.take 35 cs = cs := List.take_of_length_le (by omega)
    have hpn : p ≠ h.next := by have := l.p1; omega
    have hwr : IntKind.i64.wrap (ns.length : Int) = ns.length := wrap64 (by omega) (by omega)
    simp [bin_ptr_nil Try.underlying25, hc, H.get_push, hpn, l.hp, hcc, he, gp, chk, hvs, hb, ha, gp4, H.get_put, splice, hwr]
  · have hput : ExtBut (fun i => i = p) h4 (h4.put p (.cells [.slice (some ⟨h2.next + 1, 0, none⟩) (ns.length + 1) (2 * (ns.length + 1)), .int .i64 ops] (some 0))) := ExtBut.put ⟨Nat.le_refl _, fun _ _ _ => rfl⟩ _ _ rfl
    have hp2 : p < h2.next + 1 := by have := l.p1; omega
    refine ⟨by simp [H.get_put], l.p0, by have := l.p1; simp; omega, vec4.extBut hput (fun i hi e => ?_), fun i hi => ?_, ?_⟩
    · simp [sid] at hi; omega
    · simp [sid] at hi; have := hx0.next; omega
    · have hxall : ExtBut (fun i => i = p ∨ sid v = some i) h (h4.put p (.cells [.slice (some ⟨h2.next + 1, 0, none⟩) (ns.length + 1) (2 * (ns.length + 1)), .int .i64 ops] (some 0))) :=
        (hx3.but.trans (b := h2.push (.cells (cs.set 26 w') (some 35))) ⟨hx4.next, fun id h1 h2 => hx4.get id h1 (fun e => h2 (.inr e))⟩).put _ _ (.inl rfl)
      have old := l.notes.extBut (bad' := fun i => i = p ∨ sid (.slice (some ⟨h2.next + 1, 0, none⟩) (ns.length + 1) (2 * (ns.length + 1))) = some i) hxall (fun _ h => h) (fun i hi hb => by
        rcases hb with hb | hb
        · exact .inl hb
        · simp [sid] at hb; omega)
      refine ⟨by simp [hnd], fun i x d hx hd' => ?_⟩
      by_cases hi : i < ns.length
      · rw [List.getElem?_append_left hi] at hx
        rw [List.getElem?_append_left (by omega)] at hd'
        exact old.2 i x d hx hd'
      · rw [List.getElem?_append_right (by omega)] at hx
        rw [List.getElem?_append_right (by omega)] at hd'
        have hi0 : i - ns.length = 0 := by
          have := (List.getElem?_eq_some_iff.1 hx).1; simp at this; omega
        have hi1 : i - ds.length = 0 := by omega
        rw [hi0] at hx; rw [hi1] at hd'
        simp only [List.getElem?_cons_zero, Option.some.injEq] at hx hd'
        subst hx; subst hd'
        have hx24 : ExtBut (fun i => i = p ∨ sid v = some i) h2 (h4.put p (.cells [.slice (some ⟨h2.next + 1, 0, none⟩) (ns.length + 1) (2 * (ns.length + 1)), .int .i64 ops] (some 0))) :=
          ((Ext.push h2 _).but.trans (b := h2.push (.cells (cs.set 26 w') (some 35))) ⟨hx4.next, fun id h1 h2 => hx4.get id h1 (fun e => h2 (.inr e))⟩).put _ _ (.inl rfl)
        refine ⟨w', rfl, hc, hs2.extBut hx24 (fun i hi hb => ?_), hl, fun i hi hb => ?_⟩
        · have h1 := (hi2 i hi).1
          simp at h1
          rcases hb with hb | hb
          · have := l.p1; omega
          · have := l.vec.slice.sid_lt i hb; omega
        · have h1 := (hi2 i hi).1
          have h3 := hs2.sid_lt i hi
          simp at h1
          rcases hb with hb | hb
          · have := l.p1; omega
          · simp [sid] at hb; omega
  · have e1 : Ext h0 (h2.push (.cells (cs.set 26 w') (some 35))) := hx0.trans hx3
    refine Ext.put ⟨Nat.le_trans e1.next hx4.next, fun id hid => ?_⟩ _ _ l.p0
    rw [hx4.get id (Nat.lt_of_lt_of_le hid e1.next) (fun e => by have := (l.v0 id e).1; omega)]
    exact e1.get id hid
  · intro i u hu hi
    have hlt : 26 < cs.length := by omega
    simp [hlt] at hu
    subst hu
    have := (hi2 i hi).1
    simp at this; omega
  · exact (hx3.but.trans (b := h2.push (.cells (cs.set 26 w') (some 35))) ⟨hx4.next, fun id h1 h2 => hx4.get id h1 (fun e => h2 (.inr e))⟩).put _ _ (.inl rfl)
  · intro i hi
    simp [sid] at hi; omega

theorem S23 (n : Nat) {h0 h : H} {p : Nat} {v : Value} {ns : List (List Value)} {ds : List (List Value × List (List Value))} {ops : Int} (l : LogR h0 h p v ns ds ops) (hx0 : Ext h0 h) (hd : ds.length ≤ 60)
    {cs : List Value} {w : Value} {els : List (List Value)} (hc : cs.length = 35) (hw : cs[26]? = some w) (s : SliceE 2 h w els) (hl : els.length ≤ 20) :
    ∃ h' v' x, callB Try.prog 0 O1 (n + 3) 23 [.pointer (some ⟨p, 0, none⟩), .agg ⟨cs⟩] h = some (.int .i64 ns.length, h') ∧ LogR h0 h' p v' (ns ++ [x]) (ds ++ [(cs, els)]) ops ∧ Ext h0 h' := by
  obtain ⟨h', v', x, e, l', x', _⟩ := S23' n l hx0 hd hc hw s hl
  exact ⟨h', v', x, e, l', x'⟩
/-- Bytes as elements. -/
def bytesE (bs : List Int) : List (List Value) := bs.map fun b => [.int .u8 b]
def intsE (xs : List Int) : List (List Value) := xs.map fun b => [.int .i64 b]

theorem L32 {C : CF} {L : Nat} {β : Type} {kr : Value → H → Option β} {kx : H → Option β} {h : H} {v : Value} {bs : List Int} (s : SliceE 1 h v (bytesE bs)) (hb : bs.length < 2 ^ 62) (b : Int) :
    ∀ (n i : Nat), i ≤ bs.length → bs.length - i < n → (∀ j, j < i → bs[j]? ≠ some b) →
    (b ∈ bs ∧ ∃ j : Nat, p32arlrbw C L kr kx n (.int .i64 bs.length) (.int .i64 i) v (.int .u8 b) h = kr (.int .i64 j) h) ∨
    (b ∉ bs ∧ p32arlrbw C L kr kx n (.int .i64 bs.length) (.int .i64 i) v (.int .u8 b) h = kx h) := by
  intro n
  induction n with
  | zero => intro i _ h1; omega
  | succ n ih =>
    intro i hi hn hno
    by_cases hlt : i < bs.length
    · obtain ⟨id, off, cells, own, h1, h2, h3, h4, _, h6⟩ := s.at (i := i) (e := [.int .u8 bs[i]]) (by simp [bytesE, hlt]) .i64
      have h6' := h6 0 (by omega)
      simp only [Nat.add_zero, List.getElem?_cons_zero] at h6'
      have hc : ((i : Int) < (bs.length : Int)) := by omega
      have hw : IntKind.i64.wrap ((i : Int) + 1) = ((i + 1 : Nat) : Int) := by rw [wrap64] <;> omega
      by_cases he : b = bs[i]
      · refine .inl ⟨by rw [he]; exact List.getElem_mem _, i, ?_⟩
        simp [p32arlrbw, p32arlrbo, hc, h1, h3, h6', he]
      · have hstep : p32arlrbw C L kr kx (n + 1) (.int .i64 bs.length) (.int .i64 i) v (.int .u8 b) h = p32arlrbw C L kr kx n (.int .i64 bs.length) (.int .i64 ((i + 1 : Nat) : Int)) v (.int .u8 b) h := by
          simp only [p32arlrbw, p32arlrbo]
          simp [hc, h1, h3, h6', he]
          rw [hw]; rfl
        rw [hstep]
        refine ih (i + 1) (by omega) (by omega) fun j hj => ?_
        by_cases hji : j = i
        · subst hji; rw [List.getElem?_eq_getElem hlt]; intro e; exact he (Option.some.inj e).symm
        · exact hno j (by omega)
    · have hi' : i = bs.length := by omega
      refine .inr ⟨fun hm => ?_, ?_⟩
      · obtain ⟨j, hj⟩ := List.mem_iff_getElem?.1 hm
        exact hno j (by rw [hi']; exact (List.getElem?_eq_some_iff.1 hj).1) hj
      · have hc : ¬ ((i : Int) < (bs.length : Int)) := by omega
        simp [p32arlrbw, p32arlrbo, hc]

theorem S28 (n : Nat) {h : H} {v : Value} {bs : List Int} (s : SliceE 1 h v (bytesE bs)) (hb : bs.length < 2 ^ 62) (hn : bs.length < n) (b : Int) :
    callB Try.prog 0 O1 (n + 2) 28 [v, .int .u8 b] h = some (.bool (decide (b ∈ bs)), h) := by
  rw [F28eq O1 rfl]
  have hlen := s.len.1
  have e1 : (bytesE bs).length = bs.length := by simp [bytesE]
  rw [e1] at hlen
  have key : ∃ x : Int, callB Try.prog 0 O1 (n + 1) 32 [v, .int .u8 b] h = some (.int .i64 x, h) ∧ (0 ≤ x ↔ b ∈ bs) := by
    rw [F32eq O1 rfl]
    simp only [F32, p32a, p32al, p32ar, p32arl, p32arr, p32arll, p32arlr, p32arlrb, hlen, bnd_some, bnd2_some]
    rcases L32 (C := callB Try.prog 0 O1 n) (L := n) (kr := fun x4 h => some (x4, h)) (kx := fun h => some (.int .i64 (-1), h)) s hb b n 0 (by omega) (by omega) (by omega) with ⟨hm, j, hj⟩ | ⟨hm, hj⟩
    · refine ⟨j, hj, ?_⟩
      simp [hm]
    · refine ⟨-1, hj, ?_⟩
      simp [hm]
  obtain ⟨x, hx, hxm⟩ := key
  simp [F28, p28a, hx, hxm]
/-- A note's Op and Kind. -/
def opC (cs : List Value) : Int := match (cs[1]? : Option Value) with | some (Value.int _ n) => n | _ => 0
def kdC (cs : List Value) : Int := match (cs[0]? : Option Value) with | some (Value.int _ n) => n | _ => 0
def Head (cs : List Value) : Prop := cs[0]? = some (.int .u8 (kdC cs)) ∧ cs[1]? = some (.int .i64 (opC cs))

/-- Is a note one of an op, and of kinds? -/
def isOf (op : Int) (ks : List Int) (cs : List Value) : Bool := decide (opC cs = op) && (decide (ks = []) || decide (kdC cs ∈ ks))

/-- The places of an op's notes, among the first i. -/
def placesTo (op : Int) (ks : List Int) (ds : List (List Value × List (List Value))) (i : Nat) : List Int :=
  ((List.range i).filter fun j => match ds[j]? with | some d => isOf op ks d.1 | none => false).map fun (j : Nat) => (j : Int)

theorem placesTo_succ (op : Int) (ks : List Int) (ds : List (List Value × List (List Value))) (i : Nat) (d : List Value × List (List Value)) (hd : ds[i]? = some d) :
    placesTo op ks ds (i + 1) = if isOf op ks d.1 = true then placesTo op ks ds i ++ [(i : Int)] else placesTo op ks ds i := by
  unfold placesTo
  rw [List.range_succ, List.filter_append]
  by_cases h : isOf op ks d.1 = true
  · simp [hd, h]
  · simp [hd, h]

theorem S27 (n : Nat) {h : H} {x : List Value} {a b : Nat} {op kd o : Int} {kv : Value} {ks : List Int} (hl : x.length = 35) (h0 : x[0]? = some (.int .u8 kd)) (h1 : x[1]? = some (.int .i64 o))
    (ha : h.get a = some (.cells [.int .i64 op] (some 0))) (ha' : a < h.next) (hb : h.get b = some (.cells [kv] (some 0))) (hb' : b < h.next) (s : SliceE 1 h kv (bytesE ks)) (hk : ks.length < 2 ^ 62) (hn : ks.length < n) :
    callB Try.prog 0 O1 (n + 3) 27 [.agg ⟨x⟩, .pointer (some ⟨a, 0, none⟩), .pointer (some ⟨b, 0, none⟩)] h = some (.bool (decide (o = op) && (decide (ks = []) || decide (kd ∈ ks))), h.push (.cells x (some 0))) := by
  rw [F27eq O1 rfl]
  have hlen := s.len.1
  have e1 : (bytesE ks).length = ks.length := by simp [bytesE]
  rw [e1] at hlen
  have s28 := S28 n (s.ext (Ext.push h (.cells x (some 0)))) hk hn kd
  have hna : a ≠ h.next := by omega
  have hnb : b ≠ h.next := by omega
  have hl0 : 0 < x.length := by omega
  have hl1 : 1 < x.length := by omega
  have h0' : x[0] = .int .u8 kd := by rw [List.getElem?_eq_getElem hl0] at h0; exact Option.some.inj h0
  have h1' : x[1] = .int .i64 o := by rw [List.getElem?_eq_getElem hl1] at h1; exact Option.some.inj h1
  simp only [F27, p27a]
  simp [hl, H.get_push, hna, hnb, ha, hb, h0', h1', hlen, s28]
  by_cases ho : o = op <;> by_cases hk0 : ks = [] <;> simp [ho, hk0]

theorem L12 {m : Nat} {β : Type} {kx0 : Value → H → Option β} {h0 h1 : H} {p : Nat} {v : Value} {ns : List (List Value)} {ds : List (List Value × List (List Value))} {ops : Int}
    (l : LogR h0 h1 p v ns ds ops) (hd : ds.length ≤ 60) (ht : ∀ d ∈ ds, Head d.1) {a b : Nat} {op : Int} {kv : Value} {ks : List Int}
    (ha : h1.get a = some (.cells [.int .i64 op] (some 0))) (ha' : a < h1.next) (hb : h1.get b = some (.cells [kv] (some 0))) (hb' : b < h1.next) (s : SliceE 1 h1 kv (bytesE ks)) (hk : ks.length < 2 ^ 62) (hm : ks.length < m) (L : Nat) :
    ∀ (n i : Nat) (x8 : Value) (h : H), i ≤ ns.length → ns.length - i < n → Ext h1 h → Vec 1 h x8 (intsE (placesTo op ks ds i)) → (∀ j, sid x8 = some j → h1.next ≤ j) →
    ∃ x8' h', p12arrrlrbw (callB Try.prog 0 O1 (m + 3)) L kx0 n (.int .i64 ns.length) (.int .i64 i) (.pointer (some ⟨p, 0, none⟩)) (.func (.func 27) ⟨[]⟩ ⟨[.pointer (some ⟨a, 0, none⟩), .pointer (some ⟨b, 0, none⟩)]⟩) x8 h = kx0 x8' h' ∧
      Ext h1 h' ∧ Vec 1 h' x8' (intsE (placesTo op ks ds ns.length)) := by
  intro n
  induction n with
  | zero => intro i x8 h _ h1; omega
  | succ n ih =>
    intro i x8 h hi hn hx hv hs
    have hnd : ns.length = ds.length := l.notes.1
    by_cases hlt : i < ns.length
    · have hltd : i < ds.length := by omega
      have hvec := l.vec.ext hx
      obtain ⟨id, off, cells, own, g1, g2, g3, g4, g5, g6⟩ := hvec.slice.at (i := i) (e := ns[i]) (List.getElem?_eq_getElem hlt) .i64
      obtain ⟨w, hxw, hc, _, _, _⟩ := l.notes.2 i ns[i] ds[i] (List.getElem?_eq_getElem hlt) (List.getElem?_eq_getElem hltd)
      obtain ⟨t0, t1⟩ := ht ds[i] (List.getElem_mem _)
      have hxl : ns[i].length = 35 := by rw [hxw]; simp [hc]
      have e0 : ns[i][0]? = some (.int .u8 (kdC ds[i].1)) := by rw [hxw, List.getElem?_set_ne (by omega)]; exact t0
      have e1 : ns[i][1]? = some (.int .i64 (opC ds[i].1)) := by rw [hxw, List.getElem?_set_ne (by omega)]; exact t1
      have gp : h.get p = some (.cells [v, .int .i64 ops] (some 0)) := by rw [hx.get _ l.p1]; exact l.hp
      have s27 := S27 m hxl e0 e1 (op := op) (by rw [hx.get _ ha']; exact ha) (Nat.lt_of_lt_of_le ha' hx.next) (by rw [hx.get _ hb']; exact hb) (Nat.lt_of_lt_of_le hb' hx.next) (s.ext hx) hk hm
      have hcl : ((i : Int) < (ns.length : Int)) := by omega
      have hw := wrap_succ (n := i) (by omega)
      have hpl := placesTo_succ op ks ds i ds[i] (List.getElem?_eq_getElem hltd)
      have hplen : (placesTo op ks ds i).length ≤ i := by
        unfold placesTo; rw [List.length_map]; exact Nat.le_trans (List.length_filter_le _ _) (by simp)
      have hint : ∀ l : List Int, (intsE l).length = l.length := fun l => by simp [intsE]
      change callB Try.prog 0 O1 (m + 3) 27 [.agg ⟨ns[i]⟩, .pointer (some ⟨a, 0, none⟩), .pointer (some ⟨b, 0, none⟩)] h = some (.bool (isOf op ks ds[i].1), h.push (.cells ns[i] (some 0))) at s27
      by_cases hb : isOf op ks ds[i].1 = true
      · rw [if_pos hb] at hpl
        have hbs := buildSlice_one (n := 1) (zs := Z3L) (v := .int .i64 (i : Int)) (vs := [.int .i64 (i : Int)]) (h.push (.cells ns[i] (some 0))) rfl rfl rfl
        have hvec1 : Vec 1 ((h.push (.cells ns[i] (some 0))).push (.cells [.int .i64 (i : Int)] (some 1))) x8 (intsE (placesTo op ks ds i)) := hv.ext ((Ext.push _ _).pushed _)
        obtain ⟨h4, a1, a2, a3, a4⟩ := append_vec (bs := 8) hvec1 (slice_one (n := 1) (h := h.push (.cells ns[i] (some 0))) rfl) (by simp) (by omega) (by simp [hint]; omega) (by simp [hint]; omega)
        have hstep : p12arrrlrbw (callB Try.prog 0 O1 (m + 3)) L kx0 (n + 1) (.int .i64 ns.length) (.int .i64 i) (.pointer (some ⟨p, 0, none⟩)) (.func (.func 27) ⟨[]⟩ ⟨[.pointer (some ⟨a, 0, none⟩), .pointer (some ⟨b, 0, none⟩)]⟩) x8 h =
            p12arrrlrbw (callB Try.prog 0 O1 (m + 3)) L kx0 n (.int .i64 ns.length) (.int .i64 ((i + 1 : Nat) : Int)) (.pointer (some ⟨p, 0, none⟩)) (.func (.func 27) ⟨[]⟩ ⟨[.pointer (some ⟨a, 0, none⟩), .pointer (some ⟨b, 0, none⟩)]⟩)
              (.slice (some ⟨((h.push (.cells ns[i] (some 0))).push (.cells [.int .i64 (i : Int)] (some 1))).next, 0, none⟩) ((intsE (placesTo op ks ds i)).length + [[Value.int .i64 (i : Int)]].length) (2 * ((intsE (placesTo op ks ds i)).length + [[Value.int .i64 (i : Int)]].length))) h4 := by
          conv => lhs; simp only [p12arrrlrbw, p12arrrlrbo]
          rw [← hw]
          simp [hcl, gp, g1, g3, g4, g5, callV, s27, hb, hbs]
          simp at a1
          rw [a1]; rfl
        rw [hstep]
        refine ih (i + 1) _ h4 (by omega) (by omega) ?_ ?_ ?_
        · exact (hx.trans ((Ext.push _ _).pushed _)).grow a4 hs
        · rw [hpl]
          have : intsE (placesTo op ks ds i ++ [(i : Int)]) = intsE (placesTo op ks ds i) ++ [[Value.int .i64 (i : Int)]] := by simp [intsE]
          rw [this]; exact a2
        · intro j hj
          simp [sid] at hj
          have := hx.next
          omega
      · rw [if_neg hb] at hpl
        simp only [Bool.not_eq_true] at hb
        have hstep : p12arrrlrbw (callB Try.prog 0 O1 (m + 3)) L kx0 (n + 1) (.int .i64 ns.length) (.int .i64 i) (.pointer (some ⟨p, 0, none⟩)) (.func (.func 27) ⟨[]⟩ ⟨[.pointer (some ⟨a, 0, none⟩), .pointer (some ⟨b, 0, none⟩)]⟩) x8 h =
            p12arrrlrbw (callB Try.prog 0 O1 (m + 3)) L kx0 n (.int .i64 ns.length) (.int .i64 ((i + 1 : Nat) : Int)) (.pointer (some ⟨p, 0, none⟩)) (.func (.func 27) ⟨[]⟩ ⟨[.pointer (some ⟨a, 0, none⟩), .pointer (some ⟨b, 0, none⟩)]⟩) x8 (h.push (.cells ns[i] (some 0))) := by
          conv => lhs; simp only [p12arrrlrbw, p12arrrlrbo]
          rw [← hw]
          simp [hcl, gp, g1, g3, g4, g5, callV, s27, hb]
        rw [hstep]
        refine ih (i + 1) _ _ (by omega) (by omega) (hx.pushed _) ?_ hs
        rw [hpl]; exact hv.ext (Ext.push _ _)
    · have hi' : i = ns.length := by omega
      have hc : ¬ ((i : Int) < (ns.length : Int)) := by omega
      refine ⟨x8, h, ?_, hx, by rw [← hi']; exact hv⟩
      simp [p12arrrlrbw, p12arrrlrbo, hc]
end Go.Proofs.Ytlhppeikbgolbaa.RecD
