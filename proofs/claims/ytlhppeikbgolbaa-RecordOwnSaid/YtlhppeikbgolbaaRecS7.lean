/-
  A log's note at a place; all its notes.
-/
import Derived.Test.YtlhppeikbgolbaaRecS3
namespace Go.Proofs.Ytlhppeikbgolbaa.RecD
open Go Go.AM

def noteZ : NoteF := ⟨fun _ => 0, fun _ => .empty, fun _ => false, .slice none 0 0⟩
theorem noteZ_cells : Z36L = noteZ.cells := by kernel_rfl

/-- A log over notes, not a word of who may be where. -/
theorem Notes.at {h : H} {ns : List (List Value)} {fs : List (NoteF × List (List Value))} {bad : Nat → Prop} (n : Notes h ns (dsOf fs) bad) {i : Nat} (hi : i < fs.length) :
    ∃ (hi' : i < ns.length) (w : Value), ns[i] = ({ fs[i].1 with w := w } : NoteF).cells ∧ SliceE 2 h w fs[i].2 ∧ fs[i].2.length ≤ 20 ∧ ∀ j, sid w = some j → ¬ bad j := by
  have hl : ns.length = fs.length := by have := n.1; simpa using this
  have hi' : i < ns.length := by omega
  obtain ⟨w, h1, _, h2, h3, h4⟩ := n.2 i ns[i] (fs[i].1.cells, fs[i].2) (List.getElem?_eq_getElem hi') (by simp [dsOf, hi])
  exact ⟨hi', w, h1, h2, h3, h4⟩

theorem take35 (f : NoteF) : List.take 35 f.cells = f.cells := rfl
theorem splice35 (f : NoteF) : splice Z36L 0 f.cells = f.cells := by kernel_rfl
theorem build36 : A.build Z36L [] = some (.agg ⟨noteZ.cells⟩) := by kernel_rfl
theorem cells36 : cellsL Z36 = some noteZ.cells := by kernel_rfl
theorem spliceZ (f : NoteF) : splice noteZ.cells 0 f.cells = f.cells := by kernel_rfl

theorem S15out (n : Nat) {h0 h : H} {p : Nat} {v : Value} {ns : List (List Value)} {ds : List (List Value × List (List Value))} {ops place : Int} (l : LogR h0 h p v ns ds ops) (hp : place < 0 ∨ (ns.length : Int) ≤ place) :
    ∃ h', callB Try.prog 0 O1 (n + 3) 15 [.pointer (some ⟨p, 0, none⟩), .int .i64 place] h = some (.tuple ⟨[.agg ⟨noteZ.cells⟩, .bool false]⟩, h') ∧ Ext h h' := by
  rw [F15eq O1 rfl]
  have hz := cells36
  have hb := build36
  have ht := take35 noteZ
  have hs := spliceZ noteZ
  have e19 := S19 (n + 1) (l.ext (Ext.push h (.cells noteZ.cells (some 0))))
  refine ⟨(h.push (.cells noteZ.cells (some 0))).put h.next (.cells noteZ.cells (some 0)), ?_, (Ext.push h _).put _ _ (Nat.le_refl _)⟩
  simp only [F15, p15a]
  by_cases h1 : place < 0
  · simp [hz, hb, h1, H.get_push, H.get_put, hs, ht, resC, packA]
  · have h2 : (ns.length : Int) ≤ place := by omega
    simp [hz, hb, h1, h2, e19, H.get_push, H.get_put, hs, ht, resC, packA]

theorem S15 (n : Nat) {h0 h : H} {p : Nat} {v : Value} {ns : List (List Value)} {fs : List (NoteF × List (List Value))} {ops : Int} (l : LogR h0 h p v ns (dsOf fs) ops) {i : Nat} (hi : i < fs.length) :
    ∃ w' h', callB Try.prog 0 O1 (n + 3) 15 [.pointer (some ⟨p, 0, none⟩), .int .i64 i] h = some (.tuple ⟨[.agg ⟨({ fs[i].1 with w := w' } : NoteF).cells⟩, .bool true]⟩, h') ∧ SliceE 2 h' w' fs[i].2 ∧ Ext h h' ∧
      ∀ j, sid w' = some j → h.next ≤ j ∧ OwnAt h' j := by
  rw [F15eq O1 rfl]
  have hz := cells36
  have x1 : Ext h (h.push (.cells noteZ.cells (some 0))) := Ext.push h _
  have e19 := S19 (n + 1) (l.ext x1)
  obtain ⟨hi', w, e1, s1, l1, _⟩ := l.notes.at hi
  obtain ⟨id, off, cells, own, g1, g2, g3, g4, g5, g6⟩ := (l.vec.slice.ext x1).at (i := i) (e := ns[i]) (List.getElem?_eq_getElem hi') .i64
  rw [e1] at g5
  obtain ⟨w', h3, e29, s3, x3, o3⟩ := S29 n (h.push (.cells noteZ.cells (some 0))) ({ fs[i].1 with w := w } : NoteF).cells w fs[i].2 rfl rfl (s1.ext x1) l1
  have hset : ({ fs[i].1 with w := w } : NoteF).cells.set 26 w' = ({ fs[i].1 with w := w' } : NoteF).cells := rfl
  rw [hset] at e29
  have hp : (h.push (.cells noteZ.cells (some 0))).get p = some (.cells [v, .int .i64 ops] (some 0)) := by rw [x1.get _ l.p1]; exact l.hp
  have gn : h3.get h.next = some (.cells noteZ.cells (some 0)) := by rw [x3.get _ (by simp)]; simp [H.get_push]
  have ht := take35 ({ fs[i].1 with w := w' } : NoteF)
  have hs := spliceZ ({ fs[i].1 with w := w' } : NoteF)
  have hn0 : ¬ ((i : Int) < 0) := by omega
  have hnl : ¬ ((ns.length : Int) ≤ (i : Int)) := by omega
  have xx : Ext h h3 := x1.trans x3
  refine ⟨w', h3.put h.next (.cells ({ fs[i].1 with w := w' } : NoteF).cells (some 0)), ?_, ?_, xx.put _ _ (Nat.le_refl _), fun j hj => ?_⟩
  · simp only [F15, p15a]
    simp [hz, hn0, hnl, e19, hp, g1, g3, g4, g5, e29, gn, H.get_put, hs, ht, resC, packA]
  · refine s3.extBut (S := fun i => i = h.next) (ExtBut.put ⟨Nat.le_refl _, fun _ _ _ => rfl⟩ _ _ rfl) fun j hj e => ?_
    have := (o3 j hj).1; simp at this; omega
  · obtain ⟨a1, cs1, es1, a2⟩ := o3 j hj
    simp at a1
    exact ⟨by omega, cs1, es1, by rw [H.get_put, if_neg (by omega)]; exact a2⟩

/-- The block of a note's Subs. -/
def nsid (x : List Value) : Option Nat := (x[26]?).bind sid

/-- Notes that share no memory. -/
def Apart (ns : List (List Value)) : Prop := ns.Pairwise fun a b => ∀ k, nsid a = some k → nsid b ≠ some k

/-- Notes in memory of the call's own: from a heap on. -/
structure Owns (h1 h : H) (ns : List (List Value)) (fs : List (NoteF × List (List Value))) (x : Value) : Prop where
  notes : Notes h ns (dsOf fs) (fun i => i < h1.next ∨ sid x = some i)
  own : ∀ y ∈ ns, ∀ k, nsid y = some k → OwnAt h k
  apart : Apart ns

theorem L18 {m L : Nat} {β : Type} {kx0 : Value → H → Option β} {h0 h1 : H} {p : Nat} {v : Value} {ns : List (List Value)} {fs : List (NoteF × List (List Value))} {ops : Int}
    (l : LogR h0 h1 p v ns (dsOf fs) ops) (h60 : fs.length ≤ 60) :
    ∀ (n i : Nat) (h : H) (x : Value) (out : List (List Value)), i ≤ fs.length → fs.length - i < n → Ext h1 h → Vec 35 h x out → (∀ j, sid x = some j → h1.next ≤ j) → Owns h1 h out (fs.take i) x →
    ∃ x' h' out', p18arrlrbw (callB Try.prog 0 O1 (m + 2)) L kx0 n (.int .i64 fs.length) (.int .i64 i) (.pointer (some ⟨p, 0, none⟩)) x h = kx0 x' h' ∧ Ext h1 h' ∧ Vec 35 h' x' out' ∧ (∀ j, sid x' = some j → h1.next ≤ j) ∧ Owns h1 h' out' fs x' := by
  intro n
  induction n with
  | zero => intro i h x out _ h1; omega
  | succ n ih =>
    intro i h x out hi hn hx hv hsx how
    by_cases hlt : i < fs.length
    · have l' := l.ext hx
      obtain ⟨hi', w, e1, s1, l1, _⟩ := l'.notes.at hlt
      obtain ⟨id, off, cells, own, g1, g2, g3, g4, g5, g6⟩ := l'.vec.slice.at (i := i) (e := ns[i]) (List.getElem?_eq_getElem hi') .i64
      rw [e1] at g5
      obtain ⟨w', h3, e29, s3, x3, o3⟩ := S29 m h ({ fs[i].1 with w := w } : NoteF).cells w fs[i].2 rfl rfl s1 l1
      have hset : ({ fs[i].1 with w := w } : NoteF).cells.set 26 w' = ({ fs[i].1 with w := w' } : NoteF).cells := rfl
      rw [hset] at e29
      have hbs := buildSlice_one (n := 35) (zs := Z36L) (v := .agg ⟨({ fs[i].1 with w := w' } : NoteF).cells⟩) h3 rfl rfl rfl
      have hol : out.length = i := by have := how.notes.1; simp at this; omega
      have v4 : Vec 35 (h3.push (.cells ({ fs[i].1 with w := w' } : NoteF).cells (some 35))) x out := hv.ext (x3.pushed _)
      obtain ⟨h4, a1, a2, a3, a4⟩ := append_vec (bs := 304) v4 (slice_one (n := 35) (h := h3) rfl) (by simp) (by omega) (by simp; omega) (by simp; omega)
      simp only [List.length_cons, List.length_nil, Nat.zero_add, next_push'] at a1 a2 a3
      have hc : ((i : Int) < (fs.length : Int)) := by omega
      have hw := wrap_succ (n := i) (by omega)
      have hp := l'.hp
      have step : p18arrlrbw (callB Try.prog 0 O1 (m + 2)) L kx0 (n + 1) (.int .i64 fs.length) (.int .i64 i) (.pointer (some ⟨p, 0, none⟩)) x h =
          p18arrlrbw (callB Try.prog 0 O1 (m + 2)) L kx0 n (.int .i64 fs.length) (.int .i64 ((i + 1 : Nat) : Int)) (.pointer (some ⟨p, 0, none⟩)) (.slice (some ⟨h3.next + 1, 0, none⟩) (out.length + 1) (2 * (out.length + 1))) h4 := by
        rw [← hw]
        conv => lhs; rw [p18arrlrbw]
        simp only [p18arrlrbo]
        simp [hc, hp, g1, g3, g4, g5, e29, hbs, a1]
      rw [step]
      have xh4 : Ext h (h3.push (.cells ({ fs[i].1 with w := w' } : NoteF).cells (some 35))) := x3.pushed _
      have xall : ExtBut (fun i => sid x = some i) h h4 := xh4.but.trans a4
      have htk : fs.take (i + 1) = fs.take i ++ [fs[i]] := by rw [List.take_add_one, List.getElem?_eq_getElem hlt]; rfl
      refine ih (i + 1) h4 _ _ (by omega) (by omega) ((hx.trans xh4).grow a4 hsx) a2 (fun j hj => ?_) ?_
      · simp [sid] at hj
        have h1 := hx.next
        have h2 := x3.next
        omega
      · have hfresh : ∀ j, sid w' = some j → h.next ≤ j := fun j hj => (o3 j hj).1
        have hwx : ∀ j, sid w' = some j → ¬ sid x = some j := fun j hj hxj => by
          have h1 := hfresh j hj
          have h2 := hv.slice.sid_lt j hxj
          omega
        have s4 : SliceE 2 h4 w' fs[i].2 := (s3.ext (Ext.push h3 _)).extBut a4 hwx
        have hns : nsid ({ fs[i].1 with w := w' } : NoteF).cells = sid w' := rfl
        refine ⟨⟨by rw [dsOf, List.length_map, List.length_take, List.length_append, hol, List.length_singleton]; omega, fun j y d hy hd => ?_⟩, fun y hy k hk => ?_, ?_⟩
        · by_cases hj : j < out.length
          · rw [List.getElem?_append_left hj] at hy
            have hd' : (dsOf (fs.take i))[j]? = some d := by
              rw [htk] at hd
              simp only [dsOf, List.map_append] at hd
              rw [List.getElem?_append_left (by simp; omega)] at hd
              exact hd
            obtain ⟨u, b1, b2, b3, b4, b5⟩ := how.notes.2 j y d hy hd'
            refine ⟨u, b1, b2, b3.extBut xall (fun k hk hbad => b5 k hk (.inr hbad)), b4, fun k hk hbad => ?_⟩
            rcases hbad with hbad | hbad
            · exact b5 k hk (.inl hbad)
            · simp [sid] at hbad
              have h1 := b3.sid_lt k hk
              have h2 := x3.next
              omega
          · have hj0 : j = out.length := by
              have := (List.getElem?_eq_some_iff.1 hy).1; simp at this; omega
            subst hj0
            rw [List.getElem?_append_right (Nat.le_refl _), Nat.sub_self] at hy
            simp only [List.getElem?_cons_zero, Option.some.injEq] at hy
            subst hy
            have hd' : d = (fs[i].1.cells, fs[i].2) := by
              rw [htk] at hd
              simp only [dsOf, List.map_append, List.map_cons, List.map_nil] at hd
              rw [List.getElem?_append_right (by simp; omega)] at hd
              have : out.length - (List.map (fun d => (d.1.cells, d.2)) (fs.take i)).length = 0 := by simp; omega
              rw [this] at hd
              simpa using hd.symm
            subst hd'
            refine ⟨w', rfl, rfl, s4, l1, fun k hk hbad => ?_⟩
            have h1 := hfresh k hk
            have h2 := hx.next
            rcases hbad with hbad | hbad
            · omega
            · simp [sid] at hbad
              have h3 := s3.sid_lt k hk
              omega
        · rcases List.mem_append.1 hy with hy | hy
          · obtain ⟨cs, es, hg⟩ := how.own y hy k hk
            obtain ⟨j, hj⟩ := List.mem_iff_getElem?.1 hy
            have hjl : j < (dsOf (fs.take i)).length := by rw [← how.notes.1]; exact (List.getElem?_eq_some_iff.1 hj).1
            obtain ⟨u, b1, b2, b3, b4, b5⟩ := how.notes.2 j y _ hj (List.getElem?_eq_getElem hjl)
            have hku : sid u = some k := by
              rw [b1] at hk
              simpa [nsid, b2] using hk
            refine ⟨cs, es, ?_⟩
            rw [xall.get k (b3.sid_lt k hku) (fun e => b5 k hku (.inr e))]; exact hg
          · simp at hy; subst hy
            rw [hns] at hk
            obtain ⟨_, cs, es, hg⟩ := o3 k hk
            refine ⟨cs, es, ?_⟩
            rw [a4.get k (by have := s3.sid_lt k hk; simp; omega) (hwx k hk), (Ext.push h3 _).get k (s3.sid_lt k hk)]; exact hg
        · refine List.pairwise_append.2 ⟨how.apart, by simp, fun a ha b hb k hk hkb => ?_⟩
          simp at hb; subst hb
          rw [hns] at hkb
          obtain ⟨j, hj⟩ := List.mem_iff_getElem?.1 ha
          have hjl : j < (dsOf (fs.take i)).length := by rw [← how.notes.1]; exact (List.getElem?_eq_some_iff.1 hj).1
          obtain ⟨u, b1, b2, b3, b4, b5⟩ := how.notes.2 j a _ hj (List.getElem?_eq_getElem hjl)
          have hku : sid u = some k := by
            rw [b1] at hk
            simpa [nsid, b2] using hk
          have h1 := b3.sid_lt k hku
          have h2 := hfresh k hkb
          omega
    · have hc : ¬ ((i : Int) < (fs.length : Int)) := by omega
      refine ⟨x, h, out, by simp [p18arrlrbw, p18arrlrbo, hc], hx, hv, hsx, ?_⟩
      rw [List.take_of_length_le (by omega)] at how; exact how

/-- All notes of a log, in memory of their own. -/
theorem S18 (m : Nat) {h0 h : H} {p : Nat} {v : Value} {ns : List (List Value)} {fs : List (NoteF × List (List Value))} {ops : Int} (l : LogR h0 h p v ns (dsOf fs) ops) (h60 : fs.length ≤ 60) (hm : 60 < m) :
    ∃ x h' out, callB Try.prog 0 O1 (m + 3) 18 [.pointer (some ⟨p, 0, none⟩)] h = some (x, h') ∧ Ext h h' ∧ Vec 35 h' x out ∧ (∀ j, sid x = some j → h.next ≤ j) ∧ Owns h h' out fs x := by
  rw [F18eq O1 rfl]
  have e19 := S19 (m + 1) l
  have hnl : ns.length = fs.length := by have := l.notes.1; simpa using this
  rw [hnl] at e19
  obtain ⟨x, h', out, e, hx, hv, hs, how⟩ := L18 (m := m) (L := m + 2) (kx0 := fun x3 h => some (x3, h)) l h60 (m + 2) 0 h (.slice none 0 0) [] (by omega) (by omega) (Ext.refl _) (Vec.nil _ _) (by simp [sid])
    ⟨⟨rfl, fun i y d hy => by simp at hy⟩, by simp, List.Pairwise.nil⟩
  refine ⟨x, h', out, ?_, hx, hv, hs, how⟩
  simp only [F18, p18a, p18al, p18ar, p18arl, p18arr, p18arrl, p18arrll, p18arrlr, p18arrlrb, p18arrr, e19, bnd2_some]
  exact e
end Go.Proofs.Ytlhppeikbgolbaa.RecD
