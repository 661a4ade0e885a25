/-
  RecordTells returns true: of any row of notes, place, op, kinds. No condition.
-/
import Derived.Test.YtlhppeikbgolbaaRecS8
import Derived.Test.YtlhppeikbgolbaaRows
import Derived.Test.YtlhppeikbgolbaaAmLaw
namespace Go.Proofs.Ytlhppeikbgolbaa.RecD
open Go Go.AM

theorem EqN.refl (f : NoteF) (w : Value) : EqN { f with w := w } f := by
  simp [EqN, EqP]

/-- The document's log is filled. -/
theorem L4 {m L : Nat} {β : Type} {kx : Value → Value → Value → Value → Value → Value → H → Option β} {h0 h1 : H} {p : Nat} {x0 x1 x2 x3 x9 : Value} {fs : List (NoteF × List (List Value))} (r : RowR h0 x0 fs) (hx1 : Ext h0 h1)
    (h60 : fs.length ≤ 60) (h20 : ∀ d ∈ fs, d.2.length ≤ 20) :
    ∀ (n i : Nat) (h : H) (v : Value) (ns : List (List Value)), i ≤ fs.length → fs.length - i < n → Ext h1 h → LogR h1 h p v ns (dsOf (fs.take i)) 0 →
    ∃ h' v' ns', p4arrrrlrbw (callB Try.prog 0 O1 (m + 1)) L kx n (.int .i64 i) x0 x1 x3 x9 (.pointer (some ⟨p, 0, none⟩)) x2 h = kx x0 x1 x3 x9 (.pointer (some ⟨p, 0, none⟩)) x2 h' ∧ LogR h1 h' p v' ns' (dsOf fs) 0 ∧ Ext h1 h' := by
  intro n
  induction n with
  | zero => intro i h v ns _ h1; omega
  | succ n ih =>
    intro i h v ns hi hn hx l
    have hlen := r.len
    by_cases hlt : i < fs.length
    · have hc : ((i : Int) < (fs.length : Int)) := by omega
      have hw := wrap_succ (n := i) (by omega)
      have r' := r.ext (hx1.trans hx)
      obtain ⟨id, off, cells, own, g1, g2, g3, g4, g5, g6⟩ := r'.row.at (i := i) (e := fs[i].1.cells) (by simp [hlt]) .i64
      obtain ⟨ss, _⟩ := r'.subs fs[i] (List.getElem_mem _)
      have hsub := h20 fs[i] (List.getElem_mem _)
      obtain ⟨w', h3, e1, s1, x1', i1⟩ := S14 m h fs[i].1.cells fs[i].1.w fs[i].2 rfl rfl ss hsub
      have hset : fs[i].1.cells.set 26 w' = ({ fs[i].1 with w := w' } : NoteF).cells := rfl
      rw [hset] at e1
      have l3 := l.ext x1'
      obtain ⟨h4, v', e2, l4, x2'⟩ := S13 m l3 (hx.trans x1') (by simp [dsOf]; omega) (cs := ({ fs[i].1 with w := w' } : NoteF).cells) (w := w') (els := fs[i].2) rfl rfl s1 hsub (fun j hj => by
        have h1 := (i1 j hj).1
        refine ⟨fun e => ?_, fun e => ?_⟩
        · have := l.p1; omega
        · have := l.vec.slice.sid_lt j e; omega)
      have htk : dsOf (fs.take (i + 1)) = dsOf (fs.take i) ++ [(fs[i].1.cells, fs[i].2)] := by
        simp only [dsOf, List.take_add_one, List.getElem?_eq_getElem hlt, Option.toList_some, List.map_append, List.map_cons, List.map_nil]
      have l4' : LogR h1 h4 p v' (ns ++ [({ fs[i].1 with w := w' } : NoteF).cells]) (dsOf (fs.take (i + 1))) 0 := by
        rw [htk]
        refine ⟨l4.hp, l4.p0, l4.p1, l4.vec, l4.v0, ⟨by have := l4.notes.1; simpa using this, fun j y d hy hd => ?_⟩⟩
        by_cases hj : j < (dsOf (fs.take i)).length
        · refine l4.notes.2 j y d hy ?_
          rw [List.getElem?_append_left hj] at hd ⊢; exact hd
        · rw [List.getElem?_append_right (by omega)] at hd
          have hj0 : j - (dsOf (fs.take i)).length = 0 := by
            have := (List.getElem?_eq_some_iff.1 hd).1; simp at this ⊢; omega
          rw [hj0] at hd
          simp only [List.getElem?_cons_zero, Option.some.injEq] at hd
          subst hd
          obtain ⟨w2, y1, y2, y3, y4, y5⟩ := l4.notes.2 j y (({ fs[i].1 with w := w' } : NoteF).cells, fs[i].2) hy (by rw [List.getElem?_append_right (by omega), hj0]; rfl)
          exact ⟨w2, y1, rfl, y3, y4, y5⟩
      obtain ⟨h5, v5, ns5, e5, l5, x5⟩ := ih (i + 1) h4 v' _ (by omega) (by omega) x2' l4'
      refine ⟨h5, v5, ns5, ?_, l5, x5⟩
      rw [← e5, p4arrrrlrbw, ← hw]
      simp only [p4arrrrlrbo]
      simp [hlen, hc, g1, g3, g4, g5, e1, e2]
    · have hc : ¬ ((i : Int) < (fs.length : Int)) := by omega
      refine ⟨h, v, ns, ?_, ?_, hx⟩
      · simp [p4arrrrlrbw, p4arrrrlrbo, hlen, hc]
      · rw [List.take_of_length_le (by omega)] at l; exact l

/-- The note at a place. -/
theorem Q4at {n : Nat} {h0 h1 h : H} {p : Nat} {x0 x2 x3 x10 v : Value} {place : Int} {fs : List (NoteF × List (List Value))} {ns : List (List Value)} {ops : Int} (r : RowR h x0 fs) (h20 : ∀ d ∈ fs, d.2.length ≤ 20)
    (l : LogR h0 h p v ns (dsOf fs) ops) (hn : 40 ≤ n) {β : Type} (kr : Value → H → Option β) :
    ∃ h', Ext h h' ∧ p4arrrrr (callB Try.prog 0 O1 n) n x0 (.int .i64 place) x3 (.pointer (some ⟨p, 0, none⟩)) x10 x2 h kr = p4arrrrrrr (callB Try.prog 0 O1 n) n x3 (.pointer (some ⟨p, 0, none⟩)) x10 x2 h' kr := by
  have hnl : ns.length = fs.length := by have := l.notes.1; simpa using this
  have hz := cells36
  have hb := build36
  have hlen := fun h' (x : Ext h h') => (r.ext x).len
  have three := show n - 3 + 3 = n by omega
  -- behind the note's laying
  have lay : ∀ (h2 : H) (f : NoteF) (b : Bool), callB Try.prog 0 O1 n 15 [.pointer (some ⟨p, 0, none⟩), .int .i64 place] h = some (.tuple ⟨[.agg ⟨f.cells⟩, .bool b]⟩, h2) → Ext h h2 →
      ∃ h3 t, Ext h h3 ∧ Ext h2 h3 ∧ h3.get t = some (.cells f.cells (some 0)) ∧ t < h3.next ∧ ∀ (kn : Value → Value → Value → Value → Value → Value → Value → Value → H → Option β), p4arrrrrl (callB Try.prog 0 O1 n) n x0 (.int .i64 place) x3 (.pointer (some ⟨p, 0, none⟩)) x10 x2 h kn =
        kn x0 (.int .i64 place) (.bool b) (.pointer (some ⟨t, 0, none⟩)) x3 (.pointer (some ⟨p, 0, none⟩)) x10 x2 h3 := by
    intro h2 f b e15 x2'
    have hs := spliceZ f
    obtain ⟨h3, hh3⟩ : ∃ h3, h3 = (h2.push (.cells noteZ.cells (some 0))).put h2.next (.cells f.cells (some 0)) := ⟨_, rfl⟩
    have x3' : Ext h2 h3 := by rw [hh3]; exact (Ext.push _ _).put _ _ (Nat.le_refl _)
    refine ⟨h3, h2.next, x2'.trans x3', x3', by rw [hh3]; simp [H.get_put], by rw [hh3]; simp, fun kn => ?_⟩
    simp only [p4arrrrrl]
    simp [e15, A.extract, hz, H.get_push, hs]
    rw [← hh3]
  by_cases hin : 0 ≤ place ∧ place < (fs.length : Int)
  · obtain ⟨i, hi⟩ : ∃ i : Nat, place = (i : Int) := ⟨place.toNat, by omega⟩
    subst hi
    have hlt : i < fs.length := by omega
    obtain ⟨w1, h2, e15, s1, x2', _⟩ := S15 (n - 3) l hlt
    rw [three] at e15
    obtain ⟨h3, t, x3, x23, gt, htl, q⟩ := lay h2 _ true e15 x2'
    obtain ⟨id, off, cells, own, g1, g2, g3, g4, g5, g6⟩ := (r.ext x3).row.at (i := i) (e := fs[i].1.cells) (by simp [hlt]) .i64
    obtain ⟨ss, sT⟩ := r.subs fs[i] (List.getElem_mem _)
    have hsub := h20 fs[i] (List.getElem_mem _)
    have tk := take35 ({ fs[i].1 with w := w1 } : NoteF)
    obtain ⟨b1, h4, e16, x4, i16⟩ := S16 (n - 2) (f := { fs[i].1 with w := w1 }) (g := fs[i].1) (s1.ext x23) (ss.ext x3) sT sT (by omega) (by omega)
    have b1t : b1 = true := i16.2 ⟨EqN.refl _ _, rfl⟩
    subst b1t
    rw [show n - 2 + 2 = n by omega] at e16
    refine ⟨h4, x3.trans x4, ?_⟩
    have c0 : ((0 : Int) ≤ (i : Int)) := by omega
    have hl := hlen h3 x3
    rw [p4arrrrr, q, p4arrrrrr, p4arrrrrrl]
    simp only [p4arrrrrrll]
    simp [hlt, hl, bin_bool_neq Try.underlying4, gt, tk, g1, g3, g4, g5, e16, p4arrrrrrlr]
  · obtain ⟨h2, e15, x2'⟩ := S15out (n - 3) l (place := place) (by omega)
    rw [three] at e15
    obtain ⟨h3, t, x3, x23, gt, htl, q⟩ := lay h2 noteZ false e15 x2'
    have sz : ∀ h, SliceE 2 h noteZ.w [] := fun h => ⟨by simp, .inl ⟨rfl, rfl⟩⟩
    have tk := take35 noteZ
    obtain ⟨b1, h4, e16, x4, i16⟩ := S16 (n - 2) (h := h3) (f := noteZ) (g := noteZ) (sz h3) (sz h3) (by intro x hx; simp at hx) (by intro x hx; simp at hx) (by simp; omega) (by simp)
    have b1t : b1 = true := i16.2 ⟨by simp [EqN, EqP], rfl⟩
    subst b1t
    rw [show n - 2 + 2 = n by omega] at e16
    refine ⟨h4, x3.trans x4, ?_⟩
    have hl := hlen h3 x3
    rw [p4arrrrr, q, p4arrrrrr, p4arrrrrrl]
    simp only [p4arrrrrrll]
    by_cases c0 : 0 ≤ place
    · have c1 : ¬ place < (fs.length : Int) := by omega
      simp [c0, c1, hl, bin_bool_neq Try.underlying4, gt, tk, hb, e16, p4arrrrrrlr]
    · simp [c0, bin_bool_neq Try.underlying4, gt, tk, hb, e16, p4arrrrrrlr]

theorem S4 {h : H} {x0 x3 : Value} {place op : Int} {fs : List (NoteF × List (List Value))} {ks : List Int} (r : RowR h x0 fs) (hm : fs.length ≤ maxLen) (s : SliceE 1 h x3 (bytesE ks)) :
    ∃ n h', callB Try.prog 0 O1 n 4 [x0, .int .i64 place, .int .i64 op, x3] h = some (.bool true, h') := by
  refine ⟨fs.length + 200 + 1, ?_⟩
  rw [F4eq O1 rfl]
  obtain ⟨n, hn⟩ : ∃ n, n = fs.length + 200 := ⟨_, rfl⟩
  rw [← hn]
  obtain ⟨b, h1, e9, x1', hb⟩ := S9 (n - 1) r hm (by omega)
  rw [show n - 1 + 1 = n by omega] at e9
  have aw : ∀ h, callB Try.prog 0 O1 n 10 [] h = some (.bool true, h) := fun h => by
    rw [show n = (n - 1) + 1 by omega]; rfl
  have hintB : (bytesE ks).length = ks.length := by simp [bytesE]
  have lk := (s.ext x1').len.1
  rw [hintB] at lk
  simp only [F4, p4a, p4al, p4ar, p4arl, e9, bnd2_some, toBK_bool]
  cases b with
  | true => exact ⟨h1, by simp [aw]⟩
  | false =>
    by_cases hk20 : (20 : Int) < (ks.length : Int)
    · exact ⟨h1, by simp [lk, hk20, aw]⟩
    · obtain ⟨h60, h20⟩ := hb rfl
      have r1 := r.ext x1'
      obtain ⟨p, h2, v, ns, ops, e11, l, x2⟩ := S11 (n - 4) r1 h60 h20 (by omega)
      rw [show n - 4 + 4 = n by omega] at e11
      have hds : (dsOf fs).length = fs.length := by simp [dsOf]
      have hhd : ∀ d ∈ dsOf fs, Head d.1 := by
        intro d hd
        obtain ⟨f, _, rfl⟩ := List.mem_map.1 hd
        exact ⟨rfl, rfl⟩
      have hT : ∀ d ∈ fs, SubsT d.2 := fun d hd => (r.subs d hd).2
      -- the document's log
      have hbz : A.build Z41L [] = some (.agg ⟨[.slice none 0 0, .int .i64 0]⟩) := by kernel_rfl
      obtain ⟨h3, v3, ns3, e3, l3, x3'⟩ := L4 (m := n - 1) (L := n) (kx := fun x0 x1 x3 x9 x10 x2 h => p4arrrrr (callB Try.prog 0 O1 n) n x0 x1 x3 x9 x10 x2 h fun x8 h => some (x8, h)) (x1 := .int .i64 place) (x2 := .int .i64 op) (x3 := x3) (x9 := .pointer (some ⟨p, 0, none⟩))
        (r1.ext x2) (Ext.refl h2) h60 h20 n 0 _ _ _ (by omega) (by omega) (Ext.push h2 _) (LogR.new h2)
      rw [show n - 1 + 1 = n by omega] at e3
      have c0 : ((0 : Nat) : Int) = 0 := rfl
      rw [c0] at e3
      have l' := l.ext x3'
      obtain ⟨h4, x4, e4⟩ := Q4at (n := n) (x2 := .int .i64 op) (x3 := x3) (x10 := .pointer (some ⟨h2.next, 0, none⟩)) (place := place) (h1 := h) (r1.ext (x2.trans x3')) h20 l' (by omega) (fun x8 h => some (x8, h))
      -- all of it
      have l4 := l'.ext x4
      have l34 := l3.ext x4
      obtain ⟨y, h5, outs, e18, x5, v5, _, how⟩ := S18 (n - 3) l4 h60 (by omega)
      rw [show n - 3 + 3 = n by omega] at e18
      have no : Notes h5 outs (dsOf fs) (fun _ => False) := ⟨how.notes.1, fun i x d hx hd => by
        obtain ⟨w, a1, a2, a3, a4, _⟩ := how.notes.2 i x d hx hd
        exact ⟨w, a1, a2, a3, a4, fun _ _ hf => hf⟩⟩
      have l35 := l34.ext x5
      have nr : Notes h5 ns3 (dsOf fs) (fun _ => False) := ⟨l35.notes.1, fun i x d hx hd => by
        obtain ⟨w, a1, a2, a3, a4, _⟩ := l35.notes.2 i x d hx hd
        exact ⟨w, a1, a2, a3, a4, fun _ _ hf => hf⟩⟩
      obtain ⟨h6, e17, x6⟩ := S17 (n - 3) (by omega) v5.slice l35.vec.slice no nr hT h60
      rw [show n - 3 + 3 = n by omega] at e17
      have l46 := l4.ext (x5.trans x6)
      have l36 := l35.ext x6
      have e19 := S19 (n - 1) l46
      rw [show n - 1 + 1 = n by omega] at e19
      have hnl : ns.length = fs.length := by have := l.notes.1; simpa using this
      have hnl3 : ns3.length = fs.length := by have := l3.notes.1; simpa using this
      have len3 := l36.vec.slice.len.1
      have s6 := s.ext ((((x1'.trans x2).trans x3').trans x4).trans (x5.trans x6))
      obtain ⟨y1, h7, e12, x7, v7⟩ := S12 (n - 4) (op := op) l46 (by omega) hhd s6 (by omega) (by omega) (by omega)
      rw [show n - 4 + 4 = n by omega] at e12
      have l37 := l36.ext x7
      obtain ⟨y2, h8, e21, x8, v8⟩ := S21 (n - 1) (op := op) l37 (by omega) hhd (s6.ext x7) (by omega) (by omega) (by omega)
      rw [show n - 1 + 1 = n by omega] at e21
      have hpl : ∀ ks, (placesTo op ks (dsOf fs) (dsOf fs).length).length ≤ 60 := fun ks => by
        unfold placesTo; rw [List.length_map]; exact Nat.le_trans (List.length_filter_le _ _) (by simp [hds]; omega)
      have e20 := S20 (n - 1) (v7.slice.ext x8) v8.slice (by have := hpl ks; omega) (by have := hpl ks; omega)
      rw [show n - 1 + 1 = n by omega] at e20
      have snil : ∀ h, SliceE 1 h (.slice none 0 0) (bytesE []) := fun h => ⟨by simp [bytesE], .inl ⟨rfl, rfl⟩⟩
      obtain ⟨y3, h9, e12', x9, v9⟩ := S12 (n - 4) (op := op) (l46.ext (x7.trans x8)) (by omega) hhd (snil h8) (by simp) (by simp; omega) (by omega)
      rw [show n - 4 + 4 = n by omega] at e12'
      obtain ⟨y4, h10, e21', x10, v10⟩ := S21 (n - 1) (op := op) (l37.ext (x8.trans x9)) (by omega) hhd (snil h9) (by simp) (by simp; omega) (by omega)
      rw [show n - 1 + 1 = n by omega] at e21'
      have e20' := S20 (n - 1) (v9.slice.ext x10) v10.slice (by have := hpl []; omega) (by have := hpl []; omega)
      rw [show n - 1 + 1 = n by omega] at e20'
      have same3 := l3.vec.slice.same
      have hp4 := l34.hp
      have hp5 := l35.hp
      have hp6 := l36.hp
      refine ⟨h10, ?_⟩
      simp only [cond_false, lk, bnd_some, bin_gtr, hk20, decide_false, toBK_bool, p4arr, p4arrl, e11, bnd2_some, p4arrr, p4arrrl, hbz, box_eq, cellsL_agg, List.length_cons, List.length_nil, Nat.zero_add, Nat.reduceAdd, beq_dec', decide_true, cond_true, p4arrrr, p4arrrrl, p4arrrrll, p4arrrrlr, p4arrrrlrb]
      refine e3.trans ?_
      refine e4.trans ?_
      simp only [p4arrrrrrr, p4arrrrrrrl]
      simp [e18, hp4, hp5, hp6, chk, same3, e17, e19, len3, hnl, hnl3, e12, e21, e20, e12', e21', e20', aw, p4arrrrrrrr]

theorem bytes_open {h : H} {v : Value} (ty : TyV Try.prog h 38 v) : ∃ bs : List Int, SliceE 1 h v (bytesE bs) ∧ bs.length ≤ maxLen := by
  cases ty with
  | agg hu _ => rw [Try.underlying38] at hu; simp at hu
  | one hu ty =>
    obtain ⟨v', els, hv, hs, hm, he⟩ := ty.slice_inv Try.underlying38
    simp only [List.cons.injEq, and_true] at hv
    subst hv
    have hc : Try.prog.cellsOf 5 = 1 := by kernel_rfl
    rw [hc] at hs
    have key : ∀ els : List (List Value), (∀ x ∈ els, Ty Try.prog h 5 x) → ∃ bs : List Int, els = bytesE bs := by
      intro els
      induction els with
      | nil => intro _; exact ⟨[], rfl⟩
      | cons x els ih =>
        intro hx
        obtain ⟨bs, h1⟩ := ih fun y hy => hx y (by simp [hy])
        obtain ⟨b, hb, hw⟩ := (hx x (by simp)).int_inv Try.underlying5
        exact ⟨b :: bs, by rw [h1, hb]; rfl⟩
    obtain ⟨bs, h1⟩ := key els he
    subst h1
    exact ⟨bs, hs, by simpa [bytesE] using hm⟩

theorem recordTellsRun (h : AM.H) (xs : List Value) (_ : Go.AM.Start h) (ty : TyAll Try.prog h [22, 3, 3, 38] xs) : ∃ n h', callB Try.prog 0 O1 n 4 xs h = some (.bool true, h') := by
  match xs, ty with
  | [a, b, c, d], ⟨t1, t2, t3, t4, _⟩ =>
    obtain ⟨fs, r, hm⟩ := row_open t1
    obtain ⟨ks, s, _⟩ := bytes_open t4
    have int3 : ∀ v, TyV Try.prog h 3 v → ∃ k, v = .int .i64 k := by
      intro v t
      cases t with
      | agg hu _ => rw [Try.underlying3] at hu; simp at hu
      | one _ ty =>
        obtain ⟨k, e, _⟩ := ty.int_inv Try.underlying3
        simp only [List.cons.injEq, and_true] at e
        exact ⟨k, e⟩
    obtain ⟨k1, rfl⟩ := int3 b t2
    obtain ⟨k2, rfl⟩ := int3 c t3
    exact S4 r hm s
end Go.Proofs.Ytlhppeikbgolbaa.RecD

namespace Go.Proofs.Ytlhppeikbgolbaa.recordTells
open Go Go.AM Go.RowKit Go.ChangeShapes Go.WideShapes Go.ChangeAt

theorem own : ownKnob Try.prog.godebug = none := by kernel_rfl
theorem zeros : zerosPlain Try.prog = true := by kernel_rfl
theorem mixed : Try.prog.follows .mixedOrders = true := by kernel_rfl
theorem names : namesOK Try.prog = true := by kernel_rfl
theorem awake : ClosedTrue Try.prog 10 :=
  closedTrue (n := 100) zeros mixed names ⟨Try.f10, RecD.c10a, Try.func10, by kernel_rfl, by decide +kernel⟩ (by kernel_rfl)

set_option maxRecDepth 100000 in
theorem lifted (os : Os) (started : os.Started) (H : Type) (enc : TypeId × Value → H) :
    ReturnsInHanded {} Try.checked os 4 .any (Rows.recordTellsSpec.pre6 enc Try.prog Try.f4 Rows.recordTellsRow.domain false) (Rows.recordTellsSpec.post enc Try.prog Try.f4 false true false false) :=
  law_lifted (C := Try.checked) (ts := [22, 3, 3, 38]) (tb := 4) (O := RecD.O1) (n := 8) own started (by kernel_rfl) Try.func4
    (ChangeSpec.witness6 (enc := enc) (C := Try.checked) false ⟨#[], #[.slice none 0 0, .int .i64 0, .int .i64 0, .slice none 0 0], []⟩ 8 (by kernel_rfl) (by kernel_rfl) (by kernel_rfl) (by kernel_rfl))
    (by kernel_rfl) (by kernel_rfl) (by kernel_rfl) Try.underlying4 rfl
    (fun ds hd => by match ds, hd with | [d0, d1, d2, d3], _ => exact ⟨rfl, rfl, rfl⟩)
    (by kernel_rfl) (by kernel_rfl) (by kernel_rfl) zeros mixed names (fun f hf => by simp at hf; subst hf; exact awake) RecD.recordTellsRun

theorem over : Rows.recordTellsRow.holds Try.pinned (OpenSpec.ofChange Rows.recordTellsSpec) :=
  OpenClaim.holds_of_wide 4 Try.f4 rfl rfl rfl rfl rfl rfl rfl ⟨rfl, rfl, rfl, rfl, rfl⟩ rfl rfl rfl rfl rfl (by kernel_rfl) Try.func4 (by kernel_rfl)
    (of_decide_eq_true (by kernel_rfl)) (by unfold Func.isWrapper; first | (rw [if_pos (by decide +kernel)]; kernel_rfl) | (rw [if_neg (by decide +kernel)]; exact ⟨rfl, rfl⟩))
    (fun os started H enc _ => lifted os started H enc)

theorem proved : Rows.RecordTellsSaid := over
#print axioms proved
end Go.Proofs.Ytlhppeikbgolbaa.recordTells
