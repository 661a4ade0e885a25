/-
  RecordOf returns true: of any row of notes, op, kind. No condition.
-/
import Derived.Test.YtlhppeikbgolbaaRecS3
import Derived.Test.YtlhppeikbgolbaaRows
import Derived.Test.YtlhppeikbgolbaaAmLaw
namespace Go.Proofs.Ytlhppeikbgolbaa.RecD
open Go Go.AM

theorem placesTo_prefix (op : Int) (ks : List Int) (ds : List (List Value × List (List Value))) {i j : Nat} (h : i ≤ j) : ∃ r, placesTo op ks ds j = placesTo op ks ds i ++ r := by
  induction j with
  | zero => exact ⟨[], by rw [show i = 0 by omega]; simp⟩
  | succ j ih =>
    by_cases hij : i = j + 1
    · exact ⟨[], by rw [hij]; simp⟩
    · obtain ⟨r, hr⟩ := ih (by omega)
      unfold placesTo at hr ⊢
      rw [List.range_succ, List.filter_append, List.map_append, hr]
      exact ⟨_, List.append_assoc _ _ _⟩

/-- The next place. -/
theorem placesTo_at {op : Int} {ks : List Int} {ds : List (List Value × List (List Value))} {i : Nat} {d : List Value × List (List Value)} (hd : ds[i]? = some d) (hm : isOf op ks d.1 = true) :
    (placesTo op ks ds ds.length)[(placesTo op ks ds i).length]? = some (i : Int) ∧ (placesTo op ks ds (i + 1)).length = (placesTo op ks ds i).length + 1 := by
  have hi : i < ds.length := (List.getElem?_eq_some_iff.1 hd).1
  have h1 := placesTo_succ op ks ds i d hd
  rw [if_pos hm] at h1
  obtain ⟨r, hr⟩ := placesTo_prefix op ks ds (show i + 1 ≤ ds.length by omega)
  rw [h1] at hr
  refine ⟨by rw [hr]; simp, by rw [h1]; simp⟩

theorem step3 {C : CF} {L : Nat} {h : H} {x0 x8 x9 : Value} {fs : List (NoteF × List (List Value))} {op kd : Int} {i : Nat} (r : RowR h x0 fs) (h60 : fs.length ≤ 60)
    (s8 : SliceE 1 h x8 (intsE (placesTo op [] (dsOf fs) fs.length))) (s9 : SliceE 1 h x9 (intsE (placesTo op [kd, kd] (dsOf fs) fs.length))) (hi : i < fs.length)
    {β : Type} (kn : Value → Value → Value → Value → Value → Value → Value → Value → H → Option β) (kr : Value → H → Option β) (kx0 : Value → Value → Value → Value → H → Option β) :
    p3arrrrrlrbo C L (.int .i64 i) (.int .u8 kd) x0 (.int .i64 op) (.int .i64 (placesTo op [] (dsOf fs) i).length) x8 (.int .i64 (placesTo op [kd, kd] (dsOf fs) i).length) x9 h kn kr kx0 =
      kn (.int .i64 ((i + 1 : Nat) : Int)) (.int .u8 kd) x0 (.int .i64 op) (.int .i64 (placesTo op [] (dsOf fs) (i + 1)).length) x8 (.int .i64 (placesTo op [kd, kd] (dsOf fs) (i + 1)).length) x9 h := by
  have hlen := r.len
  have hc : ((i : Int) < (fs.length : Int)) := by omega
  have hw := wrap_succ (n := i) (by omega)
  obtain ⟨id, off, cells, own, g1, g2, g3, g4, g5, g6⟩ := r.row.at (i := i) (e := fs[i].1.cells) (by simp [hi]) .i64
  have a0 := g6 0 (by omega)
  have a1 := g6 1 (by omega)
  simp only [NoteF.cell0, NoteF.cell1, Nat.add_zero] at a0 a1
  have hds : (dsOf fs)[i]? = some (fs[i].1.cells, fs[i].2) := by simp [dsOf, hi]
  have hN : (dsOf fs).length = fs.length := by simp [dsOf]
  have hplen : ∀ ks j, (placesTo op ks (dsOf fs) j).length ≤ j := fun ks j => by
    unfold placesTo; rw [List.length_map]; exact Nat.le_trans (List.length_filter_le _ _) (by simp)
  have hint : ∀ l : List Int, (intsE l).length = l.length := fun l => by simp [intsE]
  have ho : opC fs[i].1.cells = fs[i].1.i 1 := rfl
  have hk : kdC fs[i].1.cells = fs[i].1.i 0 := rfl
  have m0 : isOf op [] fs[i].1.cells = decide (fs[i].1.i 1 = op) := by simp [isOf, ho]
  have m1 : isOf op [kd, kd] fs[i].1.cells = (decide (fs[i].1.i 1 = op) && decide (fs[i].1.i 0 = kd)) := by simp [isOf, ho, hk]
  have l8 := s8.len.1
  have l9 := s9.len.1
  rw [hint] at l8 l9
  by_cases hop : fs[i].1.i 1 = op
  · have t0 : isOf op [] fs[i].1.cells = true := by rw [m0, hop]; simp
    obtain ⟨b1, b2⟩ := placesTo_at hds t0
    rw [hN] at b1
    have c1 : (placesTo op [] (dsOf fs) i).length < (placesTo op [] (dsOf fs) fs.length).length := (List.getElem?_eq_some_iff.1 b1).1
    obtain ⟨id8, off8, cells8, own8, f1, f2, f3, f4, f5, f6⟩ := s8.at (i := (placesTo op [] (dsOf fs) i).length) (e := [.int .i64 i]) (by simp only [intsE, List.getElem?_map, b1]; rfl) .i64
    have f6' := f6 0 (by omega)
    simp only [Nat.add_zero, List.getElem?_cons_zero] at f6'
    have cge : ¬ (((placesTo op [] (dsOf fs) fs.length).length : Int) ≤ ((placesTo op [] (dsOf fs) i).length : Int)) := by omega
    have hw1 := wrap_succ (n := (placesTo op [] (dsOf fs) i).length) (by have := hplen [] i; omega)
    by_cases hkd : fs[i].1.i 0 = kd
    · have t1 : isOf op [kd, kd] fs[i].1.cells = true := by rw [m1, hop, hkd]; simp
      obtain ⟨d1, d2⟩ := placesTo_at hds t1
      rw [hN] at d1
      have e1 : (placesTo op [kd, kd] (dsOf fs) i).length < (placesTo op [kd, kd] (dsOf fs) fs.length).length := (List.getElem?_eq_some_iff.1 d1).1
      obtain ⟨id9, off9, cells9, own9, j1, j2, j3, j4, j5, j6⟩ := s9.at (i := (placesTo op [kd, kd] (dsOf fs) i).length) (e := [.int .i64 i]) (by simp only [intsE, List.getElem?_map, d1]; rfl) .i64
      have j6' := j6 0 (by omega)
      simp only [Nat.add_zero, List.getElem?_cons_zero] at j6'
      have ege : ¬ (((placesTo op [kd, kd] (dsOf fs) fs.length).length : Int) ≤ ((placesTo op [kd, kd] (dsOf fs) i).length : Int)) := by omega
      have hw2 := wrap_succ (n := (placesTo op [kd, kd] (dsOf fs) i).length) (by have := hplen [kd, kd] i; omega)
      rw [b2, d2, ← hw, ← hw1, ← hw2]
      simp [p3arrrrrlrbo, p3arrrrrlrbol, p3arrrrrlrbor, p3arrrrrlrborl, p3arrrrrlrborlb, p3arrrrrlrborlbl, p3arrrrrlrborlbr, p3arrrrrlrborlbrl, p3arrrrrlrborlbrr, p3arrrrrlrborlbrrl, p3arrrrrlrborlbrrr, p3arrrrrlrborlbrrrl, p3arrrrrlrborlbrrrr, p3arrrrrlrborlbrrrrt, p3arrrrrlrborr,
        hlen, hc, g1, g3, a0, a1, hop, hkd, l8, l9, cge, ege, f1, f3, f6', j1, j3, j6']
    · have t1 : ¬ isOf op [kd, kd] fs[i].1.cells = true := by rw [m1, hop]; simp [hkd]
      have d2 := placesTo_succ op [kd, kd] (dsOf fs) i _ hds
      rw [if_neg t1] at d2
      rw [b2, d2, ← hw, ← hw1]
      simp [p3arrrrrlrbo, p3arrrrrlrbol, p3arrrrrlrbor, p3arrrrrlrborl, p3arrrrrlrborlb, p3arrrrrlrborlbl, p3arrrrrlrborlbr, p3arrrrrlrborlbrl, p3arrrrrlrborlbrr, p3arrrrrlrborlbrrl, p3arrrrrlrborlbrrr, p3arrrrrlrborlbrrrl, p3arrrrrlrborlbrrrr, p3arrrrrlrborlbrrrrf, p3arrrrrlrborr,
        hlen, hc, g1, g3, a0, a1, hop, hkd, l8, l9, cge, f1, f3, f6']
  · have t0 : ¬ isOf op [] fs[i].1.cells = true := by rw [m0]; simp [hop]
    have t1 : ¬ isOf op [kd, kd] fs[i].1.cells = true := by rw [m1]; simp [hop]
    have b2 := placesTo_succ op [] (dsOf fs) i _ hds
    have d2 := placesTo_succ op [kd, kd] (dsOf fs) i _ hds
    rw [if_neg t0] at b2
    rw [if_neg t1] at d2
    rw [b2, d2, ← hw]
    simp [p3arrrrrlrbo, p3arrrrrlrbol, p3arrrrrlrbor, p3arrrrrlrborl, p3arrrrrlrborlb, p3arrrrrlrborlbl, p3arrrrrlrborr, hlen, hc, g1, g3, a1, hop]

theorem L3 {C : CF} {L : Nat} {β : Type} {kr : Value → H → Option β} {kx0 : Value → Value → Value → Value → H → Option β} {h : H} {x0 x8 x9 : Value} {fs : List (NoteF × List (List Value))} {op kd : Int} (r : RowR h x0 fs) (h60 : fs.length ≤ 60)
    (s8 : SliceE 1 h x8 (intsE (placesTo op [] (dsOf fs) fs.length))) (s9 : SliceE 1 h x9 (intsE (placesTo op [kd, kd] (dsOf fs) fs.length))) :
    ∀ (n i : Nat), i ≤ fs.length → fs.length - i < n →
    p3arrrrrlrbw C L kr kx0 n (.int .i64 i) (.int .u8 kd) x0 (.int .i64 op) (.int .i64 (placesTo op [] (dsOf fs) i).length) x8 (.int .i64 (placesTo op [kd, kd] (dsOf fs) i).length) x9 h =
      kx0 (.int .i64 (placesTo op [] (dsOf fs) fs.length).length) x8 (.int .i64 (placesTo op [kd, kd] (dsOf fs) fs.length).length) x9 h := by
  intro n
  induction n with
  | zero => intro i _ h1; omega
  | succ n ih =>
    intro i hi hn
    by_cases hlt : i < fs.length
    · rw [p3arrrrrlrbw, step3 r h60 s8 s9 hlt]
      exact ih (i + 1) (by omega) (by omega)
    · have hc : ¬ ((i : Int) < (fs.length : Int)) := by omega
      have hi' : i = fs.length := by omega
      rw [← hi']
      simp [p3arrrrrlrbw, p3arrrrrlrbo, p3arrrrrlrbol, r.len, hc]

/-- The law. -/
theorem S3 {h : H} {x0 : Value} {op kd : Int} {fs : List (NoteF × List (List Value))} (r : RowR h x0 fs) (hm : fs.length ≤ maxLen) :
    ∃ n h', callB Try.prog 0 O1 n 3 [x0, .int .i64 op, .int .u8 kd] h = some (.bool true, h') := by
  refine ⟨fs.length + 100 + 1, ?_⟩
  rw [F3eq O1 rfl]
  obtain ⟨n, hn⟩ : ∃ n, n = fs.length + 100 := ⟨_, rfl⟩
  rw [← hn]
  obtain ⟨b, h1, e9, x1, hb⟩ := S9 (n - 1) r hm (by omega)
  rw [show n - 1 + 1 = n by omega] at e9
  have aw : ∀ h, callB Try.prog 0 O1 n 10 [] h = some (.bool true, h) := fun h => by
    rw [show n = (n - 1) + 1 by omega]; rfl
  simp only [F3, p3a, p3al, p3ar, p3arl, e9, Option.bind_some, toBK_bool]
  cases b with
  | true => exact ⟨h1, by simp [aw]⟩
  | false =>
    obtain ⟨h60, h20⟩ := hb rfl
    have r1 := r.ext x1
    obtain ⟨p, h2, v, ns, ops, e11, l, x2⟩ := S11 (n - 4) r1 h60 h20 (by omega)
    rw [show n - 4 + 4 = n by omega] at e11
    have hds : (dsOf fs).length = fs.length := by simp [dsOf]
    have hhd : ∀ d ∈ dsOf fs, Head d.1 := by
      intro d hd
      obtain ⟨f, _, rfl⟩ := List.mem_map.1 hd
      exact ⟨rfl, rfl⟩
    obtain ⟨y8, h3, e12, x3, v8⟩ := S12 (n - 4) (op := op) (kv := .slice none 0 0) (ks := []) l (by omega) hhd ⟨by simp [bytesE], .inl ⟨rfl, rfl⟩⟩ (by simp) (by simp; omega) (by omega)
    rw [show n - 4 + 4 = n by omega] at e12
    -- the kinds
    have hbs : A.buildSlice 1 2 Z5L [(0, 1, .int .u8 kd), (1, 1, .int .u8 kd)] h3 = some (.slice (some ⟨h3.next, 0, none⟩) 2 5, h3.push (.cells [.int .u8 kd, .int .u8 kd] (some 1))) := rfl
    have sk : SliceE 1 (h3.push (.cells [.int .u8 kd, .int .u8 kd] (some 1))) (.slice (some ⟨h3.next, 0, none⟩) 2 5) (bytesE [kd, kd]) :=
      ⟨by simp [bytesE], .inr ⟨h3.next, 0, 5, rfl, by simp [bytesE], by simp, fun _ => ⟨[.int .u8 kd, .int .u8 kd], some 1, by simp [H.get_push], by simp [bytesE], by simp [bytesE]⟩⟩⟩
    obtain ⟨y9, h4, e12', x4, v9⟩ := S12 (n - 4) (op := op) (ks := [kd, kd]) (l.ext (x3.trans (Ext.push _ _))) (by omega) hhd sk (by simp) (by simp; omega) (by omega)
    rw [show n - 4 + 4 = n by omega] at e12'
    rw [hds] at v8 v9
    have x34 : Ext h3 h4 := (Ext.push _ _).trans x4
    have r4 := r1.ext ((x2.trans x3).trans x34)
    have l3 := L3 (C := callB Try.prog 0 O1 n) (L := n) (kr := fun x6 h => some (x6, h)) (kx0 := fun x10 x8 x11 x9 h => p3arrrrrr (callB Try.prog 0 O1 n) n x10 x8 x11 x9 h fun x6 h => some (x6, h)) r4 h60 (v8.slice.ext x34) v9.slice n 0 (by omega) (by omega)
    have z0 : ∀ ks, placesTo op ks (dsOf fs) 0 = [] := fun ks => by simp [placesTo]
    simp only [z0, List.length_nil] at l3
    have hint : ∀ l : List Int, (intsE l).length = l.length := fun l => by simp [intsE]
    have l8 := v8.slice.len.1
    have l9 := v9.slice.len.1
    rw [hint] at l8 l9
    refine ⟨h4, ?_⟩
    simp only [cond_false, p3arr, p3arrl, e11, Option.bind_some, p3arrr, p3arrrl, e12, hbs, e12', p3arrrr, p3arrrrl, p3arrrrr, p3arrrrrl, p3arrrrrll, p3arrrrrlr, p3arrrrrlrb]
    refine l3.trans ?_
    simp [p3arrrrrr, l8, l9, aw]
end Go.Proofs.Ytlhppeikbgolbaa.RecD

namespace Go.Proofs.Ytlhppeikbgolbaa.recordOf
open Go Go.AM Go.RowKit Go.ChangeShapes Go.WideShapes Go.ChangeAt

theorem own : ownKnob Try.prog.godebug = none := by kernel_rfl
theorem zeros : zerosPlain Try.prog = true := by kernel_rfl
theorem mixed : Try.prog.follows .mixedOrders = true := by kernel_rfl
theorem names : namesOK Try.prog = true := by kernel_rfl
theorem awake : ClosedTrue Try.prog 10 :=
  closedTrue (n := 100) zeros mixed names ⟨Try.f10, RecD.c10a, Try.func10, by kernel_rfl, by decide +kernel⟩ (by kernel_rfl)

theorem run (h : AM.H) (xs : List Value) (_ : Go.AM.Start h) (ty : TyAll Try.prog h [22, 3, 5] xs) : ∃ n h', callB Try.prog 0 RecD.O1 n 3 xs h = some (.bool true, h') := by
  match xs, ty with
  | [a, b, c], ⟨t1, t2, t3, _⟩ =>
    obtain ⟨fs, r, hm⟩ := RecD.row_open t1
    cases t2 with
    | agg hu _ => rw [Try.underlying3] at hu; simp at hu
    | one _ ty2 =>
      obtain ⟨op, e2, _⟩ := ty2.int_inv Try.underlying3
      cases t3 with
      | agg hu _ => rw [Try.underlying5] at hu; simp at hu
      | one _ ty3 =>
        obtain ⟨kd, e3, _⟩ := ty3.int_inv Try.underlying5
        simp only [List.cons.injEq, and_true] at e2 e3
        subst e2; subst e3
        exact RecD.S3 r hm

set_option maxRecDepth 100000 in
theorem lifted (os : Os) (started : os.Started) (H : Type) (enc : TypeId × Value → H) :
    ReturnsInHanded {} Try.checked os 3 .any (Rows.recordOfSpec.pre6 enc Try.prog Try.f3 Rows.recordOfRow.domain false) (Rows.recordOfSpec.post enc Try.prog Try.f3 false true false false) :=
  law_lifted (C := Try.checked) (ts := [22, 3, 5]) (tb := 4) (O := RecD.O1) (n := 8) own started (by kernel_rfl) Try.func3
    (ChangeSpec.witness6 (enc := enc) (C := Try.checked) false ⟨#[], #[.slice none 0 0, .int .i64 0, .int .u8 0], []⟩ 8 (by kernel_rfl) (by kernel_rfl) (by kernel_rfl) (by kernel_rfl))
    (by kernel_rfl) (by kernel_rfl) (by kernel_rfl) Try.underlying4 rfl
    (fun ds hd => by match ds, hd with | [a, b, c], _ => exact ⟨rfl, rfl, rfl⟩)
    (by kernel_rfl) (by kernel_rfl) (by kernel_rfl) zeros mixed names (fun f hf => by simp at hf; subst hf; exact awake) run

theorem over : Rows.recordOfRow.holds Try.pinned (OpenSpec.ofChange Rows.recordOfSpec) :=
  OpenClaim.holds_of_wide 3 Try.f3 rfl rfl rfl rfl rfl rfl rfl ⟨rfl, rfl, rfl, rfl, rfl⟩ rfl rfl rfl rfl rfl (by kernel_rfl) Try.func3 (by kernel_rfl)
    (of_decide_eq_true (by kernel_rfl)) (by unfold Func.isWrapper; first | (rw [if_pos (by decide +kernel)]; kernel_rfl) | (rw [if_neg (by decide +kernel)]; exact ⟨rfl, rfl⟩))
    (fun os started H enc _ => lifted os started H enc)

theorem proved : Rows.RecordOfSaid := over
#print axioms proved
end Go.Proofs.Ytlhppeikbgolbaa.recordOf
