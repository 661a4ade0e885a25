/-
  RecordSame returns true: of any two notes. No condition.
-/
import Derived.Test.YtlhppeikbgolbaaRecS6
import Derived.Test.YtlhppeikbgolbaaRows
import Derived.Test.YtlhppeikbgolbaaAmLaw
namespace Go.Proofs.Ytlhppeikbgolbaa.RecD
open Go Go.AM

theorem two_slice (h : H) (f g : NoteF) : SliceE 35 (h.push (.cells (f.cells ++ g.cells) (some 35))) (.slice (some ⟨h.next, 0, none⟩) 2 5) [f.cells, g.cells] :=
  ⟨by simp, .inr ⟨h.next, 0, 5, rfl, by simp, by simp, fun _ => ⟨f.cells ++ g.cells, some 35, by simp [H.get_push], by simp, by rw [List.drop_zero, List.take_of_length_le (by simp)]; simp⟩⟩⟩

theorem bs_two (h : H) (f g : NoteF) : A.buildSlice 35 2 Z36L [(0, 35, .agg ⟨f.cells⟩), (35, 35, .agg ⟨g.cells⟩)] h = some (.slice (some ⟨h.next, 0, none⟩) 2 5, h.push (.cells (f.cells ++ g.cells) (some 35))) := by kernel_rfl

theorem same_note {h : H} {f : NoteF} {e : List (List Value)} (s : SliceE 2 h f.w e) : same (.agg ⟨f.cells⟩) (.agg ⟨f.cells⟩) = true := by
  have hs := s.same
  simp [same, sameA, sameL, NoteF.cells, hs]

theorem EqN.refl (f : NoteF) (w : Value) : EqN f { f with w := w } := by
  simp [EqN, EqP]

theorem S6 {h : H} {f g : NoteF} {e1 e2 : List (List Value)} (s1 : SliceE 2 h f.w e1) (s2 : SliceE 2 h g.w e2) (T1 : SubsT e1) (T2 : SubsT e2) :
    ∃ n h', callB Try.prog 0 O1 n 6 [.agg ⟨f.cells⟩, .agg ⟨g.cells⟩] h = some (.bool true, h') := by
  refine ⟨99 + 1 + 1, ?_⟩
  rw [F6eq O1 rfl]
  obtain ⟨n, hn⟩ : ∃ n, n = 99 + 1 := ⟨_, rfl⟩
  rw [← hn]
  have aw : ∀ h, callB Try.prog 0 O1 n 10 [] h = some (.bool true, h) := fun h => by rw [hn]; rfl
  obtain ⟨h2, hh2⟩ : ∃ h2, h2 = (h.push (.cells f.cells (some 0))).push (.cells g.cells (some 0)) := ⟨_, rfl⟩
  have x2 : Ext h h2 := by rw [hh2]; exact (Ext.push _ _).pushed _
  have g2 : h2.get h.next = some (.cells f.cells (some 0)) := by rw [hh2]; simp [H.get_push]
  have g3 : h2.get (h.next + 1) = some (.cells g.cells (some 0)) := by rw [hh2]; simp [H.get_push]
  have hn2 : h2.next = h.next + 2 := by rw [hh2]; rfl
  obtain ⟨h3, hh3⟩ : ∃ h3, h3 = h2.push (.cells (f.cells ++ g.cells) (some 35)) := ⟨_, rfl⟩
  have x3 : Ext h2 h3 := by rw [hh3]; exact Ext.push _ _
  have row : RowR h3 (.slice (some ⟨h2.next, 0, none⟩) 2 5) [(f, e1), (g, e2)] := by
    refine ⟨by rw [hh3]; exact two_slice h2 f g, fun d hd => ?_⟩
    simp only [List.mem_cons, List.not_mem_nil, or_false] at hd
    rcases hd with rfl | rfl
    · exact ⟨s1.ext (x2.trans x3), T1⟩
    · exact ⟨s2.ext (x2.trans x3), T2⟩
  obtain ⟨b, h4, e9, x4, hb⟩ := S9 99 row (by simp [maxLen]) (by simp)
  rw [← hn] at e9
  have bs := bs_two h2 f g
  rw [← hh3] at bs
  have tk : ∀ f : NoteF, List.take 35 f.cells = f.cells := fun f => rfl
  have t1 := tk f
  have t2 := tk g
  cases b with
  | true =>
    refine ⟨h4, ?_⟩
    simp only [F6, p6a]
    simp
    rw [← hh2]
    simp [g2, g3, t1, t2, bs, e9, aw]
  | false =>
    obtain ⟨_, h20⟩ := hb rfl
    have l1 : e1.length ≤ 20 := h20 (f, e1) (by simp)
    have l2 : e2.length ≤ 20 := h20 (g, e2) (by simp)
    have x24 : Ext h2 h4 := x3.trans x4
    have k2 : ∀ h', Ext h4 h' → h'.get h.next = some (.cells f.cells (some 0)) := fun h' x => by rw [(x24.trans x).get _ (by omega)]; exact g2
    have k3 : ∀ h', Ext h4 h' → h'.get (h.next + 1) = some (.cells g.cells (some 0)) := fun h' x => by rw [(x24.trans x).get _ (by omega)]; exact g3
    have u1 := fun h' (x : Ext h4 h') => s1.ext ((x2.trans x24).trans x)
    have u2 := fun h' (x : Ext h4 h') => s2.ext ((x2.trans x24).trans x)
    obtain ⟨c1, h5, e26, x5, i26⟩ := S26 98 (u1 h4 (Ext.refl _)) (u2 h4 (Ext.refl _)) T1 T2 (by omega) (by omega)
    obtain ⟨c2, h6, e16, x6, i16⟩ := S16 98 (u1 h5 x5) (u2 h5 x5) T1 T2 (by omega) (by omega)
    have hcc : c1 = c2 := by rw [Bool.eq_iff_iff, i26, i16]
    have x46 : Ext h4 h6 := x5.trans x6
    obtain ⟨w', h7, e14, s14, x7, _⟩ := S14 99 h6 f.cells f.w e1 rfl rfl (u1 h6 x46) l1
    have x47 := x46.trans x7
    obtain ⟨c3, h8, e26', x8, i26'⟩ := S26 98 (f := f) (g := { f with w := w' }) (u1 h7 x47) s14 T1 T1 (by omega) (by omega)
    have c3t : c3 = true := i26'.2 ⟨EqN.refl f w', rfl⟩
    subst c3t
    have hset : f.cells.set 26 w' = ({ f with w := w' } : NoteF).cells := rfl
    rw [hset] at e14
    rw [← hn] at e14
    have hn2' : 98 + 2 = n := by omega
    rw [hn2'] at e26 e16 e26'
    have sf := same_note s1
    have sg := same_note s2
    refine ⟨h8, ?_⟩
    simp only [F6, p6a]
    simp
    rw [← hh2]
    simp [g2, g3, t1, t2, bs, e9, k2 h4 (Ext.refl _), k3 h4 (Ext.refl _), e26, k2 h5 x5, k3 h5 x5, chk, sf, sg, e16, hcc, bin_bool_eql Try.underlying4, k2 h6 x46, k2 h7 x47, e14, e26', aw]

theorem recordSameRun (h : AM.H) (xs : List Value) (_ : Go.AM.Start h) (ty : TyAll Try.prog h [36, 36] xs) : ∃ n h', callB Try.prog 0 O1 n 6 xs h = some (.bool true, h') := by
  match xs, ty with
  | [a, b], ⟨t1, t2, _⟩ =>
    have op : ∀ a, TyV Try.prog h 36 a → ∃ (f : NoteF) (e : List (List Value)), a = .agg ⟨f.cells⟩ ∧ SliceE 2 h f.w e ∧ SubsT e := by
      intro a t
      cases t with
      | agg _ ty =>
        obtain ⟨f, els, rfl, hs, he, _⟩ := note_open ty
        exact ⟨f, els, rfl, hs, fun x hx => sub_open (he x hx)⟩
      | one hu _ => exact absurd Try.underlying36 (hu _)
    obtain ⟨f, e1, rfl, s1, T1⟩ := op a t1
    obtain ⟨g, e2, rfl, s2, T2⟩ := op b t2
    exact S6 s1 s2 T1 T2
end Go.Proofs.Ytlhppeikbgolbaa.RecD

namespace Go.Proofs.Ytlhppeikbgolbaa.recordSame
open Go Go.AM Go.RowKit Go.ChangeShapes Go.WideShapes Go.ChangeAt

theorem own : ownKnob Try.prog.godebug = none := by kernel_rfl
theorem zeros : zerosPlain Try.prog = true := by kernel_rfl
theorem mixed : Try.prog.follows .mixedOrders = true := by kernel_rfl
theorem names : namesOK Try.prog = true := by kernel_rfl
theorem awake : ClosedTrue Try.prog 10 :=
  closedTrue (n := 100) zeros mixed names ⟨Try.f10, RecD.c10a, Try.func10, by kernel_rfl, by decide +kernel⟩ (by kernel_rfl)

set_option maxRecDepth 100000 in
theorem lifted (os : Os) (started : os.Started) (H : Type) (enc : TypeId × Value → H) :
    ReturnsInHanded {} Try.checked os 6 .any (Rows.recordSameSpec.pre6 enc Try.prog Try.f6 Rows.recordSameRow.domain false) (Rows.recordSameSpec.post enc Try.prog Try.f6 false true false false) :=
  law_lifted (C := Try.checked) (ts := [36, 36]) (tb := 4) (O := RecD.O1) (n := 8) own started (by kernel_rfl) Try.func6
    (ChangeSpec.witness6 (enc := enc) (C := Try.checked) false ⟨#[], #[.agg ⟨[.int .u8 0, .int .i64 0, .int .i64 0, .string .empty, .int .u8 0, .bool false, .int .u8 0, .bool false, .int .u16 0, .string .empty, .string .empty, .int .u8 0, .bool false, .int .u16 0, .string .empty, .bool false, .string .empty, .string .empty, .int .u8 0, .bool false, .bool false, .bool false, .string .empty, .string .empty, .bool false, .int .u8 0, .slice none 0 0, .string .empty, .string .empty, .string .empty, .int .u8 0, .bool false, .string .empty, .bool false, .int .u8 0]⟩, .agg ⟨[.int .u8 0, .int .i64 0, .int .i64 0, .string .empty, .int .u8 0, .bool false, .int .u8 0, .bool false, .int .u16 0, .string .empty, .string .empty, .int .u8 0, .bool false, .int .u16 0, .string .empty, .bool false, .string .empty, .string .empty, .int .u8 0, .bool false, .bool false, .bool false, .string .empty, .string .empty, .bool false, .int .u8 0, .slice none 0 0, .string .empty, .string .empty, .string .empty, .int .u8 0, .bool false, .string .empty, .bool false, .int .u8 0]⟩], []⟩ 8 (by kernel_rfl) (by kernel_rfl) (by kernel_rfl) (by kernel_rfl))
    (by kernel_rfl) (by kernel_rfl) (by kernel_rfl) Try.underlying4 rfl
    (fun ds hd => by match ds, hd with | [d0, d1], _ => exact ⟨rfl, rfl, rfl⟩)
    (by kernel_rfl) (by kernel_rfl) (by kernel_rfl) zeros mixed names (fun f hf => by simp at hf; subst hf; exact awake) RecD.recordSameRun

theorem over : Rows.recordSameRow.holds Try.pinned (OpenSpec.ofChange Rows.recordSameSpec) :=
  OpenClaim.holds_of_wide 6 Try.f6 rfl rfl rfl rfl rfl rfl rfl ⟨rfl, rfl, rfl, rfl, rfl⟩ rfl rfl rfl rfl rfl (by kernel_rfl) Try.func6 (by kernel_rfl)
    (of_decide_eq_true (by kernel_rfl)) (by unfold Func.isWrapper; first | (rw [if_pos (by decide +kernel)]; kernel_rfl) | (rw [if_neg (by decide +kernel)]; exact ⟨rfl, rfl⟩))
    (fun os started H enc _ => lifted os started H enc)

theorem proved : Rows.RecordSameSaid := over
#print axioms proved
end Go.Proofs.Ytlhppeikbgolbaa.recordSame
