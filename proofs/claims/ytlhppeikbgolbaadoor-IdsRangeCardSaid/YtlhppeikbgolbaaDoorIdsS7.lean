/-
  The row of all ids that are taken.
-/
import Derived.Test.YtlhppeikbgolbaaDoorIdsS6
namespace Go.Proofs.YtlhppeikbgolbaaDoor.IdsD
open Go Go.AM Go.IdsN

theorem flatten_single {α β : Type} (f : α → β) : ∀ l : List α, (l.map fun x => [f x]).flatten = l.map f
  | [] => rfl
  | x :: t => by rw [List.map_cons, List.flatten_cons, flatten_single f t]; rfl

theorem words_slice {h : H} {b : Nat} {W : List Nat} (hb : h.get b = some (.cells (W.map fun (w : Nat) => Value.int .u64 (w : Int)) (some 1))) (lb : b < h.next) (len : W.length = 1024) :
    SliceE 1 h (.slice (some ⟨b, 0, none⟩) 1024 2049) (W.map fun (w : Nat) => [Value.int .u64 (w : Int)]) := by
  have hl : (W.map fun (w : Nat) => [Value.int .u64 (w : Int)]).length = 1024 := by rw [List.length_map, len]
  refine ⟨fun e he => ?_, .inr ⟨b, 0, 2049, by rw [hl], by rw [hl]; omega, lb, fun _ => ⟨_, _, hb, by rw [hl, List.length_map, len]; omega, ?_⟩⟩⟩
  · obtain ⟨w, _, rfl⟩ := List.mem_map.1 he; rfl
  · rw [hl, List.drop_zero, List.take_of_length_le (by rw [List.length_map, len]; omega), flatten_single]

theorem S21 (k : Nat) {h : H} {p b n low : Nat} {tk : Nat → Bool} {W : List Nat} (r : PoolR h p b tk n low W) :
    ∃ h' t wb c, callB Tryd.prog 1 [] (k + 2) 21 [ptrV p] h = some (.func (.func 26) ⟨[]⟩ ⟨[ptrV t]⟩, h') ∧ h'.get t = some (.cells [.slice (some ⟨wb, 0, none⟩) 1024 c] (some 0)) ∧
      h'.get wb = some (.cells (W.map fun (w : Nat) => Value.int .u64 (w : Int)) (some 1)) ∧ t < h'.next ∧ wb < h'.next ∧ h.next ≤ t ∧ h.next ≤ wb ∧ Ext h h' := by
  rw [F21eq [] rfl]
  obtain ⟨h1, hh1⟩ : ∃ h1, h1 = h.push (.cells [.slice none 0 0] (some 0)) := ⟨_, rfl⟩
  have eb : A.box 1 Z32 h = some (ptrV h.next, h1) := by rw [hh1]; rfl
  have n1 : h1.next = h.next + 1 := by rw [hh1]; rfl
  have x1 : Ext h h1 := hh1 ▸ Ext.push h _
  have r1 := r.extBut (S := fun _ => False) x1.but (by simp) (by simp) (by simp)
  have s23 := S23 k r1
  have g1 : h1.get h.next = some (.cells [.slice none 0 0] (some 0)) := by rw [hh1, H.get_push, if_pos rfl]
  have l1 : A.load false 1 (ptrV h.next) h1 = some (.slice none 0 0) := by rw [load1_eq, g1]; rfl
  have l3 := load3 r1.hp
  have sx := words_slice r1.hb r1.lb r1.len
  have hl : (W.map fun (w : Nat) => [Value.int .u64 (w : Int)]).length = 1024 := by rw [List.length_map, r.len]
  obtain ⟨h2, ea, v2, n2, y2⟩ := append_vec (bs := 8) (Vec.nil 1 h1) sx (fun e => by rw [e] at hl; simp at hl) (by omega) (by rw [hl]; simp) (by rw [hl]; simp)
  rw [hl] at ea v2
  have g2 : h2.get h.next = some (.cells [.slice none 0 0] (some 0)) := by rw [y2.get _ (by omega) (by simp [sid])]; exact g1
  have gw : h2.get h1.next = some (.cells (W.map fun (w : Nat) => Value.int .u64 (w : Int)) (some 1)) := by
    rcases v2.2 with ⟨e, _⟩ | ⟨q, e, _, g⟩
    · cases e
    · obtain rfl : h1.next = q := by injection e with e1; injection e1 with e2; injection e2
      rw [g, List.nil_append, flatten_single]
  have es : A.store 1 (ptrV h.next) (.slice (some ⟨h1.next, 0, none⟩) (0 + 1024) (2 * (0 + 1024))) h2 = some (h2.put h.next (.cells [.slice (some ⟨h1.next, 0, none⟩) 1024 2048] (some 0))) := by
    rw [store_eq, g2]; rfl
  refine ⟨h2.put h.next (.cells [.slice (some ⟨h1.next, 0, none⟩) 1024 2048] (some 0)), h.next, h1.next, 2048, ?_, by rw [H.get_put, if_pos rfl], by rw [H.get_put, if_neg (by omega)]; exact gw, ?_, ?_, Nat.le_refl _, by omega, ?_⟩
  · simp only [List.length_nil] at ea
    simp only [F21, p21a, eb, bnd2_some, s23, toBK_bool, un_not, Bool.not_false, bnd_some, cond_true, l1, nilCheck_eq, fieldAddr_eq, Nat.zero_add, l3.1]
    simp only [Nat.zero_add] at ea es
    rw [ea]
    simp only [bnd2_some, es, bnd_some]
  · show h.next < h2.next; omega
  · show h1.next < h2.next; omega
  · refine Ext.put ⟨by omega, fun i hi => ?_⟩ _ _ (Nat.le_refl _)
    rw [y2.get i (by omega) (by simp [sid]), x1.get i hi]

theorem S26 (k : Nat) {hA h : H} (ht : TabAt hA) (h0 : 0 < hA.next) {id bx wb t c : Nat} {x11 x3 x2 : Value} {W : List Nat} {tk : Nat → Bool} (lW : W.length = 1024) (lt : ∀ w ∈ W, w < 2 ^ 64)
    (bits : ∀ j w, W[j]? = some w → ∀ c, c < 64 → w.testBit c = tk (64 * j + c)) (s : It hA h id bx wb x11 x3 x2 W []) (gt : h.get t = some (.cells [.slice (some ⟨wb, 0, none⟩) 1024 c] (some 0))) :
    ∃ h' R, callB Tryd.prog 1 [] (k + 1030) 26 [yv id, ptrV t] h = some (.tuple ⟨[]⟩, h') ∧ It hA h' id bx wb x11 x3 x2 W R ∧ Upto tk 65536 R := by
  rw [F26eq [] rfl]
  have l1 : A.load false 1 (ptrV t) h = some (.slice (some ⟨wb, 0, none⟩) 1024 c) := by rw [load1_eq, gt]; rfl
  obtain ⟨h', R, e, s', u'⟩ := outer26 (k + 1027) (k + 1029) (by omega) (fun h => some (Value.tuple ⟨[]⟩, h)) (fun h => some (Value.tuple ⟨[]⟩, h)) ht h0 (c := c) lW lt bits 1024 0 (k + 1029) h [] (by omega) (by omega) s
    ⟨List.Pairwise.nil, fun i => by simp⟩
  refine ⟨h', R, ?_, s', u'⟩
  simp only [F26, p26a, p26al, l1, bnd_some, lenS_eq, p26ar, p26arb]
  exact e

theorem S14 (k : Nat) {h : H} {p b n : Nat} {tk : Nat → Bool} (r : Pool h p b tk n) (h0 : 0 < h.next) :
    ∃ v R h', callB Tryd.prog 1 [] (k + 1031) 14 [ptrV p] h = some (.tuple ⟨[v, .bool true]⟩, h') ∧ SliceE 1 h' v (cu R) ∧ Upto tk 65536 R ∧ Ext h h' ∧ (∀ i, sid v = some i → h.next ≤ i) := by
  obtain ⟨low, W, r⟩ := r
  rw [F14eq [] rfl]
  obtain ⟨h1, hh1⟩ : ∃ h1, h1 = h.push (.cells [.slice none 0 0] (some 0)) := ⟨_, rfl⟩
  have eb : A.box 1 Z30 h = some (ptrV h.next, h1) := by rw [hh1]; rfl
  have n1 : h1.next = h.next + 1 := by rw [hh1]; rfl
  have x1 : Ext h h1 := hh1 ▸ Ext.push h _
  have r1 := r.extBut (S := fun _ => False) x1.but (by simp) (by simp) (by simp)
  obtain ⟨h2, t, wb, c, e21, g1, g2, q1, q2, q3, q4, x2⟩ := S21 (k + 1028) r1
  have en : A.bin Tryd.prog .eql 47 (.func (.func 26) ⟨[]⟩ ⟨[ptrV t]⟩) .nilFunc = some (.bool false) := by kernel_rfl
  have ef : isFn Tryd.prog (.func (.func 26) ⟨[]⟩ ⟨[ptrV t]⟩) = true := by kernel_rfl
  obtain ⟨h3, hh3⟩ : ∃ h3, h3 = h2.push (lp14 (.func (.func 26) ⟨[]⟩ ⟨[ptrV t]⟩) (.bool false) (.slice none 0 0) h.next .ready) := ⟨_, rfl⟩
  have x3 : Ext h2 h3 := hh3 ▸ Ext.push h2 _
  have n3 : h3.next = h2.next + 1 := by rw [hh3]; rfl
  have nx2 := x2.next
  have gb : h3.get h.next = some (.cells [.slice none 0 0] (some 0)) := by
    rw [x3.get _ (by omega), x2.get _ (by omega), hh1, H.get_push, if_pos rfl]
  have s : It h h3 h2.next h.next wb (.func (.func 26) ⟨[]⟩ ⟨[ptrV t]⟩) (.bool false) (.slice none 0 0) W [] :=
    ⟨by rw [hh3, H.get_push, if_pos rfl], ⟨_, gb, Vec.nil 1 h3, fun i hi => by simp [sid] at hi⟩, by rw [x3.get wb q2]; exact g2, by omega, by omega, by omega, by omega, Nat.le_refl _, by omega, by omega, by omega,
      (x1.trans x2).trans x3⟩
  obtain ⟨h4, R, e26, s4, u4⟩ := S26 k r.tb h0 r.len r.lt r.bits s (by rw [x3.get t q1]; exact g1)
  obtain ⟨v, v1, v2, v3⟩ := s4.v
  have ecv : callV (callB Tryd.prog 1 [] (k + 1030)) (.func (.func 26) ⟨[]⟩ ⟨[ptrV t]⟩) [yv h2.next] h3 = some (.tuple ⟨[]⟩, h4) := e26
  have gv : (h4.put h2.next (lp14 (.func (.func 26) ⟨[]⟩ ⟨[ptrV t]⟩) (.bool false) (.slice none 0 0) h.next .exhausted)).get h.next = some (.cells [v] (some 0)) := by
    rw [H.get_put, if_neg (by omega)]; exact v1
  have lv : A.load false 1 (ptrV h.next) (h4.put h2.next (lp14 (.func (.func 26) ⟨[]⟩ ⟨[ptrV t]⟩) (.bool false) (.slice none 0 0) h.next .exhausted)) = some v := by rw [load1_eq, gv]; rfl
  have v4 : Vec 1 (h4.put h2.next (lp14 (.func (.func 26) ⟨[]⟩ ⟨[ptrV t]⟩) (.bool false) (.slice none 0 0) h.next .exhausted)) v (cu R) :=
    v2.extBut (S := fun i => i = h2.next) (ExtBut.put ⟨Nat.le_refl _, fun _ _ _ => rfl⟩ _ _ rfl) fun i hi e => (v3 i hi).1 e
  refine ⟨v, R, _, ?_, v4.slice, u4, s4.x.put _ _ (by omega), fun i hi => (v3 i hi).2.2.2⟩
  simp only [F14, p14a, p14al, p14ar, p14arl, eb, bnd2_some, p14arr, p14arrl]
  rw [e21]
  simp only [bnd2_some, p14arrr, p14arrrl, en, bnd_some, toBK_bool, cond_false, p14arrrr, p14arrrrl, p14arrrrll, p14arrrrlr, p14arrrrlrb, ef, cond_true]
  rw [← hh3, ecv]
  simp only [Option.bind_some, rangeK, s4.lp, p14arrrrr, lv, bnd_some]
end Go.Proofs.YtlhppeikbgolbaaDoor.IdsD
