/-
  A pool that New did not make: what its functions answer.
-/
import Derived.Test.YtlhppeikbgolbaaDoorIdsS8
namespace Go.Proofs.YtlhppeikbgolbaaDoor.IdsD
open Go Go.AM Go.IdsN

/-- No pool. -/
def NoneAt (h : H) (x : Value) : Prop := x = .pointer none ∨ ∃ e a b o, x = ptrV e ∧ e < h.next ∧ h.get e = some (.cells [.slice none 0 0, a, b] o)

theorem NoneAt.ext {h h' : H} {x : Value} (n : NoneAt h x) (y : Ext h h') : NoneAt h' x := by
  rcases n with rfl | ⟨e, a, b, o, rfl, h1, h2⟩
  · exact .inl rfl
  · exact .inr ⟨e, a, b, o, rfl, Nat.lt_of_lt_of_le h1 y.next, by rw [y.get e h1]; exact h2⟩

theorem N23 (k : Nat) {h : H} {x : Value} (n : NoneAt h x) : callB Tryd.prog 1 [] (k + 1) 23 [x] h = some (.bool true, h) := by
  rw [F23eq [] rfl]
  have e1 : A.bin Tryd.prog .eql 22 (.pointer none) (.pointer none) = some (.bool true) := by kernel_rfl
  have e2 : A.bin Tryd.prog .eql 32 (.slice none 0 0) (.slice none 0 0) = some (.bool true) := by kernel_rfl
  rcases n with rfl | ⟨e, a, b, o, rfl, h1, h2⟩
  · simp [F23, p23a, e1]
  · simp [F23, p23a, bin_ptr_nil Tryd.underlying22, h2, e2]

theorem N10 (k : Nat) {h : H} {x : Value} (n : NoneAt h x) : callB Tryd.prog 1 [] (k + 2) 10 [x] h = some (.tuple ⟨[.int .u16 0, .int .i64 8]⟩, h) := by
  rw [F10eq [] rfl]
  simp only [F10, p10a, p10al, p10ar, p10arl, p10arlb, N23 k n, bnd2_some, toBK_bool, cond_true]
theorem N11 (k : Nat) {h : H} {x : Value} (n : NoneAt h x) : callB Tryd.prog 1 [] (k + 2) 11 [x] h = some (.int .i64 0, h) := by
  rw [F11eq [] rfl]
  simp [F11, p11a, N23 k n]
theorem N13 (k : Nat) {h : H} {x : Value} (n : NoneAt h x) (id : Value) : callB Tryd.prog 1 [] (k + 2) 13 [x, id] h = some (.bool false, h) := by
  rw [F13eq [] rfl]
  simp [F13, p13a, N23 k n]
theorem N12 (k : Nat) {h : H} {x : Value} (n : NoneAt h x) (id : Value) : callB Tryd.prog 1 [] (k + 3) 12 [x, id] h = some (.bool false, h) := by
  rw [F12eq [] rfl]
  simp [F12, p12a, p12al, p12ar, N13 k n]

theorem N21 (k : Nat) {h : H} {x : Value} (n : NoneAt h x) : callB Tryd.prog 1 [] (k + 2) 21 [x] h = some (.func (.func 26) ⟨[]⟩ ⟨[ptrV h.next]⟩, h.push (.cells [.slice none 0 0] (some 0))) := by
  rw [F21eq [] rfl]
  have eb : A.box 1 Z32 h = some (ptrV h.next, h.push (.cells [.slice none 0 0] (some 0))) := rfl
  simp only [F21, p21a, eb, bnd2_some, N23 k (n.ext (Ext.push h _)), toBK_bool, un_not, Bool.not_true, bnd_some, cond_false]

theorem N26 (k : Nat) {h : H} {t : Nat} (y : Value) (gt : h.get t = some (.cells [.slice none 0 0] (some 0))) : callB Tryd.prog 1 [] (k + 2) 26 [y, ptrV t] h = some (.tuple ⟨[]⟩, h) := by
  rw [F26eq [] rfl]
  have l1 : A.load false 1 (ptrV t) h = some (.slice none 0 0) := by rw [load1_eq, gt]; rfl
  have hd : decide ((0 : Int) < ((0 : Nat) : Int)) = false := rfl
  simp only [F26, p26a, p26al, l1, bnd_some, lenS_eq, p26ar, p26arb, p26arbw, p26arbo, p26arbol, bin_lss, hd, p26arbor, p26arborl, condV_bool, cond_false]

theorem N14 (k : Nat) {h : H} {x : Value} (n : NoneAt h x) : ∃ h', callB Tryd.prog 1 [] (k + 4) 14 [x] h = some (.tuple ⟨[.slice none 0 0, .bool true]⟩, h') ∧ Ext h h' := by
  rw [F14eq [] rfl]
  obtain ⟨h1, hh1⟩ : ∃ h1, h1 = h.push (.cells [.slice none 0 0] (some 0)) := ⟨_, rfl⟩
  have eb : A.box 1 Z30 h = some (ptrV h.next, h1) := by rw [hh1]; rfl
  have n1 : h1.next = h.next + 1 := by rw [hh1]; rfl
  have x1 : Ext h h1 := hh1 ▸ Ext.push h _
  have e21 := N21 (k + 1) (n.ext x1)
  obtain ⟨h2, hh2⟩ : ∃ h2, h2 = h1.push (.cells [.slice none 0 0] (some 0)) := ⟨_, rfl⟩
  rw [← hh2] at e21
  have n2 : h2.next = h1.next + 1 := by rw [hh2]; rfl
  have x2 : Ext h1 h2 := hh2 ▸ Ext.push h1 _
  have en : A.bin Tryd.prog .eql 47 (.func (.func 26) ⟨[]⟩ ⟨[ptrV h1.next]⟩) .nilFunc = some (.bool false) := by kernel_rfl
  have ef : isFn Tryd.prog (.func (.func 26) ⟨[]⟩ ⟨[ptrV h1.next]⟩) = true := by kernel_rfl
  obtain ⟨h3, hh3⟩ : ∃ h3, h3 = h2.push (lp14 (.func (.func 26) ⟨[]⟩ ⟨[ptrV h1.next]⟩) (.bool false) (.slice none 0 0) h.next .ready) := ⟨_, rfl⟩
  have x3 : Ext h2 h3 := hh3 ▸ Ext.push h2 _
  have gt : h3.get h1.next = some (.cells [.slice none 0 0] (some 0)) := by rw [x3.get _ (by omega), hh2, H.get_push, if_pos rfl]
  have gl : h3.get h2.next = some (lp14 (.func (.func 26) ⟨[]⟩ ⟨[ptrV h1.next]⟩) (.bool false) (.slice none 0 0) h.next .ready) := by rw [hh3, H.get_push, if_pos rfl]
  have e26 := N26 (k + 1) (yv h2.next) gt
  have ecv : callV (callB Tryd.prog 1 [] (k + 3)) (.func (.func 26) ⟨[]⟩ ⟨[ptrV h1.next]⟩) [yv h2.next] h3 = some (.tuple ⟨[]⟩, h3) := e26
  have gv : (h3.put h2.next (lp14 (.func (.func 26) ⟨[]⟩ ⟨[ptrV h1.next]⟩) (.bool false) (.slice none 0 0) h.next .exhausted)).get h.next = some (.cells [.slice none 0 0] (some 0)) := by
    rw [H.get_put, if_neg (by omega), x3.get _ (by omega), x2.get _ (by omega), hh1, H.get_push, if_pos rfl]
  have lv : A.load false 1 (ptrV h.next) (h3.put h2.next (lp14 (.func (.func 26) ⟨[]⟩ ⟨[ptrV h1.next]⟩) (.bool false) (.slice none 0 0) h.next .exhausted)) = some (.slice none 0 0) := by rw [load1_eq, gv]; rfl
  refine ⟨h3.put h2.next (lp14 (.func (.func 26) ⟨[]⟩ ⟨[ptrV h1.next]⟩) (.bool false) (.slice none 0 0) h.next .exhausted), ?_, ((x1.trans x2).trans x3).put _ _ (by omega : h.next ≤ h2.next)⟩
  simp only [F14, p14a, p14al, p14ar, p14arl, eb, bnd2_some, p14arr, p14arrl]
  rw [e21]
  simp only [bnd2_some, p14arrr, p14arrrl, en, bnd_some, toBK_bool, cond_false, p14arrrr, p14arrrrl, p14arrrrll, p14arrrrlr, p14arrrrlrb, ef, cond_true]
  rw [← hh3, ecv]
  simp only [Option.bind_some, rangeK, gl, p14arrrrr, lv, bnd_some]
end Go.Proofs.YtlhppeikbgolbaaDoor.IdsD
