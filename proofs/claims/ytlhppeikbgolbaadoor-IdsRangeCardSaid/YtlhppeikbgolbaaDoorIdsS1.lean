/-
  The functions of a pool of ids, one by one, over the abstract machine.
-/
import Derived.Test.YtlhppeikbgolbaaDoorIdsD
import Derived.Test.YtlhppeikbgolbaaDoorIdsN
import Derived.Test.YtlhppeikbgolbaaDoorAmVc
namespace Go.Proofs.YtlhppeikbgolbaaDoor.IdsD
open Go Go.AM Go.IdsN

/-- Go's table, where it lies. -/
def TabAt (h : H) : Prop := h.get 0 = some (.cells (tab.map fun (n : Nat) => Value.int .u8 (n : Int)) none)

theorem tab_get {i b : Nat} (h : tab[i]? = some b) : (tab.map fun (n : Nat) => Value.int .u8 (n : Int))[i]? = some (.int .u8 b) := by
  rw [List.getElem?_map, h]; rfl

theorem Lowest.bounds {x b : Nat} (l : Lowest x b) : b < 64 := l.lt

/-- The place of the lowest bit. -/
theorem S24 (n : Nat) {h : H} (ht : TabAt h) {x b : Nat} (hx : x < 2 ^ 64) (l : Lowest x b) : callB Tryd.prog 1 [] (n + 1) 24 [.int .u64 x] h = some (.int .i64 b, h) := by
  rw [F24eq [] rfl]
  have hp := l.pos
  have hne : ¬ (x : Int) = 0 := by omega
  have e1 := negU Tryd.prog hp hx
  have e2 := andU Tryd.prog 52 hx (show 2 ^ 64 - x < 2 ^ 64 by omega)
  rw [l.and_neg hx] at e2
  have e3 := mulU Tryd.prog 52 (x := 2 ^ b) (y := 285870213051353865)
  have e4 := shrU Tryd.prog 52 (x := 2 ^ b * 285870213051353865 % 2 ^ 64) (y := 58) .u64 (by omega)
  obtain ⟨t1, t2⟩ := tab_at l.lt
  have e5 : ∀ i : Nat, i < 64 → A.idxA 64 1 (.pointer (some ⟨0, 0, none⟩)) (.int .u64 (i : Int)) = some (.pointer (some ⟨0, 0 + i * 1, none⟩)) := fun i hi => by
    show (bif Nat.blt i 64 then _ else none) = _
    rw [blt_iff.2 hi]; rfl
  have e6 : A.conv Tryd.prog 5 3 (.int .u8 (b : Int)) = some (.int .i64 b) := by
    have : A.conv Tryd.prog 5 3 (.int .u8 (b : Int)) = some (.int .i64 (IntKind.i64.wrap b)) := rfl
    rw [this, wrap_nat (by have := l.lt; omega)]
  have e4' : A.bin Tryd.prog .shr 52 (.int .u64 ((2 ^ b * 285870213051353865 % 2 ^ 64 : Nat) : Int)) (.int .u64 58) = some (.int .u64 ((2 ^ b * 285870213051353865 % 2 ^ 64 / 2 ^ 58 : Nat) : Int)) := e4
  have e3' : A.bin Tryd.prog .mul 52 (.int .u64 ((2 ^ b : Nat) : Int)) (.int .u64 285870213051353865) = some (.int .u64 ((2 ^ b * 285870213051353865 % 2 ^ 64 : Nat) : Int)) := e3
  simp only [F24, p24a, bin_eql, bnd_some, toBK_bool, hne, decide_false, cond_false, e1, e2, e3', e4', e5 _ t2, load1_eq]
  unfold TabAt at ht
  rw [ht]
  simp only [Nat.zero_add, Nat.mul_one, tab_get t1, bnd_some, e6]

/-- A pool: which ids are taken; how many it counts. -/
structure PoolR (h : H) (p b : Nat) (tk : Nat → Bool) (n low : Nat) (W : List Nat) : Prop where
  hp : h.get p = some (.cells [.slice (some ⟨b, 0, none⟩) 1024 2049, .int .i64 (n : Int), .int .i64 (low : Int)] (some 0))
  hb : h.get b = some (.cells (W.map fun (w : Nat) => Value.int .u64 (w : Int)) (some 1))
  ne : p ≠ b
  pp : 0 < p
  pb : 0 < b
  lp : p < h.next
  lb : b < h.next
  len : W.length = 1024
  lt : ∀ w ∈ W, w < 2 ^ 64
  bits : ∀ j w, W[j]? = some w → ∀ c, c < 64 → w.testBit c = tk (64 * j + c)
  full : ∀ j, j < low → ∀ w, W[j]? = some w → w = 2 ^ 64 - 1
  t0 : tk 0 = true
  hn : n ≤ 65535
  tb : TabAt h

def Pool (h : H) (p b : Nat) (tk : Nat → Bool) (n : Nat) : Prop := ∃ low W, PoolR h p b tk n low W

/-- The two blocks of a pool. -/
def Two (p b : Nat) (i : Nat) : Prop := i = p ∨ i = b

theorem PoolR.extBut {S : Nat → Prop} {h h' : H} {p b n low : Nat} {tk : Nat → Bool} {W : List Nat} (r : PoolR h p b tk n low W) (x : ExtBut S h h') (h0 : ¬ S 0) (hp : ¬ S p) (hb : ¬ S b) : PoolR h' p b tk n low W :=
  ⟨by rw [x.get _ r.lp hp]; exact r.hp, by rw [x.get _ r.lb hb]; exact r.hb, r.ne, r.pp, r.pb, Nat.lt_of_lt_of_le r.lp x.next, Nat.lt_of_lt_of_le r.lb x.next, r.len, r.lt, r.bits, r.full, r.t0, r.hn,
    by unfold TabAt; rw [x.get 0 (by have := r.lp; omega) h0]; exact r.tb⟩
theorem Pool.ext {h h' : H} {p b n : Nat} {tk : Nat → Bool} (r : Pool h p b tk n) (x : Ext h h') : Pool h' p b tk n := by
  obtain ⟨low, W, r⟩ := r
  exact ⟨low, W, r.extBut (S := fun _ => False) x.but (by simp) (by simp) (by simp)⟩
theorem Pool.extBut {S : Nat → Prop} {h h' : H} {p b n : Nat} {tk : Nat → Bool} (r : Pool h p b tk n) (x : ExtBut S h h') (h0 : ¬ S 0) (hp : ¬ S p) (hb : ¬ S b) : Pool h' p b tk n := by
  obtain ⟨low, W, r⟩ := r
  exact ⟨low, W, r.extBut x h0 hp hb⟩

abbrev ptrV (p : Nat) : Value := .pointer (some ⟨p, 0, none⟩)

theorem S23 (k : Nat) {h : H} {p b n low : Nat} {tk : Nat → Bool} {W : List Nat} (r : PoolR h p b tk n low W) : callB Tryd.prog 1 [] (k + 1) 23 [ptrV p] h = some (.bool false, h) := by
  rw [F23eq [] rfl]
  simp [F23, p23a, bin_ptr_nil Tryd.underlying22, r.hp, bin_slice_nil Tryd.underlying32]

theorem S11 (k : Nat) {h : H} {p b n : Nat} {tk : Nat → Bool} (r : Pool h p b tk n) : callB Tryd.prog 1 [] (k + 2) 11 [ptrV p] h = some (.int .i64 (n : Int), h) := by
  obtain ⟨low, W, r⟩ := r
  rw [F11eq [] rfl]
  simp [F11, p11a, S23 k r, r.hp]

theorem bit_odd {w c : Nat} : (((w / 2 ^ c) &&& 1 : Nat) = 1) ↔ w.testBit c = true := by
  rw [Nat.testBit_eq_decide_div_mod_eq, Nat.and_one_is_mod]; simp

theorem quo64 {id : Nat} (h : id < 65536) : A.bin Tryd.prog .quo 25 (.int .u16 (id : Int)) (.int .u16 64) = some (.int .u16 ((id / 64 : Nat) : Int)) := by
  rw [bin_quo Tryd.prog 25 .u16 _ _ (by omega)]
  have e : (id : Int).tdiv 64 = ((id / 64 : Nat) : Int) := by
    rw [Int.tdiv_eq_ediv_of_nonneg (by omega)]; rfl
  rw [e, IntWalk.u16_in _ ⟨by omega, by omega⟩]
theorem rem64 {id : Nat} : A.bin Tryd.prog .rem 25 (.int .u16 (id : Int)) (.int .u16 64) = some (.int .u16 ((id % 64 : Nat) : Int)) := by
  rw [bin_rem Tryd.prog 25 .u16 _ _ (by omega)]
  have e : (id : Int).tmod 64 = ((id % 64 : Nat) : Int) := by
    rw [Int.tmod_eq_emod_of_nonneg (by omega)]; rfl
  rw [e]

/-- A word of a pool. -/
theorem PoolR.word {h : H} {p b n low : Nat} {tk : Nat → Bool} {W : List Nat} (r : PoolR h p b tk n low W) {j : Nat} (hj : j < 1024) :
    ∃ w, W[j]? = some w ∧ w < 2 ^ 64 ∧ (W.map fun (w : Nat) => Value.int .u64 (w : Int))[j]? = some (.int .u64 (w : Int)) := by
  have hlt : j < W.length := by rw [r.len]; exact hj
  exact ⟨W[j], List.getElem?_eq_getElem hlt, r.lt _ (List.getElem_mem hlt), by rw [List.getElem?_map, List.getElem?_eq_getElem hlt]; rfl⟩

theorem S13 (k : Nat) {h : H} {p b n : Nat} {tk : Nat → Bool} (r : Pool h p b tk n) {id : Nat} (hid : id < 65536) : callB Tryd.prog 1 [] (k + 2) 13 [ptrV p, .int .u16 (id : Int)] h = some (.bool (decide (0 < id) && tk id), h) := by
  obtain ⟨low, W, r⟩ := r
  rw [F13eq [] rfl]
  obtain ⟨w, hw, hlt, hm⟩ := r.word (j := id / 64) (by omega)
  have hbit := r.bits _ _ hw (id % 64) (by omega)
  rw [show 64 * (id / 64) + id % 64 = id by omega] at hbit
  have e1 := quo64 hid
  have e2 := rem64 (id := id)
  have e3 := shrU Tryd.prog 52 (x := w) (y := id % 64) .u16 (by omega)
  have e4 := andU Tryd.prog 52 (x := w / 2 ^ (id % 64)) (y := 1) (Nat.lt_of_le_of_lt (Nat.div_le_self _ _) hlt) (by omega)
  have e4' : A.bin Tryd.prog .and 52 (.int .u64 ((w / 2 ^ (id % 64) : Nat) : Int)) (.int .u64 1) = some (.int .u64 (((w / 2 ^ (id % 64)) &&& 1 : Nat) : Int)) := e4
  have e5 := idxS_eq 1 b 0 1024 2049 (id / 64) .u16 (by omega)
  simp only [F13, p13a, S23 k r, bnd2_some, bnd_some, toBK_bool, un_not, Bool.not_false, cond_true, bin_gtr]
  by_cases h0 : 0 < id
  · have h0' : (0 : Int) < (id : Int) := by omega
    simp only [h0', decide_true, cond_true, nilCheck_eq, bnd_some, fieldAddr_eq, load1_eq, Nat.zero_add, r.hp, List.getElem?_cons_zero, e1, e5, r.hb, Nat.mul_one, hm, e2, e3, e4', bin_eql, toBK_bool]
    have : (decide ((((w / 2 ^ (id % 64)) &&& 1 : Nat) : Int) = 1)) = tk id := by
      rw [← hbit, Bool.eq_iff_iff, decide_eq_true_eq, ← bit_odd]
      omega
    rw [this]
    simp [h0]
  · simp [h0]
end Go.Proofs.YtlhppeikbgolbaaDoor.IdsD
