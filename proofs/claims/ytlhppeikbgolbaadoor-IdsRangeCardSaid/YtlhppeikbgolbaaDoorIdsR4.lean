/-
  IdsRange: each of the law's own loops over the iterator, as a whole; the loop over the row.
-/
import Derived.Test.YtlhppeikbgolbaaDoorIdsR3
import Derived.Test.YtlhppeikbgolbaaDoorIdsL
namespace Go.Proofs.YtlhppeikbgolbaaDoor.IdsD
open Go Go.AM Go.IdsN Go.Proofs.YtlhppeikbgolbaaDoor.IdsF6

def fnv (t : Nat) : Value := .func (.func 26) ⟨[]⟩ ⟨[ptrV t]⟩

theorem fnv_is (t : Nat) : isFn Tryd.prog (fnv t) = true := by unfold fnv; kernel_rfl
theorem fnv_call (C : CF) (t : Nat) (v : Value) (h : H) : callV C (fnv t) [v] h = C 26 [v, ptrV t] h := by unfold fnv; kernel_rfl

theorem goA {M : Nat} (hM : 1100 ≤ M) {β : Type} (kn : Value → Value → Value → Value → Value → Value → H → Option β) (kr : Value → H → Option β) {h10 : H} {b12 b4 wb t c first : Nat} {x5 x6 x10 x11 : Value} {W : List Nat} {tk : Nat → Bool}
    (lW : W.length = 1024) (lt : ∀ w ∈ W, w < 2 ^ 64) (bits : ∀ j w, W[j]? = some w → ∀ c, c < 64 → w.testBit c = tk (64 * j + c)) (l12 : b12 < h10.next) (l4 : b4 < h10.next) (lw : wb < h10.next) (ltt : t < h10.next)
    (n4 : b4 ≠ b12) (nw : wb ≠ b12) (n0 : 0 ≠ b12) (hz : 0 < h10.next) (g12 : h10.get b12 = some (.cells [.int .i64 0] (some 0))) (g4 : h10.get b4 = some (.cells [.int .u8 (first : Int)] (some 0)))
    (gw : h10.get wb = some (.cells (W.map fun (w : Nat) => Value.int .u64 (w : Int)) (some 1))) (gt : h10.get t = some (.cells [.slice (some ⟨wb, 0, none⟩) 1024 c] (some 0))) (ht : TabAt h10) (hf : first < 256) :
    ∃ h13 R q, p6arrrrrrrrrrrrrlr (callB Tryd.prog 1 [] M) M (fnv t) (ptrV b4) x5 x6 x10 x11 (ptrV b12) (fnv t) h10 kn kr = kn (fnv t) (ptrV b12) x11 x10 x6 x5 h13 ∧
      h13.get b12 = some (.cells [.int .i64 ((R : List Nat).length : Int)] (some 0)) ∧ Upto tk q R ∧ q ≤ 65536 ∧ ExtBut (fun i => i = b12) h10 h13 := by
  obtain ⟨k, rfl⟩ : ∃ k, M = k + 1030 := ⟨M - 1030, by omega⟩
  obtain ⟨h11, hh11⟩ : ∃ h11, h11 = h10.push (lp6a (fnv t) (ptrV b4) x5 x6 x10 x11 (ptrV b12) (fnv t) .ready) := ⟨_, rfl⟩
  have n11 : h11.next = h10.next + 1 := by rw [hh11]; rfl
  have x11' : Ext h10 h11 := hh11 ▸ Ext.push h10 _
  have ht11 : TabAt h11 := by unfold TabAt; rw [x11'.get 0 hz]; exact ht
  have G := rounds6a (k + 1027) (hA := h11) (id := h10.next) (b12 := b12) (b4 := b4) (wb := wb) (first := first) (x60 := fnv t) (x5 := x5) (x6 := x6) (x10 := x10) (x11 := x11) (x9 := fnv t) (W := W) (tk := tk) (by omega) (by omega) (by omega) (by omega) (by omega)
    (by omega) n4 (by omega) nw (by omega) n0 (by rw [x11'.get _ l4]; exact g4) (by rw [x11'.get _ lw]; exact gw) ht11 hf
  obtain ⟨h12, R, e26, hs⟩ := S26G k (h := h11) (t := t) (c := c) G lW lt bits ⟨by rw [hh11, H.get_push, if_pos rfl], by rw [x11'.get _ l12]; exact g12, ⟨Nat.le_refl _, fun _ _ _ => rfl⟩⟩ (by rw [x11'.get _ ltt]; exact gt)
  have key : ∃ st q, Cn h11 h10.next b12 (lp6a (fnv t) (ptrV b4) x5 x6 x10 x11 (ptrV b12) (fnv t)) st h12 R ∧ (st = .ready ∨ st = .done (some 2)) ∧ Upto tk q R ∧ q ≤ 65536 := by
    rcases hs with ⟨s, u⟩ | ⟨s, q, hq, u⟩
    · exact ⟨_, _, s, .inl rfl, u, Nat.le_refl _⟩
    · exact ⟨_, q, s, .inr rfl, u, hq⟩
  obtain ⟨st, q, s, hst, u, hq⟩ := key
  have nx := s.y.next
  obtain ⟨h13, hh13⟩ : ∃ h13, h13 = h12.put h10.next (lp6a (fnv t) (ptrV b4) x5 x6 x10 x11 (ptrV b12) (fnv t) .exhausted) := ⟨_, rfl⟩
  refine ⟨h13, R, q, ?_, by rw [hh13, H.get_put, if_neg (by omega)]; exact s.n, u, hq, ⟨by rw [hh13]; show h10.next ≤ h12.next; omega, fun j hj hn => ?_⟩⟩
  · simp only [p6arrrrrrrrrrrrrlr, p6arrrrrrrrrrrrrlrb, fnv_is, cond_true, fnv_call]
    rw [← hh11, e26]
    rcases hst with rfl | rfl
    · simp only [Option.bind_some, rangeK, s.lp]
      rw [hh13]
    · simp only [Option.bind_some, rangeK, s.lp]
      rw [hh13]
      rfl
  · rw [hh13, H.get_put, if_neg (by omega), s.y.get j (by omega) (by rintro (e | e)
                                                                     · omega
                                                                     · exact hn e), x11'.get j hj]

theorem goB {M : Nat} (hM : 1100 ≤ M) {β : Type} (kn : Value → Value → Value → Value → Value → Value → H → Option β) (kr : Value → H → Option β) {h10 : H} {b14 b15 b5 wb t c idv : Nat} {x6 x10 x11 x12 : Value} {W : List Nat} {tk : Nat → Bool}
    (lW : W.length = 1024) (lt : ∀ w ∈ W, w < 2 ^ 64) (bits : ∀ j w, W[j]? = some w → ∀ c, c < 64 → w.testBit c = tk (64 * j + c)) (l14 : b14 < h10.next) (l15 : b15 < h10.next) (l5 : b5 < h10.next) (lw : wb < h10.next) (ltt : t < h10.next)
    (n1 : b14 ≠ b15) (n2 : b5 ≠ b14) (n3 : b5 ≠ b15) (nw1 : wb ≠ b14) (nw2 : wb ≠ b15) (n01 : 0 ≠ b14) (n02 : 0 ≠ b15) (hz : 0 < h10.next) (g14 : h10.get b14 = some (.cells [.slice none 0 0] (some 0))) (g15 : h10.get b15 = some (.cells [.bool false] (some 0)))
    (g5 : h10.get b5 = some (.cells [.int .u16 (idv : Int)] (some 0))) (gw : h10.get wb = some (.cells (W.map fun (w : Nat) => Value.int .u64 (w : Int)) (some 1))) (gt : h10.get t = some (.cells [.slice (some ⟨wb, 0, none⟩) 1024 c] (some 0))) (ht : TabAt h10) :
    ∃ h13 R v, p6arrrrrrrrrrrrrrrrlr (callB Tryd.prog 1 [] M) M (fnv t) x12 x11 x10 x6 (ptrV b5) (ptrV b15) (ptrV b14) h10 kn kr = kn x10 (ptrV b15) x11 x12 (ptrV b14) x6 h13 ∧
      h13.get b14 = some (.cells [v] (some 0)) ∧ Vec 1 h13 v (cu R) ∧ h13.get b15 = some (.cells [.bool (decide (idv ∈ R))] (some 0)) ∧ Upto tk 65536 R ∧ ExtBut (fun i => i = b14 ∨ i = b15) h10 h13 := by
  obtain ⟨k, rfl⟩ : ∃ k, M = k + 1030 := ⟨M - 1030, by omega⟩
  obtain ⟨h11, hh11⟩ : ∃ h11, h11 = h10.push (lp6b (fnv t) x12 x11 x10 x6 (ptrV b5) (ptrV b15) (ptrV b14) .ready) := ⟨_, rfl⟩
  have n11 : h11.next = h10.next + 1 := by rw [hh11]; rfl
  have x11' : Ext h10 h11 := hh11 ▸ Ext.push h10 _
  have ht11 : TabAt h11 := by unfold TabAt; rw [x11'.get 0 hz]; exact ht
  have G := rounds6b (k + 1027) (hA := h11) (id := h10.next) (b14 := b14) (b15 := b15) (b5 := b5) (wb := wb) (idv := idv) (x72 := fnv t) (x12 := x12) (x11 := x11) (x10 := x10) (x6 := x6) (W := W) (tk := tk) (by omega) (by omega) (by omega) (by omega) (by omega) (by omega)
    (by omega) n1 (by omega) n2 n3 (by omega) nw1 nw2 (by omega) n01 n02 (by rw [x11'.get _ l5]; exact g5) (by rw [x11'.get _ lw]; exact gw) ht11
  obtain ⟨h12, R, e26, hs⟩ := S26G k (h := h11) (t := t) (c := c) G lW lt bits ⟨by rw [hh11, H.get_push, if_pos rfl], ⟨_, by rw [x11'.get _ l14]; exact g14, Vec.nil 1 h11, fun i hi => by simp [sid] at hi⟩, by rw [x11'.get _ l15]; simpa using g15, ⟨Nat.le_refl _, fun _ _ _ => rfl⟩⟩ (by rw [x11'.get _ ltt]; exact gt)
  have key : Ga h11 h10.next b14 b15 idv (lp6b (fnv t) x12 x11 x10 x6 (ptrV b5) (ptrV b15) (ptrV b14)) h12 R ∧ Upto tk 65536 R := by
    rcases hs with ⟨s, u⟩ | ⟨s, _⟩
    · exact ⟨s, u⟩
    · exact s.elim
  obtain ⟨s, u⟩ := key
  have nx := s.y.next
  obtain ⟨v, gv, vv, hv⟩ := s.v
  obtain ⟨h13, hh13⟩ : ∃ h13, h13 = h12.put h10.next (lp6b (fnv t) x12 x11 x10 x6 (ptrV b5) (ptrV b15) (ptrV b14) .exhausted) := ⟨_, rfl⟩
  refine ⟨h13, R, v, ?_, by rw [hh13, H.get_put, if_neg (by omega)]; exact gv, ?_, by rw [hh13, H.get_put, if_neg (by omega)]; exact s.told, u, ⟨by rw [hh13]; show h10.next ≤ h12.next; omega, fun j hj hn => ?_⟩⟩
  · simp only [p6arrrrrrrrrrrrrrrrlr, p6arrrrrrrrrrrrrrrrlrb, fnv_is, cond_true, fnv_call]
    rw [← hh11, e26]
    simp only [Option.bind_some, rangeK, s.lp]
    rw [hh13]
  · rw [hh13]
    exact vv.extBut (S := fun i => i = h10.next) (ExtBut.put ⟨Nat.le_refl _, fun _ _ _ => rfl⟩ _ _ rfl) (fun i hi e => by have := hv i hi; omega)
  · rw [hh13, H.get_put, if_neg (by omega), s.y.get j (by omega) (by rintro (e | e)
                                                                     · omega
                                                                     · exact hn e), x11'.get j hj]

/-! Calls with any fuel that is enough. -/
theorem W10 {M : Nat} (hM : 1100 ≤ M) {h : H} {p b : Nat} {S : List Nat} (r : PoolS h p b S) (hn : S.length < 65535) :
    ∃ v h' S', callB Tryd.prog 1 [] M 10 [ptrV p] h = some (v, h') ∧ PoolS h' p b S' ∧ ExtBut (Two p b) h h' ∧ h'.next = h.next ∧ S'.length = S.length + 1 := by
  obtain ⟨k, rfl⟩ : ∃ k, M = k + 1026 := ⟨M - 1026, by omega⟩
  obtain ⟨i0, h', _, _, _, _, e, r', y, n⟩ := T10 k r hn
  exact ⟨_, h', _, e, r', y, n, List.length_cons⟩
theorem W12 {M : Nat} (hM : 1100 ≤ M) {h : H} {p b : Nat} {S : List Nat} (r : PoolS h p b S) {id : Nat} (hid : id < 65536) :
    ∃ bb h' S', callB Tryd.prog 1 [] M 12 [ptrV p, .int .u16 (id : Int)] h = some (.bool bb, h') ∧ PoolS h' p b S' ∧ ExtBut (Two p b) h h' ∧ h'.next = h.next ∧ S'.length ≤ S.length := by
  obtain ⟨k, rfl⟩ : ∃ k, M = k + 3 := ⟨M - 3, by omega⟩
  by_cases hin : id ∈ S
  · obtain ⟨h', e, r', y, n⟩ := T12 k r hid hin
    exact ⟨_, h', _, e, r', y, n, List.length_erase_le⟩
  · exact ⟨_, h, S, T12n k r hid hin, r, ⟨Nat.le_refl _, fun _ _ _ => rfl⟩, rfl, Nat.le_refl _⟩
theorem W13 {M : Nat} (hM : 1100 ≤ M) {h : H} {p b : Nat} {S : List Nat} (r : PoolS h p b S) {id : Nat} (hid : id < 65536) : callB Tryd.prog 1 [] M 13 [ptrV p, .int .u16 (id : Int)] h = some (.bool (decide (id ∈ S)), h) := by
  obtain ⟨k, rfl⟩ : ∃ k, M = k + 2 := ⟨M - 2, by omega⟩
  exact T13 k r hid

/-- The row's calls. -/
theorem one6 {M L : Nat} (hM : 1100 ≤ M) {β : Type} (kx0 : Value → Value → Value → Value → H → Option β) {hA : H} {x0 x4 x5 x6 : Value} {l : List Nat} (s : InL hA x0 l) (hl : l.length ≤ 400) {p b : Nat} (np : hA.next ≤ p) (nb : hA.next ≤ b) :
    ∀ (d i m : Nat) (h : H) (S : List Nat), i + d = l.length → d < m → PoolS h p b S → Ext hA h → S.length ≤ i →
      ∃ h' S', p6arrrlrbw (callB Tryd.prog 1 [] M) L kx0 m (.int .i64 (i : Int)) x0 (ptrV p) x4 x5 x6 h = kx0 (ptrV p) x4 x5 x6 h' ∧ PoolS h' p b S' ∧ Ext hA h' ∧ S'.length ≤ l.length := by
  have hlen : A.lenS x0 = some (.int .i64 (l.length : Int)) := by
    have := s.1.len.1
    rw [List.length_map] at this
    exact this
  intro d
  induction d with
  | zero =>
    intro i m h S hi hm r x hS
    obtain ⟨m, rfl⟩ : ∃ q, m = q + 1 := ⟨m - 1, by omega⟩
    have hd : decide ((i : Int) < (l.length : Int)) = false := by rw [decide_eq_false_iff_not]; omega
    refine ⟨h, S, ?_, r, x, by omega⟩
    simp only [p6arrrlrbw, p6arrrlrbo, hlen, bnd_some, bin_lss, hd, toBK_bool, cond_false]
  | succ d ih =>
    intro i m h S hi hm r x hS
    obtain ⟨m, rfl⟩ : ∃ q, m = q + 1 := ⟨m - 1, by omega⟩
    have hd : decide ((i : Int) < (l.length : Int)) = true := by rw [decide_eq_true_iff]; omega
    have hil : i < l.length := by omega
    have hw : IntKind.i64.wrap ((i : Int) + 1) = ((i + 1 : Nat) : Int) := wrap_succ (by omega)
    obtain ⟨a, ix, ld⟩ := s.at hil
    have l0 := ld h x
    have hv := s.2 _ (List.getElem_mem hil)
    by_cases hz : l[i] = 0
    · have hzd : decide ((l[i] : Int) = 0) = true := by rw [decide_eq_true_iff]; omega
      obtain ⟨v, h1, S1, e10, r1, y1, n1, hl1⟩ := W10 hM r (by omega)
      obtain ⟨h', S', e, r', x', l'⟩ := ih (i + 1) m h1 S1 (by omega) (by omega) r1 (ext_two x y1 np nb) (by omega)
      refine ⟨h', S', ?_, r', x', l'⟩
      simp only [p6arrrlrbw, p6arrrlrbo, hlen, bnd_some, bin_lss, hd, toBK_bool, cond_true, ix, l0, bin_eql, hzd, e10, bnd2_some, bin_add, hw]
      exact e
    · have hzd : decide ((l[i] : Int) = 0) = false := by rw [decide_eq_false_iff_not]; omega
      obtain ⟨bb, h1, S1, e12, r1, y1, n1, hl1⟩ := W12 hM r hv
      obtain ⟨h', S', e, r', x', l'⟩ := ih (i + 1) m h1 S1 (by omega) (by omega) r1 (ext_two x y1 np nb) (by omega)
      refine ⟨h', S', ?_, r', x', l'⟩
      simp only [p6arrrlrbw, p6arrrlrbo, hlen, bnd_some, bin_lss, hd, toBK_bool, cond_true, ix, l0, bin_eql, hzd, cond_false, e12, bnd2_some, bin_add, hw]
      exact e
end Go.Proofs.YtlhppeikbgolbaaDoor.IdsD
