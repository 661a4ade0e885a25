/-
  All ids that are taken, told in order.
-/
import Derived.Test.YtlhppeikbgolbaaDoorIdsS5
namespace Go.Proofs.YtlhppeikbgolbaaDoor.IdsD
open Go Go.AM Go.IdsN

def cu (R : List Nat) : List (List Value) := R.map fun (i : Nat) => [Value.int .u16 (i : Int)]

/-- The ids below q that are taken, rising. -/
def Upto (tk : Nat → Bool) (q : Nat) (R : List Nat) : Prop := R.Pairwise (· < ·) ∧ ∀ i, i ∈ R ↔ (0 < i ∧ i < q ∧ tk i = true)

theorem len_le : ∀ (R : List Nat) (lo q : Nat), lo ≤ q → R.Pairwise (· < ·) → (∀ i ∈ R, lo ≤ i ∧ i < q) → lo + R.length ≤ q
  | [], lo, q, h, _, _ => h
  | x :: t, lo, q, _, hp, hm => by
    have h1 := hm x (by simp)
    obtain ⟨p1, p2⟩ := List.pairwise_cons.1 hp
    have := len_le t (lo + 1) q (by omega) p2 fun i hi => ⟨by have := p1 i hi; omega, (hm i (by simp [hi])).2⟩
    simp only [List.length_cons]
    omega
theorem Upto.len {tk : Nat → Bool} {q : Nat} {R : List Nat} (u : Upto tk q R) : R.length ≤ q := by
  have := len_le R 0 q (by omega) u.1 fun i hi => ⟨by omega, ((u.2 i).1 hi).2.1⟩
  omega

structure It (hA h : H) (id bx wb : Nat) (x11 x3 x2 : Value) (W : List Nat) (R : List Nat) : Prop where
  lp : h.get id = some (lp14 x11 x3 x2 bx .ready)
  v : ∃ v, h.get bx = some (.cells [v] (some 0)) ∧ Vec 1 h v (cu R) ∧ (∀ i, sid v = some i → i ≠ id ∧ i ≠ bx ∧ i ≠ wb ∧ hA.next ≤ i)
  hw : h.get wb = some (.cells (W.map fun (w : Nat) => Value.int .u64 (w : Int)) (some 1))
  ne1 : id ≠ bx
  ne2 : id ≠ wb
  ne3 : bx ≠ wb
  ni : hA.next ≤ id
  nb : hA.next ≤ bx
  li : id < h.next
  lb : bx < h.next
  lw : wb < h.next
  x : Ext hA h

theorem It.step (k : Nat) {hA h : H} {id bx wb : Nat} {x11 x3 x2 : Value} {W R : List Nat} (s : It hA h id bx wb x11 x3 x2 W R) (hR : R.length ≤ 70000) (i : Nat) :
    ∃ h', callB Tryd.prog 1 [] (k + 1) 1099511627776 [.int .i64 (.ofNat id), .int .u16 (i : Int)] h = some (.bool true, h') ∧ It hA h' id bx wb x11 x3 x2 W (R ++ [i]) := by
  obtain ⟨v, v1, v2, v3⟩ := s.v
  obtain ⟨v', h', e, g1, g2, g3, y, g4⟩ := Y14 k s.lp v1 v2 s.ne1 (fun e => (v3 _ e).1 rfl) (fun e => (v3 _ e).2.1 rfl) s.li s.lb (by simpa [cu] using hR) (i : Int)
  refine ⟨h', e, g1, ⟨v', g2, ?_, fun j hj => ?_⟩, ?_, s.ne1, s.ne2, s.ne3, s.ni, s.nb, Nat.lt_of_lt_of_le s.li y.next, Nat.lt_of_lt_of_le s.lb y.next, Nat.lt_of_lt_of_le s.lw y.next, ?_⟩
  · have : cu (R ++ [i]) = cu R ++ [[.int .u16 (i : Int)]] := by simp [cu]
    rw [this]; exact g3
  · obtain ⟨a1, a2, a3⟩ := g4 j hj
    have h1 := s.lw
    have h2 := s.x.next
    exact ⟨a2, a3, by omega, by omega⟩
  · rw [y.get wb s.lw]
    · exact s.hw
    · rintro (e | e | e)
      · exact s.ne2 e.symm
      · exact s.ne3 e.symm
      · exact (v3 _ e).2.2.1 rfl
  · refine ⟨Nat.le_trans s.x.next y.next, fun j hj => ?_⟩
    rw [y.get j (Nat.lt_of_lt_of_le hj s.x.next)]
    · exact s.x.get j hj
    · have h1 := s.ni
      have h2 := s.nb
      rintro (e | e | e)
      · omega
      · omega
      · have := (v3 _ e).2.2.2; omega

abbrev yv (id : Nat) : Value := .func (.yield id) #[] #[]

theorem inner26 (k L : Nat) {β : Type} (kr : H → Option β) (kx2 : Value → Value → Value → Value → H → Option β) (x7 x6 x5 : Value) {hA : H} (ht : TabAt hA) (h0 : 0 < hA.next) {id bx wb : Nat} {x11 x3 x2 : Value} {W : List Nat} {tk : Nat → Bool} {w' j : Nat} (hj : j < 1024)
    (hw' : ∀ c, c < 64 → w'.testBit c = (decide (0 < 64 * j + c) && tk (64 * j + c))) :
    ∀ (d a m x : Nat) (h : H) (R : List Nat), a + d = 64 → d < m → x < 2 ^ 64 → (∀ c, x.testBit c = (decide (a ≤ c) && (decide (c < 64) && w'.testBit c))) → It hA h id bx wb x11 x3 x2 W R → Upto tk (64 * j + a) R →
      ∃ h' R', p26arborrlbrrbw (callB Tryd.prog 1 [] (k + 2)) L kr kx2 m (.int .u64 (x : Int)) (.int .i64 (j : Int)) x7 x6 (yv id) x5 h = kx2 x7 x6 (yv id) x5 h' ∧ It hA h' id bx wb x11 x3 x2 W R' ∧ Upto tk (64 * (j + 1)) R' := by
  intro d
  induction d using Nat.strongRecOn with
  | _ d ih =>
    intro a m x h R had hm hx hxb s u
    obtain ⟨m, rfl⟩ : ∃ q, m = q + 1 := ⟨m - 1, by omega⟩
    by_cases hz : x = 0
    · have hd : decide ((x : Int) = 0) = true := by rw [decide_eq_true_iff]; omega
      refine ⟨h, R, ?_, s, u.1, fun i => ?_⟩
      · simp only [p26arborrlbrrbw, p26arborrlbrrbo, bin_neq, bnd_some, hd, Bool.not_true, toBK_bool, cond_false]
      · rw [u.2 i]
        constructor
        · rintro ⟨h1, h2, h3⟩; exact ⟨h1, by omega, h3⟩
        · rintro ⟨h1, h2, h3⟩
          refine ⟨h1, ?_, h3⟩
          rcases Nat.lt_or_ge i (64 * j + a) with hl | hl
          · exact hl
          · have hb := hxb (i - 64 * j)
            have hw := hw' (i - 64 * j) (by omega)
            rw [show 64 * j + (i - 64 * j) = i by omega, h3] at hw
            rw [hw, hz] at hb
            have e1 : decide (a ≤ i - 64 * j) = true := decide_eq_true (by omega)
            have e2 : decide (i - 64 * j < 64) = true := decide_eq_true (by omega)
            have e3 : decide (0 < i) = true := decide_eq_true h1
            rw [e1, e2, e3, Nat.zero_testBit] at hb
            cases hb
    · obtain ⟨b, l⟩ := exists_lowest hx hz
      have hb := hxb b
      rw [l.at'] at hb
      have hb' := hb.symm
      simp only [Bool.and_eq_true, decide_eq_true_eq] at hb'
      obtain ⟨b1, b2, b3⟩ := hb'
      have hw := hw' b b2
      rw [b3] at hw
      have hw2 := hw.symm
      simp only [Bool.and_eq_true, decide_eq_true_eq] at hw2
      obtain ⟨w1, w2⟩ := hw2
      have hd : decide ((x : Int) = 0) = false := by rw [decide_eq_false_iff_not]; omega
      have htab : TabAt h := by unfold TabAt; rw [s.x.get 0 h0]; exact ht
      have s24 := S24 (k + 1) htab hx l
      have hlen := u.len
      obtain ⟨h1, e1, s1⟩ := s.step (k + 1) (by omega) (64 * j + b)
      have em : IntKind.i64.wrap ((j : Int) * 64) = ((64 * j : Nat) : Int) := by rw [wrap64 (by omega) (by omega)]; omega
      have ea : IntKind.i64.wrap (((64 * j : Nat) : Int) + (b : Int)) = ((64 * j + b : Nat) : Int) := by rw [wrap64 (by omega) (by omega)]; omega
      have ec : A.conv Tryd.prog 3 25 (.int .i64 ((64 * j + b : Nat) : Int)) = some (.int .u16 ((64 * j + b : Nat) : Int)) := by
        have : A.conv Tryd.prog 3 25 (.int .i64 ((64 * j + b : Nat) : Int)) = some (.int .u16 (IntKind.u16.wrap ((64 * j + b : Nat) : Int))) := rfl
        rw [this, IntWalk.u16_in _ ⟨by omega, by omega⟩]
      have es := subU Tryd.prog 52 (x := x) (y := 1) (by omega) hx
      have es' : A.bin Tryd.prog .sub 52 (.int .u64 (x : Int)) (.int .u64 1) = some (.int .u64 ((x - 1 : Nat) : Int)) := es
      have en := andU Tryd.prog 52 hx (show x - 1 < 2 ^ 64 by omega)
      have ecv : callV (callB Tryd.prog 1 [] (k + 2)) (yv id) [.int .u16 ((64 * j + b : Nat) : Int)] h = some (.bool true, h1) := e1
      have hU : Upto tk (64 * j + (b + 1)) (R ++ [64 * j + b]) := by
        refine ⟨List.pairwise_append.2 ⟨u.1, by simp, fun y hy z hz => ?_⟩, fun i => ?_⟩
        · have := ((u.2 y).1 hy).2.1
          simp at hz; omega
        · rw [List.mem_append, u.2 i, List.mem_singleton]
          constructor
          · rintro (⟨h1, h2, h3⟩ | rfl)
            · exact ⟨h1, by omega, h3⟩
            · exact ⟨w1, by omega, w2⟩
          · rintro ⟨h1, h2, h3⟩
            rcases Nat.lt_or_ge i (64 * j + a) with hl | hl
            · exact .inl ⟨h1, hl, h3⟩
            · by_cases e : i = 64 * j + b
              · exact .inr e
              · have hbl := l.below (i - 64 * j) (by omega)
                have hq := hw' (i - 64 * j) (by omega)
                rw [show 64 * j + (i - 64 * j) = i by omega, h3] at hq
                rw [hxb, hq] at hbl
                have e1 : decide (a ≤ i - 64 * j) = true := decide_eq_true (by omega)
                have e2 : decide (i - 64 * j < 64) = true := decide_eq_true (by omega)
                have e3 : decide (0 < i) = true := decide_eq_true h1
                rw [e1, e2, e3] at hbl
                cases hbl
      have hB : ∀ c, (x &&& (x - 1)).testBit c = (decide (b + 1 ≤ c) && (decide (c < 64) && w'.testBit c)) := fun c => by
        rw [l.and_pred c]
        rcases Nat.lt_or_ge c b with hl | hl
        · have : ¬ b + 1 ≤ c := by omega
          rw [l.below c hl, decide_eq_false this]; rfl
        · by_cases e : c = b
          · subst e
            have : ¬ c + 1 ≤ c := by omega
            rw [decide_eq_false this]; simp
          · have h2 : a ≤ c := by omega
            have h3 : b + 1 ≤ c := by omega
            rw [hxb c, decide_eq_true h2, decide_eq_true h3, decide_eq_true e]; simp
      obtain ⟨h', R', e, s', u'⟩ := ih (64 - (b + 1)) (by omega) (b + 1) m (x &&& (x - 1)) h1 (R ++ [64 * j + b]) (by omega) (by omega) (Nat.and_lt_two_pow x (by omega)) hB s1 hU
      refine ⟨h', R', ?_, s', u'⟩
      simp only [p26arborrlbrrbw, p26arborrlbrrbo, bin_neq, bnd_some, hd, Bool.not_false, toBK_bool, cond_true, bin_mul, em, s24, bnd2_some, bin_add, ea, ec, ecv, un_not, Bool.not_true, cond_false, es', en]
      exact e

theorem outer26 (k L : Nat) (hL : 100 < L) {β : Type} (kr kx0 : H → Option β) {hA : H} (ht : TabAt hA) (h0 : 0 < hA.next) {id bx wb c : Nat} {x11 x3 x2 : Value} {W : List Nat} {tk : Nat → Bool} (lW : W.length = 1024) (lt : ∀ w ∈ W, w < 2 ^ 64)
    (bits : ∀ j w, W[j]? = some w → ∀ c, c < 64 → w.testBit c = tk (64 * j + c)) :
    ∀ (d j m : Nat) (h : H) (R : List Nat), j + d = 1024 → d < m → It hA h id bx wb x11 x3 x2 W R → Upto tk (64 * j) R →
      ∃ h' R', p26arbw (callB Tryd.prog 1 [] (k + 2)) L kr kx0 m (.int .i64 ((1024 : Nat) : Int)) (.int .i64 (j : Int)) (yv id) (.slice (some ⟨wb, 0, none⟩) 1024 c) h = kx0 h' ∧ It hA h' id bx wb x11 x3 x2 W R' ∧ Upto tk 65536 R' := by
  intro d
  induction d with
  | zero =>
    intro j m h R hj hm s u
    obtain ⟨m, rfl⟩ : ∃ q, m = q + 1 := ⟨m - 1, by omega⟩
    obtain rfl : j = 1024 := by omega
    refine ⟨h, R, ?_, s, u⟩
    have hd : decide (((1024 : Nat) : Int) < ((1024 : Nat) : Int)) = false := rfl
    simp only [p26arbw, p26arbo, p26arbol, bin_lss, bnd_some, hd, p26arbor, p26arborl, condV_bool, cond_false]
  | succ d ih =>
    intro j m h R hj hm s u
    obtain ⟨m, rfl⟩ : ∃ q, m = q + 1 := ⟨m - 1, by omega⟩
    have hd : decide ((j : Int) < ((1024 : Nat) : Int)) = true := by rw [decide_eq_true_iff]; omega
    have hjl : j < W.length := by omega
    have hw : W[j]? = some W[j] := List.getElem?_eq_getElem hjl
    have hlt := lt W[j] (List.getElem_mem hjl)
    have hb := bits j _ hw
    have lw := load_word s.hw hw
    have ix := idxS_eq 1 wb 0 1024 c j .i64 (by omega)
    rw [Nat.zero_add, Nat.mul_one] at ix
    have hs := wrap_succ (n := j) (by omega)
    have key : ∀ w', w' < 2 ^ 64 → (∀ c, c < 64 → w'.testBit c = (decide (0 < 64 * j + c) && tk (64 * j + c))) → _ := fun w' h1 h2 =>
      inner26 k L (β := β) kr (fun x7 x6 x0 x5 h => p26arborrr (callB Tryd.prog 1 [] (k + 2)) L x7 x6 x0 x5 h (fun x6 x7 x0 x5 h => p26arbw (callB Tryd.prog 1 [] (k + 2)) L kr kx0 m x6 x7 x0 x5 h))
        (.int .i64 (j : Int)) (.int .i64 ((1024 : Nat) : Int)) (.slice (some ⟨wb, 0, none⟩) 1024 c) ht h0 (show j < 1024 by omega) h2 64 0 L w' h R (by omega) (by omega) h1 (fun c => by
          by_cases hc : c < 64
          · simp [hc]
          · rw [Nat.testBit_lt_two_pow (Nat.lt_of_lt_of_le h1 (Nat.pow_le_pow_right (by omega) (by omega)))]; simp [hc]) s u
    by_cases hz : j = 0
    · have hzd : decide ((j : Int) = 0) = true := by rw [decide_eq_true_iff]; omega
      have e1 := andNotU Tryd.prog 52 (x := W[j]) (y := 1)
      have e1' : A.bin Tryd.prog .andNot 52 (.int .u64 (W[j] : Int)) (.int .u64 1) = some (.int .u64 ((anU W[j] 1 : Nat) : Int)) := e1
      obtain ⟨h1, R1, q, s1, u1⟩ := key (anU W[j] 1) (anU_lt _ _) (fun c hc => by
        rw [anU_bit hlt, hb c hc, show (1 : Nat) = 2 ^ 0 from rfl, Nat.testBit_two_pow, hz]
        by_cases h : c = 0
        · subst h; simp
        · have h1 : ¬ 0 = c := fun e => h e.symm
          have h2 : 0 < c := by omega
          simp [hc, h1, h2])
      obtain ⟨h', R', e, s', u'⟩ := ih (j + 1) m h1 R1 (by omega) (by omega) s1 u1
      refine ⟨h', R', ?_, s', u'⟩
      simp only [p26arbw, p26arbo, p26arbol, bin_lss, bnd_some, hd, p26arbor, p26arborl, condV_bool, cond_true, p26arborr, p26arborrl, p26arborrlb, p26arborrlbl, ix, lw, p26arborrlbr, p26arborrlbrl, bin_eql, hzd, toBK_bool, e1', p26arborrlbrr, p26arborrlbrrb]
      rw [q]
      simp only [p26arborrr, bin_add, bnd_some, hs]
      exact e
    · have hzd : decide ((j : Int) = 0) = false := by rw [decide_eq_false_iff_not]; omega
      obtain ⟨h1, R1, q, s1, u1⟩ := key W[j] hlt (fun c hc => by
        have : 0 < 64 * j + c := by omega
        rw [hb c hc, decide_eq_true this]; rfl)
      obtain ⟨h', R', e, s', u'⟩ := ih (j + 1) m h1 R1 (by omega) (by omega) s1 u1
      refine ⟨h', R', ?_, s', u'⟩
      simp only [p26arbw, p26arbo, p26arbol, bin_lss, bnd_some, hd, p26arbor, p26arborl, condV_bool, cond_true, p26arborr, p26arborrl, p26arborrlb, p26arborrlbl, ix, lw, p26arborrlbr, p26arborrlbrl, bin_eql, hzd, toBK_bool, cond_false, p26arborrlbrr, p26arborrlbrrb]
      rw [q]
      simp only [p26arborrr, bin_add, bnd_some, hs]
      exact e
end Go.Proofs.YtlhppeikbgolbaaDoor.IdsD
