/-
  IdsRange: the iterator of All under any body of a loop that goes over it.
-/
import Derived.Test.YtlhppeikbgolbaaDoorIdsS8
namespace Go.Proofs.YtlhppeikbgolbaaDoor.IdsD
open Go Go.AM Go.IdsN

/-- What the rounds of a loop over All's iterator do: Sp: it goes on; St: it is left. -/
structure Rounds (k id wb : Nat) (W : List Nat) (tk : Nat → Bool) (Sp St : H → List Nat → Prop) : Prop where
  tab : ∀ h R, Sp h R → TabAt h
  wds : ∀ h R, Sp h R → h.get wb = some (.cells (W.map fun (w : Nat) => Value.int .u64 (w : Int)) (some 1))
  step : ∀ h R i, Sp h R → R.length ≤ 65536 → 0 < i → i < 65536 → tk i = true → (∀ x ∈ R, x < i) →
    (∃ h', callB Tryd.prog 1 [] (k + 2) 1099511627776 [.int .i64 (.ofNat id), .int .u16 (i : Int)] h = some (.bool true, h') ∧ Sp h' (R ++ [i])) ∨
    (∃ h', callB Tryd.prog 1 [] (k + 2) 1099511627776 [.int .i64 (.ofNat id), .int .u16 (i : Int)] h = some (.bool false, h') ∧ St h' (R ++ [i]))

theorem inner26G (k L : Nat) {β : Type} (kr : H → Option β) (kx2 : Value → Value → Value → Value → H → Option β) (x7 x6 x5 : Value) {id wb : Nat} {W : List Nat} {tk : Nat → Bool} {Sp St : H → List Nat → Prop} (G : Rounds k id wb W tk Sp St) {w' j : Nat} (hj : j < 1024)
    (hw' : ∀ c, c < 64 → w'.testBit c = (decide (0 < 64 * j + c) && tk (64 * j + c))) :
    ∀ (d a m x : Nat) (h : H) (R : List Nat), a + d = 64 → d < m → x < 2 ^ 64 → (∀ c, x.testBit c = (decide (a ≤ c) && (decide (c < 64) && w'.testBit c))) → Sp h R → Upto tk (64 * j + a) R →
      (∃ h' R', p26arborrlbrrbw (callB Tryd.prog 1 [] (k + 2)) L kr kx2 m (.int .u64 (x : Int)) (.int .i64 (j : Int)) x7 x6 (yv id) x5 h = kx2 x7 x6 (yv id) x5 h' ∧ Sp h' R' ∧ Upto tk (64 * (j + 1)) R') ∨
      (∃ h' R' q, p26arborrlbrrbw (callB Tryd.prog 1 [] (k + 2)) L kr kx2 m (.int .u64 (x : Int)) (.int .i64 (j : Int)) x7 x6 (yv id) x5 h = kr h' ∧ St h' R' ∧ q ≤ 65536 ∧ Upto tk q R') := by
  intro d
  induction d using Nat.strongRecOn with
  | _ d ih =>
    intro a m x h R had hm hx hxb s u
    obtain ⟨m, rfl⟩ : ∃ q, m = q + 1 := ⟨m - 1, by omega⟩
    by_cases hz : x = 0
    · have hd : decide ((x : Int) = 0) = true := by rw [decide_eq_true_iff]; omega
      refine .inl ⟨h, R, ?_, s, u.1, fun i => ?_⟩
      · simp only [p26arborrlbrrbw, p26arborrlbrrbo, bin_neq, bnd_some, hd, Bool.not_true, toBK_bool, cond_false]
      · rw [u.2 i]
        constructor
        · rintro ⟨h1, h2, h3⟩; exact ⟨h1, by omega, h3⟩
        · rintro ⟨h1, h2, h3⟩
          refine ⟨h1, ?_, h3⟩
          rcases Nat.lt_or_ge i (64 * j + a) with hl | hl
          · exact hl
          · have hb := hxb (i - 64 * j)
            have hw := hw' (i - 64 * j) (by omega)
            rw [show 64 * j + (i - 64 * j) = i by omega, h3] at hw
            rw [hw, hz] at hb
            have e1 : decide (a ≤ i - 64 * j) = true := decide_eq_true (by omega)
            have e2 : decide (i - 64 * j < 64) = true := decide_eq_true (by omega)
            have e3 : decide (0 < i) = true := decide_eq_true h1
            rw [e1, e2, e3, Nat.zero_testBit] at hb
            cases hb
    · obtain ⟨b, l⟩ := exists_lowest hx hz
      have hb := hxb b
      rw [l.at'] at hb
      have hb' := hb.symm
      simp only [Bool.and_eq_true, decide_eq_true_eq] at hb'
      obtain ⟨b1, b2, b3⟩ := hb'
      have hw := hw' b b2
      rw [b3] at hw
      have hw2 := hw.symm
      simp only [Bool.and_eq_true, decide_eq_true_eq] at hw2
      obtain ⟨w1, w2⟩ := hw2
      have hd : decide ((x : Int) = 0) = false := by rw [decide_eq_false_iff_not]; omega
      have htab : TabAt h := G.tab h R s
      have s24 := S24 (k + 1) htab hx l
      have hlen := u.len
      have em : IntKind.i64.wrap ((j : Int) * 64) = ((64 * j : Nat) : Int) := by rw [wrap64 (by omega) (by omega)]; omega
      have ea : IntKind.i64.wrap (((64 * j : Nat) : Int) + (b : Int)) = ((64 * j + b : Nat) : Int) := by rw [wrap64 (by omega) (by omega)]; omega
      have ec : A.conv Tryd.prog 3 25 (.int .i64 ((64 * j + b : Nat) : Int)) = some (.int .u16 ((64 * j + b : Nat) : Int)) := by
        have : A.conv Tryd.prog 3 25 (.int .i64 ((64 * j + b : Nat) : Int)) = some (.int .u16 (IntKind.u16.wrap ((64 * j + b : Nat) : Int))) := rfl
        rw [this, IntWalk.u16_in _ ⟨by omega, by omega⟩]
      have es := subU Tryd.prog 52 (x := x) (y := 1) (by omega) hx
      have es' : A.bin Tryd.prog .sub 52 (.int .u64 (x : Int)) (.int .u64 1) = some (.int .u64 ((x - 1 : Nat) : Int)) := es
      have en := andU Tryd.prog 52 hx (show x - 1 < 2 ^ 64 by omega)
      have hU : Upto tk (64 * j + (b + 1)) (R ++ [64 * j + b]) := by
        refine ⟨List.pairwise_append.2 ⟨u.1, by simp, fun y hy z hz => ?_⟩, fun i => ?_⟩
        · have := ((u.2 y).1 hy).2.1
          simp at hz; omega
        · rw [List.mem_append, u.2 i, List.mem_singleton]
          constructor
          · rintro (⟨h1, h2, h3⟩ | rfl)
            · exact ⟨h1, by omega, h3⟩
            · exact ⟨w1, by omega, w2⟩
          · rintro ⟨h1, h2, h3⟩
            rcases Nat.lt_or_ge i (64 * j + a) with hl | hl
            · exact .inl ⟨h1, hl, h3⟩
            · by_cases e : i = 64 * j + b
              · exact .inr e
              · have hbl := l.below (i - 64 * j) (by omega)
                have hq := hw' (i - 64 * j) (by omega)
                rw [show 64 * j + (i - 64 * j) = i by omega, h3] at hq
                rw [hxb, hq] at hbl
                have e1 : decide (a ≤ i - 64 * j) = true := decide_eq_true (by omega)
                have e2 : decide (i - 64 * j < 64) = true := decide_eq_true (by omega)
                have e3 : decide (0 < i) = true := decide_eq_true h1
                rw [e1, e2, e3] at hbl
                cases hbl
      have hB : ∀ c, (x &&& (x - 1)).testBit c = (decide (b + 1 ≤ c) && (decide (c < 64) && w'.testBit c)) := fun c => by
        rw [l.and_pred c]
        rcases Nat.lt_or_ge c b with hl | hl
        · have : ¬ b + 1 ≤ c := by omega
          rw [l.below c hl, decide_eq_false this]; rfl
        · by_cases e : c = b
          · subst e
            have : ¬ c + 1 ≤ c := by omega
            rw [decide_eq_false this]; simp
          · have h2 : a ≤ c := by omega
            have h3 : b + 1 ≤ c := by omega
            rw [hxb c, decide_eq_true h2, decide_eq_true h3, decide_eq_true e]; simp
      have hlt : ∀ y ∈ R, y < 64 * j + b := fun y hy => by have := ((u.2 y).1 hy).2.1; omega
      rcases G.step h R (64 * j + b) s (by omega) w1 (by omega) w2 hlt with ⟨h1, e1, s1⟩ | ⟨h1, e1, s1⟩
      · have ecv : callV (callB Tryd.prog 1 [] (k + 2)) (yv id) [.int .u16 ((64 * j + b : Nat) : Int)] h = some (.bool true, h1) := e1
        have hrun : p26arborrlbrrbw (callB Tryd.prog 1 [] (k + 2)) L kr kx2 (m + 1) (.int .u64 (x : Int)) (.int .i64 (j : Int)) x7 x6 (yv id) x5 h = p26arborrlbrrbw (callB Tryd.prog 1 [] (k + 2)) L kr kx2 m (.int .u64 ((x &&& (x - 1) : Nat) : Int)) (.int .i64 (j : Int)) x7 x6 (yv id) x5 h1 := by
          simp only [p26arborrlbrrbw, p26arborrlbrrbo, bin_neq, bnd_some, hd, Bool.not_false, toBK_bool, cond_true, bin_mul, em, s24, bnd2_some, bin_add, ea, ec, ecv, un_not, Bool.not_true, cond_false, es', en]
        rw [hrun]
        exact ih (64 - (b + 1)) (by omega) (b + 1) m (x &&& (x - 1)) h1 (R ++ [64 * j + b]) (by omega) (by omega) (Nat.and_lt_two_pow x (by omega)) hB s1 hU
      · have ecv : callV (callB Tryd.prog 1 [] (k + 2)) (yv id) [.int .u16 ((64 * j + b : Nat) : Int)] h = some (.bool false, h1) := e1
        refine .inr ⟨h1, R ++ [64 * j + b], 64 * j + (b + 1), ?_, s1, by omega, hU⟩
        simp only [p26arborrlbrrbw, p26arborrlbrrbo, bin_neq, bnd_some, hd, Bool.not_false, toBK_bool, cond_true, bin_mul, em, s24, bnd2_some, bin_add, ea, ec, ecv, un_not]

theorem outer26G (k L : Nat) (hL : 100 < L) {β : Type} (kr kx0 : H → Option β) {id wb c : Nat} {W : List Nat} {tk : Nat → Bool} {Sp St : H → List Nat → Prop} (G : Rounds k id wb W tk Sp St) (lW : W.length = 1024) (lt : ∀ w ∈ W, w < 2 ^ 64)
    (bits : ∀ j w, W[j]? = some w → ∀ c, c < 64 → w.testBit c = tk (64 * j + c)) :
    ∀ (d j m : Nat) (h : H) (R : List Nat), j + d = 1024 → d < m → Sp h R → Upto tk (64 * j) R →
      (∃ h' R', p26arbw (callB Tryd.prog 1 [] (k + 2)) L kr kx0 m (.int .i64 ((1024 : Nat) : Int)) (.int .i64 (j : Int)) (yv id) (.slice (some ⟨wb, 0, none⟩) 1024 c) h = kx0 h' ∧ Sp h' R' ∧ Upto tk 65536 R') ∨
      (∃ h' R' q, p26arbw (callB Tryd.prog 1 [] (k + 2)) L kr kx0 m (.int .i64 ((1024 : Nat) : Int)) (.int .i64 (j : Int)) (yv id) (.slice (some ⟨wb, 0, none⟩) 1024 c) h = kr h' ∧ St h' R' ∧ q ≤ 65536 ∧ Upto tk q R') := by
  intro d
  induction d with
  | zero =>
    intro j m h R hj hm s u
    obtain ⟨m, rfl⟩ : ∃ q, m = q + 1 := ⟨m - 1, by omega⟩
    obtain rfl : j = 1024 := by omega
    refine .inl ⟨h, R, ?_, s, u⟩
    have hd : decide (((1024 : Nat) : Int) < ((1024 : Nat) : Int)) = false := rfl
    simp only [p26arbw, p26arbo, p26arbol, bin_lss, bnd_some, hd, p26arbor, p26arborl, condV_bool, cond_false]
  | succ d ih =>
    intro j m h R hj hm s u
    obtain ⟨m, rfl⟩ : ∃ q, m = q + 1 := ⟨m - 1, by omega⟩
    have hd : decide ((j : Int) < ((1024 : Nat) : Int)) = true := by rw [decide_eq_true_iff]; omega
    have hjl : j < W.length := by omega
    have hw : W[j]? = some W[j] := List.getElem?_eq_getElem hjl
    have hlt := lt W[j] (List.getElem_mem hjl)
    have hb := bits j _ hw
    have lw := load_word (G.wds h R s) hw
    have ix := idxS_eq 1 wb 0 1024 c j .i64 (by omega)
    rw [Nat.zero_add, Nat.mul_one] at ix
    have hs := wrap_succ (n := j) (by omega)
    have key : ∀ w', w' < 2 ^ 64 → (∀ c, c < 64 → w'.testBit c = (decide (0 < 64 * j + c) && tk (64 * j + c))) → _ := fun w' h1 h2 =>
      inner26G k L (β := β) kr (fun x7 x6 x0 x5 h => p26arborrr (callB Tryd.prog 1 [] (k + 2)) L x7 x6 x0 x5 h (fun x6 x7 x0 x5 h => p26arbw (callB Tryd.prog 1 [] (k + 2)) L kr kx0 m x6 x7 x0 x5 h))
        (.int .i64 (j : Int)) (.int .i64 ((1024 : Nat) : Int)) (.slice (some ⟨wb, 0, none⟩) 1024 c) G (show j < 1024 by omega) h2 64 0 L w' h R (by omega) (by omega) h1 (fun c => by
          by_cases hc : c < 64
          · simp [hc]
          · rw [Nat.testBit_lt_two_pow (Nat.lt_of_lt_of_le h1 (Nat.pow_le_pow_right (by omega) (by omega)))]; simp [hc]) s u
    by_cases hz : j = 0
    · have hzd : decide ((j : Int) = 0) = true := by rw [decide_eq_true_iff]; omega
      have e1 := andNotU Tryd.prog 52 (x := W[j]) (y := 1)
      have e1' : A.bin Tryd.prog .andNot 52 (.int .u64 (W[j] : Int)) (.int .u64 1) = some (.int .u64 ((anU W[j] 1 : Nat) : Int)) := e1
      have hk := key (anU W[j] 1) (anU_lt _ _) (fun c hc => by
        rw [anU_bit hlt, hb c hc, show (1 : Nat) = 2 ^ 0 from rfl, Nat.testBit_two_pow, hz]
        by_cases h : c = 0
        · subst h; simp
        · have h1 : ¬ 0 = c := fun e => h e.symm
          have h2 : 0 < c := by omega
          simp [hc, h1, h2])
      rcases hk with ⟨h1, R1, q, s1, u1⟩ | ⟨h1, R1, qq, q, s1, u1⟩
      · have hrun : p26arbw (callB Tryd.prog 1 [] (k + 2)) L kr kx0 (m + 1) (.int .i64 ((1024 : Nat) : Int)) (.int .i64 (j : Int)) (yv id) (.slice (some ⟨wb, 0, none⟩) 1024 c) h = p26arbw (callB Tryd.prog 1 [] (k + 2)) L kr kx0 m (.int .i64 ((1024 : Nat) : Int)) (.int .i64 ((j + 1 : Nat) : Int)) (yv id) (.slice (some ⟨wb, 0, none⟩) 1024 c) h1 := by
          simp only [p26arbw, p26arbo, p26arbol, bin_lss, bnd_some, hd, p26arbor, p26arborl, condV_bool, cond_true, p26arborr, p26arborrl, p26arborrlb, p26arborrlbl, ix, lw, p26arborrlbr, p26arborrlbrl, bin_eql, hzd, toBK_bool, e1', p26arborrlbrr, p26arborrlbrrb]
          rw [q]
          simp only [p26arborrr, bin_add, bnd_some, hs]
        rw [hrun]
        exact ih (j + 1) m h1 R1 (by omega) (by omega) s1 u1
      · refine .inr ⟨h1, R1, qq, ?_, s1, u1⟩
        simp only [p26arbw, p26arbo, p26arbol, bin_lss, bnd_some, hd, p26arbor, p26arborl, condV_bool, cond_true, p26arborr, p26arborrl, p26arborrlb, p26arborrlbl, ix, lw, p26arborrlbr, p26arborrlbrl, bin_eql, hzd, toBK_bool, e1', p26arborrlbrr, p26arborrlbrrb]
        exact q
    · have hzd : decide ((j : Int) = 0) = false := by rw [decide_eq_false_iff_not]; omega
      have hk := key W[j] hlt (fun c hc => by
        have : 0 < 64 * j + c := by omega
        rw [hb c hc, decide_eq_true this]; rfl)
      rcases hk with ⟨h1, R1, q, s1, u1⟩ | ⟨h1, R1, qq, q, s1, u1⟩
      · have hrun : p26arbw (callB Tryd.prog 1 [] (k + 2)) L kr kx0 (m + 1) (.int .i64 ((1024 : Nat) : Int)) (.int .i64 (j : Int)) (yv id) (.slice (some ⟨wb, 0, none⟩) 1024 c) h = p26arbw (callB Tryd.prog 1 [] (k + 2)) L kr kx0 m (.int .i64 ((1024 : Nat) : Int)) (.int .i64 ((j + 1 : Nat) : Int)) (yv id) (.slice (some ⟨wb, 0, none⟩) 1024 c) h1 := by
          simp only [p26arbw, p26arbo, p26arbol, bin_lss, bnd_some, hd, p26arbor, p26arborl, condV_bool, cond_true, p26arborr, p26arborrl, p26arborrlb, p26arborrlbl, ix, lw, p26arborrlbr, p26arborrlbrl, bin_eql, hzd, toBK_bool, cond_false, p26arborrlbrr, p26arborrlbrrb]
          rw [q]
          simp only [p26arborrr, bin_add, bnd_some, hs]
        rw [hrun]
        exact ih (j + 1) m h1 R1 (by omega) (by omega) s1 u1
      · refine .inr ⟨h1, R1, qq, ?_, s1, u1⟩
        simp only [p26arbw, p26arbo, p26arbol, bin_lss, bnd_some, hd, p26arbor, p26arborl, condV_bool, cond_true, p26arborr, p26arborrl, p26arborrlb, p26arborrlbl, ix, lw, p26arborrlbr, p26arborrlbrl, bin_eql, hzd, toBK_bool, cond_false, p26arborrlbrr, p26arborrlbrrb]
        exact q

/-- The iterator, told to any such body. -/
theorem S26G (k : Nat) {h : H} {id wb t c : Nat} {W : List Nat} {tk : Nat → Bool} {Sp St : H → List Nat → Prop} (G : Rounds (k + 1027) id wb W tk Sp St) (lW : W.length = 1024) (lt : ∀ w ∈ W, w < 2 ^ 64)
    (bits : ∀ j w, W[j]? = some w → ∀ c, c < 64 → w.testBit c = tk (64 * j + c)) (s : Sp h []) (gt : h.get t = some (.cells [.slice (some ⟨wb, 0, none⟩) 1024 c] (some 0))) :
    ∃ h' R, callB Tryd.prog 1 [] (k + 1030) 26 [yv id, ptrV t] h = some (.tuple ⟨[]⟩, h') ∧ ((Sp h' R ∧ Upto tk 65536 R) ∨ (St h' R ∧ ∃ q, q ≤ 65536 ∧ Upto tk q R)) := by
  rw [F26eq [] rfl]
  have l1 : A.load false 1 (ptrV t) h = some (.slice (some ⟨wb, 0, none⟩) 1024 c) := by rw [load1_eq, gt]; rfl
  rcases outer26G (k + 1027) (k + 1029) (by omega) (fun h => some (Value.tuple ⟨[]⟩, h)) (fun h => some (Value.tuple ⟨[]⟩, h)) G (c := c) lW lt bits 1024 0 (k + 1029) h [] (by omega) (by omega) s
    ⟨List.Pairwise.nil, fun i => by simp⟩ with ⟨h', R, e, s', u'⟩ | ⟨h', R, q, e, s', hq, u'⟩
  · refine ⟨h', R, ?_, .inl ⟨s', u'⟩⟩
    simp only [F26, p26a, p26al, l1, bnd_some, lenS_eq, p26ar, p26arb]
    exact e
  · refine ⟨h', R, ?_, .inr ⟨s', q, hq, u'⟩⟩
    simp only [F26, p26a, p26al, l1, bnd_some, lenS_eq, p26ar, p26arb]
    exact e

theorem Upto.part {tk : Nat → Bool} {q : Nat} {R Rf : List Nat} (u : Upto tk q R) (uf : Upto tk 65536 Rf) (hq : q ≤ 65536) : R.length ≤ Rf.length := by
  have e : R = Rf.filter (fun x => decide (x < q)) := sorted_eq _ _ u.1 (uf.1.filter _) fun i => by
    rw [List.mem_filter, u.2 i, uf.2 i, decide_eq_true_eq]
    constructor
    · rintro ⟨a, b, c⟩; exact ⟨⟨a, by omega, c⟩, b⟩
    · rintro ⟨⟨a, _, c⟩, b⟩; exact ⟨a, b, c⟩
  rw [e]
  exact List.length_filter_le _ _
end Go.Proofs.YtlhppeikbgolbaaDoor.IdsD
