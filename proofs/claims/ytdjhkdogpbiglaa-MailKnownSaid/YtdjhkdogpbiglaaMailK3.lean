/-
  MailKnown: the law, awake known.
-/
import Derived.Test.YtdjhkdogpbiglaaMailK2
namespace Go.Proofs.Ytdjhkdogpbiglaa.MailD
open Go Go.AM Go.Proofs.Ytdjhkdogpbiglaa.MailF6

theorem same_ptr (a : Option Nat) : AM.same (match a with | some e => ptrV e | none => .pointer none) (match a with | some e => ptrV e | none => .pointer none) = true := by
  cases a with
  | none => rfl
  | some e => show (Nat.beq e e && Nat.beq 0 0) = true; simp

theorem fill6 (k L : Nat) {β : Type} (kr : Value → H → Option β) (kx : Value → H → Option β) {h0 : H} {g B F : Nat} : ∀ (d i n : Nat) (h : H) (bs : List Value) (os : List Nat) (s : St), i + d = 64 → d < n →
    Kn h0 h g B F bs os s 0 i i (if i = 64 then 1 else 0) (if i = 64 then 1 else 0) →
    ∃ h' bs' os' s', p6arrlrbw (callB Try.prog 0 [9] (k + 20)) L kr kx n (.int .i64 (i : Int)) (ptrV g) h = kx (ptrV g) h' ∧ Kn h0 h' g B F bs' os' s' 0 64 64 1 1 := by
  intro d
  induction d with
  | zero =>
    intro i n h bs os s hi hn v
    obtain ⟨n, rfl⟩ : ∃ q, n = q + 1 := ⟨n - 1, by omega⟩
    obtain rfl : i = 64 := by omega
    have hd : decide (((64 : Nat) : Int) < 64) = false := rfl
    refine ⟨h, bs, os, s, ?_, v⟩
    simp only [p6arrlrbw, p6arrlrbo, p6arrlrbol, bin_lss, hd, bnd_some, toBK_bool, cond_false]
  | succ d ih =>
    intro i n h bs os s hi hn v
    obtain ⟨n, rfl⟩ : ∃ q, n = q + 1 := ⟨n - 1, by omega⟩
    have hne : i ≠ 64 := by omega
    rw [if_neg hne] at v
    have hd : decide ((i : Int) < 64) = true := by rw [decide_eq_true_iff]; omega
    have hw : IntKind.i64.wrap ((i : Int) + 1) = ((i + 1 : Nat) : Int) := wrap_succ (by omega)
    have hroom : roomB s 63 0 = true := roomB_true fun j hj => by
      rw [v.fu]
      split
      · omega
      · split <;> omega
    have e21 : callB Try.prog 0 [9] (k + 20) 21 [ptrV g, .int .i64 63, .int .i64 0] h = some (.bool true, h) := by
      have := T21 k v.gr (f := 63) (l := 0) (by rw [v.sw]; omega) (by omega)
      rw [hroom] at this
      exact this
    obtain ⟨c1, h1, h2, bs2, os2, s2, e29, e17, v2⟩ := v.putA k (by omega) (by omega) (by omega) (by omega)
    obtain ⟨c3, h3, h4, bs4, os4, s4, e29b, e17b, v4⟩ := v2.putB k (by omega) (by omega) (by split <;> omega) (by omega) (i : Int)
    have v4' : Kn h0 h4 g B F bs4 os4 s4 0 (i + 1) (i + 1) (if i + 1 = 64 then 1 else 0) (if i + 1 = 64 then 1 else 0) := v4
    obtain ⟨h', bs', os', s', e, v'⟩ := ih (i + 1) n h4 bs4 os4 s4 (by omega) (by omega) v4'
    refine ⟨h', bs', os', s', ?_, v'⟩
    simp only [p6arrlrbw, p6arrlrbo, p6arrlrbol, bin_lss, hd, bnd_some, toBK_bool, cond_true, p6arrlrbor, p6arrlrborl, p6arrlrborlb, p6arrlrborlbl, e21, bnd2_some, un_not, Bool.not_true, cond_false, e29, e17, e29b, e17b, p6arrlrborlbr, condV_bool, p6arrlrborr, bin_add, hw]
    exact e

/-- About each bound. -/
theorem mid6 (k L : Nat) {β : Type} (kn : Value → Value → H → Option β) {h0 h : H} {g B F : Nat} {bs : List Value} {os : List Nat} {s : St} (v : Kn h0 h g B F bs os s 0 64 64 1 1) :
    ∃ h', p6arrrll (callB Try.prog 0 [9] (k + 20)) L (ptrV g) h kn = kn (.bool false) (ptrV g) h' ∧ Kn h0 h' g B F bs os s 0 64 64 1 1 := by
  obtain ⟨c1, h1, e1, m1, x1⟩ := T29 (k + 19) h 64
  have v1 := v.ext x1
  have hlen : (s.bx (pl 64 63 63 7)).length = 64 := by rw [v.A'.len, List.length_range']
  have e2 : callB Try.prog 0 [9] (k + 20) 17 [ptrV g, .int .i64 63, .int .i64 63, .int .i64 7, c1] h1 = some (.bool false, h1) :=
    T17f (k + 18) v1.gr (f := 63) (t := 63) (l := 7) (by rw [v.sw]; omega) (by rw [v.sw]; omega) (by omega) (by omega) (n := 1) (by omega) m1.len (by rw [v.sw, v.sm]; exact hlen)
  have e3 : callB Try.prog 0 [9] (k + 20) 21 [ptrV g, .int .i64 63, .int .i64 6] h1 = some (.bool false, h1) := by
    have := T21 k v1.gr (f := 63) (l := 6) (by rw [v.sw]; omega) (by omega)
    rw [roomB_false (j := 0) (by omega) (by rw [v.fu]; simp)] at this
    exact this
  have e4 : callB Try.prog 0 [9] (k + 20) 21 [ptrV g, .int .i64 63, .int .i64 7] h1 = some (.bool true, h1) := by
    have := T21 k v1.gr (f := 63) (l := 7) (by rw [v.sw]; omega) (by omega)
    rw [roomB_true (fun j hj => by omega)] at this
    exact this
  have e5 : callB Try.prog 0 [9] (k + 20) 23 [ptrV g, .int .i64 63, .int .i64 63, .int .i64 7] h1 = some (.int .i64 64, h1) := by
    have := T23 (k + 18) v1.gr (f := 63) (t := 63) (l := 7) (by rw [v.sw]; omega) (by rw [v.sw]; omega) (by omega) (by omega)
    rw [v.sw, hlen] at this
    exact this
  have e6 : callB Try.prog 0 [9] (k + 20) 25 [ptrV g] h1 = some (.int .i64 128, h1) := by
    have := T25 (k + 19) v1.gr
    rw [v.cn] at this
    exact this
  obtain ⟨c2, h2, e7, _, x2⟩ := T29 (k + 19) h1 1
  have v2 := v1.ext x2
  have e8 := T17n (k + 18) v2.gr (f := 64) (t := 0) (l := 1) (by unfold Ok; rw [v.sw]; omega) c2
  obtain ⟨c3, h3, e9, _, x3⟩ := T29 (k + 19) h2 1
  have v3 := v2.ext x3
  have e10 := T17n (k + 18) v3.gr (f := 0) (t := 64) (l := 1) (by unfold Ok; rw [v.sw]; omega) c3
  obtain ⟨c4, h4, e11, _, x4⟩ := T29 (k + 19) h3 1
  have v4 := v3.ext x4
  have e12 := T17n (k + 18) v4.gr (f := -1) (t := 0) (l := 1) (by unfold Ok; omega) c4
  obtain ⟨c5, h5, e13, _, x5⟩ := T29 (k + 19) h4 1
  have v5 := v4.ext x5
  have e14 := T17n (k + 18) v5.gr (f := 0) (t := -1) (l := 1) (by unfold Ok; omega) c5
  obtain ⟨c6, h6, e15, _, x6⟩ := T29 (k + 19) h5 1
  have v6 := v5.ext x6
  have e16 := T17n (k + 18) v6.gr (f := 0) (t := 0) (l := 0) (by unfold Ok; omega) c6
  have e17 := T21n (k + 19) v6.gr (f := -1) (l := 0) (by omega)
  have e18 := T21n (k + 19) v6.gr (f := 0) (l := -1) (by omega)
  refine ⟨h6, ?_, v6⟩
  simp only [p6arrrll, e1, bnd2_some, e2, toBK_bool, cond_false, e3, e4, un_not, Bool.not_true, bnd_some, e5, bin_neq, decide_true, e6, e7, e8, e9, e10, e11, e12, e13, e14, e15, e16, e17, e18]

theorem empty6 (k L : Nat) {β : Type} (kr : Value → H → Option β) (kx : H → Option β) {h0 : H} {g B F : Nat} : ∀ (d i n : Nat) (h : H) (bs : List Value) (os : List Nat) (s : St), i + d = 64 → d < n →
    Kn h0 h g B F bs os s i d 64 (if d = 64 then 1 else 0) 1 →
    ∃ h', p6arrrrlrbw (callB Try.prog 0 [9] (k + 20)) L kr kx n (.int .i64 (i : Int)) (ptrV g) h = kx h' := by
  intro d
  induction d with
  | zero =>
    intro i n h bs os s hi hn v
    obtain ⟨n, rfl⟩ : ∃ q, n = q + 1 := ⟨n - 1, by omega⟩
    obtain rfl : i = 64 := by omega
    have hd : decide (((64 : Nat) : Int) < 64) = false := rfl
    refine ⟨h, ?_⟩
    simp only [p6arrrrlrbw, p6arrrrlrbo, p6arrrrlrbol, bin_lss, hd, bnd_some, toBK_bool, cond_false]
  | succ d ih =>
    intro i n h bs os s hi hn v
    obtain ⟨n, rfl⟩ : ∃ q, n = q + 1 := ⟨n - 1, by omega⟩
    have hd : decide ((i : Int) < 64) = true := by rw [decide_eq_true_iff]; omega
    have hw : IntKind.i64.wrap ((i : Int) + 1) = ((i + 1 : Nat) : Int) := wrap_succ (by omega)
    obtain ⟨c, h1, bs1, os1, s1, e12, cm, v1⟩ := v.takeA k (by omega) (by omega) (by split <;> omega) (by omega)
    have hx : (if d + 1 = 64 then (if d + 1 = 64 then (1 : Int) else 0) - 1 else (if d + 1 = 64 then 1 else 0)) = 0 := by
      by_cases e : d + 1 = 64
      · simp [e]
      · simp [e]
    rw [hx] at v1
    have e30 := T30 (k + 19) cm (i : Int)
    rw [decide_eq_true rfl] at e30
    have e21a : callB Try.prog 0 [9] (k + 20) 21 [ptrV g, .int .i64 63, .int .i64 6] h1 = some (.bool true, h1) := by
      have := T21 k v1.gr (f := 63) (l := 6) (by rw [v1.sw]; omega) (by omega)
      rw [roomB_true (fun j hj => by
        rw [v1.fu]
        split
        · omega
        · split <;> omega)] at this
      exact this
    have e21b : callB Try.prog 0 [9] (k + 20) 21 [ptrV g, .int .i64 63, .int .i64 0] h1 = some (.bool false, h1) := by
      have := T21 k v1.gr (f := 63) (l := 0) (by rw [v1.sw]; omega) (by omega)
      rw [roomB_false (j := 0) (by omega) (by rw [v1.fu]; simp)] at this
      exact this
    have e21c : callB Try.prog 0 [9] (k + 20) 21 [ptrV g, .int .i64 63, .int .i64 1] h1 = some (.bool true, h1) := by
      have := T21 k v1.gr (f := 63) (l := 1) (by rw [v1.sw]; omega) (by omega)
      rw [roomB_true (fun j hj => by
        rw [v1.fu]
        split
        · omega
        · split <;> omega)] at this
      exact this
    have ex0 : A.extract 0 (.tuple ⟨[c, .bool true]⟩) = some c := rfl
    have ex1 : A.extract 1 (.tuple ⟨[c, .bool true]⟩) = some (.bool true) := rfl
    obtain ⟨h', e⟩ := ih (i + 1) n h1 bs1 os1 s1 (by omega) (by omega) (by rw [if_neg (by omega)]; exact v1)
    refine ⟨h', ?_⟩
    simp only [p6arrrrlrbw, p6arrrrlrbo, p6arrrrlrbol, bin_lss, hd, bnd_some, toBK_bool, cond_true, p6arrrrlrbor, p6arrrrlrborl, p6arrrrlrborlb, p6arrrrlrborlbl, e12, bnd2_some, ex0, ex1, p6arrrrlrborlbr, p6arrrrlrborlbrl, e30, un_not, Bool.not_true, cond_false, e21a, e21b, e21c, p6arrrrlrborlbrr, condV_bool, p6arrrrlrborr, bin_add, hw]
    exact e

/-- What may not be; commands held against each other. -/
theorem mid6b (k L : Nat) {β : Type} (kn : Value → H → Option β) (h : H) : ∃ h', p6arrrrrll (callB Try.prog 0 [9] (k + 20)) L h kn = kn (.bool false) h' := by
  have q1 := T10n (k + 19) h (w := 0) (m := 1) (by omega)
  have q2 := T10n (k + 19) h (w := 65) (m := 1) (by omega)
  have q3 := T10n (k + 19) h (w := 1) (m := 0) (by omega)
  have q4 := T10n (k + 19) h (w := 1) (m := 65) (by omega)
  have en : A.bin Try.prog .neq 25 (.pointer none) (.pointer none) = some (.bool false) := by kernel_rfl
  obtain ⟨c1, h1, e1, m1, x1⟩ := T29 (k + 19) h 1
  obtain ⟨c2, h2, e2, m2, x2⟩ := T29 (k + 19) h1 2
  obtain ⟨h3, e3, x3⟩ := T31ne (k + 16) (m1.extBut (S := fun _ => False) x2.but (by simp)) m2 (by omega)
  have eb : A.buildSlice 38 0 MailF6.Z71L [] h3 = some (.slice (some ⟨h3.next, 0, none⟩) 0 1, h3.push (.cells [] (some 38))) := rfl
  have e4 := T31nil (k + 16) (h3.push (.cells [] (some 38))) h3.next 1
  have e5 := T32nil (k + 17) (h3.push (.cells [] (some 38)))
  have ln : A.lenS (.slice none 0 0) = some (.int .i64 0) := rfl
  refine ⟨h3.push (.cells [] (some 38)), ?_⟩
  simp only [p6arrrrrll, q1, bnd2_some, en, bnd_some, toBK_bool, cond_false, q2, q3, q4, e1, e2, e3, eb, e4, un_not, Bool.not_true, e5, ln, bin_neq, decide_true]

/-- One of the two that are no grids. -/
theorem noG6 (k L : Nat) {β : Type} (kn : Value → Value → H → Option β) (kr : Value → H → Option β) (kx : H → Option β) {h : H} {x7 x q : Value} {i : Nat} (hi : i < 2) (s : NoG h x) (hs : AM.same x x = true) (hlen : A.lenS x7 = some (.int .i64 2)) (ex : A.idxS 1 x7 (.int .i64 (i : Int)) = some q) (ld : ∀ g, Ext h g → A.load false 1 q g = some x) :
    ∃ h', p6arrrrrrrrlrbo (callB Try.prog 0 [9] (k + 20)) L (.int .i64 (i : Int)) x7 h kn kr kx = kn (.int .i64 ((i + 1 : Nat) : Int)) x7 h' ∧ Ext h h' := by
  have hdd : decide ((i : Int) < 2) = true := by rw [decide_eq_true_iff]; omega
  have hw : IntKind.i64.wrap ((i : Int) + 1) = ((i + 1 : Nat) : Int) := wrap_succ (by omega)
  have e14 := G14 (k + 18) s
  have e12 := G12 (k + 18) s
  obtain ⟨c, h1, e29, _, x1⟩ := T29 (k + 19) h 1
  have s1 := s.ext x1
  have e17 := G17 (k + 18) s1 c
  have e21 := G21 (k + 19) s1
  have e23 := G23 (k + 18) s1
  have e25 := G25 (k + 19) s1
  have e27 := G27 (k + 18) s1
  have l0 := ld h (Ext.refl h)
  have l1 := ld h1 x1
  have kc : chk (some x) x = true := hs
  have ex0 : A.extract 0 (.tuple ⟨[.slice none 0 0, .bool false]⟩) = some (.slice none 0 0) := rfl
  have ex1 : A.extract 1 (.tuple ⟨[.slice none 0 0, .bool false]⟩) = some (.bool false) := rfl
  refine ⟨h1, ?_, x1⟩
  simp only [p6arrrrrrrrlrbo, p6arrrrrrrrlrbol, hlen, bnd_some, bin_lss, hdd, toBK_bool, cond_true, p6arrrrrrrrlrbor, p6arrrrrrrrlrborl, p6arrrrrrrrlrborlb, p6arrrrrrrrlrborlbl, ex, l0, e14, bnd2_some, ex0, ex1, p6arrrrrrrrlrborlbr, p6arrrrrrrrlrborlbrl, e12,
    p6arrrrrrrrlrborlbrr, p6arrrrrrrrlrborlbrrl, cond_false, e29, l1, kc, Bool.and_self, e17, e21, e23, bin_neq, decide_true, Bool.not_true, e25, e27, un_not, p6arrrrrrrrlrborlbrrr, condV_bool, p6arrrrrrrrlrborr, bin_add, hw]

theorem end6 (C : CF) (L : Nat) {β : Type} (kr : Value → H → Option β) (kx : H → Option β) (n : Nat) {x7 : Value} (h : H) (hlen : A.lenS x7 = some (.int .i64 2)) : p6arrrrrrrrlrbw C L kr kx (n + 1) (.int .i64 ((1 + 1 : Nat) : Int)) x7 h = kx h := by
  have hdd : decide (((1 + 1 : Nat) : Int) < 2) = false := rfl
  simp only [p6arrrrrrrrlrbw, p6arrrrrrrrlrbo, p6arrrrrrrrlrbol, hlen, bnd_some, bin_lss, hdd, toBK_bool, cond_false]

theorem law6 (k : Nat) (h0 : H) : ∃ h', callB Try.prog 0 [9] (k + 121) 6 [] h0 = some (.bool true, h') := by
  rw [F6eq [9] rfl]
  have aw : ∀ h, callB Try.prog 0 [9] (k + 120) 9 [] h = some (.bool true, h) := fun h => by kernel_rfl
  obtain ⟨h1, g, B, F, bs, os, e10, r1, x1, _⟩ := T10 (k + 119) h0 (w := 64) (m := 64) (by omega) (by omega)
  have e10' : callB Try.prog 0 [9] (k + 120) 10 [.int .i64 64, .int .i64 64] h0 = some (ptrV g, h1) := e10
  have v1 : Kn h0 h1 g B F bs os (newS 64 64) 0 0 0 (if (0 : Nat) = 64 then 1 else 0) (if (0 : Nat) = 64 then 1 else 0) :=
    ⟨r1, rfl, rfl, trivial, fun c hc => by simp [newS] at hc, rfl, fun i => by simp [newS], rfl⟩
  obtain ⟨h2, bs2, os2, s2, e2, v2⟩ := fill6 (k + 100) (k + 120) (fun x0 h => some (x0, h)) (fun x1 h => p6arrr (callB Try.prog 0 [9] (k + 120)) (k + 120) x1 h (fun x0 h => some (x0, h))) 64 0 (k + 120) h1 bs os (newS 64 64) (by omega) (by omega) v1
  have e2' : p6arrlrbw (callB Try.prog 0 [9] (k + 120)) (k + 120) (fun x0 h => some (x0, h)) (fun x1 h => p6arrr (callB Try.prog 0 [9] (k + 120)) (k + 120) x1 h (fun x0 h => some (x0, h))) (k + 120) (.int .i64 0) (ptrV g) h1 = p6arrr (callB Try.prog 0 [9] (k + 120)) (k + 120) (ptrV g) h2 (fun x0 h => some (x0, h)) := e2
  obtain ⟨h3, e3, v3⟩ := mid6 (k + 100) (k + 120) (fun x89 x1 h => p6arrrlr (callB Try.prog 0 [9] (k + 120)) (k + 120) x89 x1 h (fun x0 h => some (x0, h)) (fun x1 h => p6arrrr (callB Try.prog 0 [9] (k + 120)) (k + 120) x1 h (fun x0 h => some (x0, h)))) v2
  obtain ⟨h4, e4⟩ := empty6 (k + 100) (k + 120) (fun x0 h => some (x0, h)) (fun h => p6arrrrr (callB Try.prog 0 [9] (k + 120)) (k + 120) h (fun x0 h => some (x0, h))) 64 0 (k + 120) h3 bs2 os2 s2 (by omega) (by omega) v3
  have e4' : p6arrrrlrbw (callB Try.prog 0 [9] (k + 120)) (k + 120) (fun x0 h => some (x0, h)) (fun h => p6arrrrr (callB Try.prog 0 [9] (k + 120)) (k + 120) h (fun x0 h => some (x0, h))) (k + 120) (.int .i64 0) (ptrV g) h3 = p6arrrrr (callB Try.prog 0 [9] (k + 120)) (k + 120) h4 (fun x0 h => some (x0, h)) := e4
  obtain ⟨h5, e5⟩ := mid6b (k + 100) (k + 120) (fun x146 h => p6arrrrrlr (callB Try.prog 0 [9] (k + 120)) (k + 120) x146 h (fun x0 h => some (x0, h)) (fun h => p6arrrrrr (callB Try.prog 0 [9] (k + 120)) (k + 120) h (fun x0 h => some (x0, h)))) h4
  -- no grids
  have g1 : A.build MailF6.Z48L [] = some (.agg ⟨[.int .i64 0, .int .i64 0, .slice none 0 0, .slice none 0 0, .int .i64 0]⟩) := rfl
  obtain ⟨h6, hh6⟩ : ∃ h6, h6 = h5.push (.cells [.int .i64 0, .int .i64 0, .slice none 0 0, .slice none 0 0, .int .i64 0] (some 0)) := ⟨_, rfl⟩
  have g2 : A.box 5 (.agg ⟨[.int .i64 0, .int .i64 0, .slice none 0 0, .slice none 0 0, .int .i64 0]⟩) h5 = some (ptrV h5.next, h6) := by rw [hh6]; rfl
  obtain ⟨h7, hh7⟩ : ∃ h7, h7 = h6.push (.cells [.pointer none, ptrV h5.next] (some 1)) := ⟨_, rfl⟩
  have g3 : A.buildSlice 1 2 MailF6.Z25L [(0, 1, .pointer none), (1, 1, ptrV h5.next)] h6 = some (.slice (some ⟨h6.next, 0, none⟩) 2 5, h7) := by rw [hh7]; rfl
  have n6 : h6.next = h5.next + 1 := by rw [hh6]; rfl
  have n7 : h7.next = h6.next + 1 := by rw [hh7]; rfl
  have x7 : Ext h6 h7 := hh7 ▸ Ext.push h6 _
  have gt7 : h7.get h6.next = some (.cells [.pointer none, ptrV h5.next] (some 1)) := by rw [hh7, H.get_push, if_pos rfl]
  have ge7 : h7.get h5.next = some (.cells [.int .i64 0, .int .i64 0, .slice none 0 0, .slice none 0 0, .int .i64 0] (some 0)) := by rw [x7.get _ (by omega), hh6, H.get_push, if_pos rfl]
  have o1 : NoG h7 (.pointer none) := .inl rfl
  have o2 : NoG h7 (ptrV h5.next) := .inr ⟨_, _, _, _, _, rfl, by omega, ge7⟩
  have q1 : A.idxS 1 (.slice (some ⟨h6.next, 0, none⟩) 2 5) (.int .i64 ((0 : Nat) : Int)) = some (.pointer (some ⟨h6.next, 0, none⟩)) := idxS_eq 1 h6.next 0 2 5 0 .i64 (by omega)
  have q2 : A.idxS 1 (.slice (some ⟨h6.next, 0, none⟩) 2 5) (.int .i64 ((1 : Nat) : Int)) = some (.pointer (some ⟨h6.next, 1, none⟩)) := idxS_eq 1 h6.next 0 2 5 1 .i64 (by omega)
  have hl8 : A.lenS (.slice (some ⟨h6.next, 0, none⟩) 2 5) = some (.int .i64 2) := rfl
  obtain ⟨kr, hkr⟩ : ∃ kr : Value → H → Option (Value × H), kr = fun x0 h => some (x0, h) := ⟨_, rfl⟩
  obtain ⟨kx, hkx⟩ : ∃ kx : H → Option (Value × H), kx = fun h => p6arrrrrrrrr (callB Try.prog 0 [9] (k + 120)) (k + 120) h kr := ⟨_, rfl⟩
  obtain ⟨h8, e81, x8⟩ := noG6 (k + 100) (k + 120) (fun x8 x7 h => p6arrrrrrrrlrbw (callB Try.prog 0 [9] (k + 120)) (k + 120) kr kx (k + 119) x8 x7 h) kr kx (i := 0) (by omega) o1 rfl hl8 q1 (fun g y => by rw [load1_eq, y.get _ (by omega), gt7]; rfl)
  obtain ⟨h9, e91, x9⟩ := noG6 (k + 100) (k + 120) (fun x8 x7 h => p6arrrrrrrrlrbw (callB Try.prog 0 [9] (k + 120)) (k + 120) kr kx (k + 118) x8 x7 h) kr kx (i := 1) (by omega) (o2.ext x8) (same_ptr (some h5.next)) hl8 q2 (fun g y => by rw [load1_eq, (x8.trans y).get _ (by omega), gt7]; rfl)
  have eN : p6arrrrrrrrlrbw (callB Try.prog 0 [9] (k + 120)) (k + 120) kr kx (k + 120) (.int .i64 0) (.slice (some ⟨h6.next, 0, none⟩) 2 5) h7 = kx h9 := by
    have s1 : p6arrrrrrrrlrbw (callB Try.prog 0 [9] (k + 120)) (k + 120) kr kx (k + 119 + 1) (.int .i64 0) (.slice (some ⟨h6.next, 0, none⟩) 2 5) h7 = _ := e81
    have s2 : p6arrrrrrrrlrbw (callB Try.prog 0 [9] (k + 120)) (k + 120) kr kx (k + 118 + 1) (.int .i64 ((0 + 1 : Nat) : Int)) (.slice (some ⟨h6.next, 0, none⟩) 2 5) h8 = _ := e91
    have s1' : p6arrrrrrrrlrbw (callB Try.prog 0 [9] (k + 120)) (k + 120) kr kx (k + 120) (.int .i64 0) (.slice (some ⟨h6.next, 0, none⟩) 2 5) h7 = p6arrrrrrrrlrbw (callB Try.prog 0 [9] (k + 120)) (k + 120) kr kx (k + 118 + 1) (.int .i64 ((0 + 1 : Nat) : Int)) (.slice (some ⟨h6.next, 0, none⟩) 2 5) h8 := s1
    rw [s1', s2]
    exact end6 _ _ _ _ (k + 117) h9 hl8
  refine ⟨h9, ?_⟩
  simp only [F6, p6a, p6al, p6ar, p6arl, e10', bnd2_some, p6arr, p6arrl, p6arrll, p6arrlr, p6arrlrb]
  rw [e2']
  simp only [p6arrr, p6arrrl]
  rw [e3]
  simp only [p6arrrlr, condV_bool, cond_false, p6arrrr, p6arrrrl, p6arrrrll, p6arrrrlr, p6arrrrlrb]
  rw [e4']
  simp only [p6arrrrr, p6arrrrrl]
  rw [e5]
  simp only [p6arrrrrlr, condV_bool, cond_false, p6arrrrrr, p6arrrrrrl, p6arrrrrrr, p6arrrrrrrl, g1, bnd_some, g2, bnd2_some, g3, p6arrrrrrrr, p6arrrrrrrrl, p6arrrrrrrrll, p6arrrrrrrrlr, p6arrrrrrrrlrb]
  rw [← hkr, ← hkx, eN, hkx, hkr]
  simp only [p6arrrrrrrrr, aw, bnd2_some, toBK_bool]
end Go.Proofs.Ytdjhkdogpbiglaa.MailD
