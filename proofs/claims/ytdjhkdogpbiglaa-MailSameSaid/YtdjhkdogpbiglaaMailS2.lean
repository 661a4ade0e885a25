/-
  Mail: a grid in memory.
-/
import Derived.Test.YtdjhkdogpbiglaaMailS1
namespace Go.Proofs.Ytdjhkdogpbiglaa.MailD
open Go Go.AM

theorem mul64 {a b : Nat} (ha : a ≤ 64) (hb : b ≤ 64) : a * b ≤ 4096 := Nat.mul_le_mul ha hb

/-- What a grid is: its workers, its bound, each mailbox's commands, how many of each worker and lane are full, how many commands there are. -/
structure St where
  w : Nat
  m : Nat
  bx : Nat → List Value
  fu : Nat → Int
  cnt : Int

structure GridR (h : H) (g B F : Nat) (bs : List Value) (os : List Nat) (s : St) : Prop where
  hw : 1 ≤ s.w ∧ s.w ≤ 64
  hm : 1 ≤ s.m ∧ s.m ≤ 64
  hg : h.get g = some (.cells [.int .i64 (s.w : Int), .int .i64 (s.m : Int), .slice (some ⟨B, 0, none⟩) (s.w * s.w * 7) (2 * (s.w * s.w * 7) + 1), .slice (some ⟨F, 0, none⟩) (s.w * 7) (2 * (s.w * 7) + 1), .int .i64 s.cnt] (some 0))
  hB : h.get B = some (.cells bs (some 1))
  lB : bs.length = s.w * s.w * 7
  hF : h.get F = some (.cells ((List.range (s.w * 7)).map fun i => .int .i64 (s.fu i)) (some 1))
  bv : ∀ i v, bs[i]? = some v → BoxV h v (s.bx i)
  lm : ∀ i, (s.bx i).length ≤ s.m
  n1 : g ≠ B
  n2 : g ≠ F
  n3 : B ≠ F
  og : g ∈ os
  oB : B ∈ os
  oF : F ∈ os
  ob : ∀ (i : Nat) v q, bs[i]? = some v → sid v = some q → q ∈ os ∧ q ≠ g ∧ q ≠ B ∧ q ≠ F
  oi : ∀ (i j : Nat) u v q, bs[i]? = some u → bs[j]? = some v → sid u = some q → sid v = some q → i = j
  on : ∀ n ∈ os, n < h.next

theorem GridR.extBut {S : Nat → Prop} {h h' : H} {g B F : Nat} {bs : List Value} {os : List Nat} {s : St} (r : GridR h g B F bs os s) (x : ExtBut S h h') (hs : ∀ n ∈ os, ¬ S n) : GridR h' g B F bs os s :=
  { r with
    hg := by rw [x.get g (r.on g r.og) (hs g r.og)]; exact r.hg
    hB := by rw [x.get B (r.on B r.oB) (hs B r.oB)]; exact r.hB
    hF := by rw [x.get F (r.on F r.oF) (hs F r.oF)]; exact r.hF
    bv := fun i v hi => (r.bv i v hi).extBut x fun q hq => hs q (r.ob i v q hi hq).1
    on := fun n hn => Nat.lt_of_lt_of_le (r.on n hn) x.next }
theorem GridR.ext {h h' : H} {g B F : Nat} {bs : List Value} {os : List Nat} {s : St} (r : GridR h g B F bs os s) (x : Ext h h') : GridR h' g B F bs os s := r.extBut (S := fun _ => False) x.but (by simp)

theorem GridR.load {h : H} {g B F : Nat} {bs : List Value} {os : List Nat} {s : St} (r : GridR h g B F bs os s) :
    A.load false 1 (.pointer (some ⟨g, 0, none⟩)) h = some (.int .i64 (s.w : Int)) ∧ A.load false 1 (.pointer (some ⟨g, 1, none⟩)) h = some (.int .i64 (s.m : Int)) ∧
    A.load false 1 (.pointer (some ⟨g, 2, none⟩)) h = some (.slice (some ⟨B, 0, none⟩) (s.w * s.w * 7) (2 * (s.w * s.w * 7) + 1)) ∧
    A.load false 1 (.pointer (some ⟨g, 3, none⟩)) h = some (.slice (some ⟨F, 0, none⟩) (s.w * 7) (2 * (s.w * 7) + 1)) ∧ A.load false 1 (.pointer (some ⟨g, 4, none⟩)) h = some (.int .i64 s.cnt) := by
  refine ⟨?_, ?_, ?_, ?_, ?_⟩ <;> · rw [load1_eq, r.hg]; rfl

theorem GridR.box {h : H} {g B F : Nat} {bs : List Value} {os : List Nat} {s : St} (r : GridR h g B F bs os s) {i : Nat} (hi : i < s.w * s.w * 7) :
    ∃ v, bs[i]? = some v ∧ BoxV h v (s.bx i) ∧ A.idxS 1 (.slice (some ⟨B, 0, none⟩) (s.w * s.w * 7) (2 * (s.w * s.w * 7) + 1)) (.int .i64 (i : Int)) = some (.pointer (some ⟨B, i, none⟩)) ∧ A.load false 1 (.pointer (some ⟨B, i, none⟩)) h = some v := by
  have hib : i < bs.length := by rw [r.lB]; exact hi
  have hv : bs[i]? = some bs[i] := List.getElem?_eq_getElem hib
  have ix := idxS_eq 1 B 0 (s.w * s.w * 7) (2 * (s.w * s.w * 7) + 1) i .i64 hi
  rw [Nat.zero_add, Nat.mul_one] at ix
  exact ⟨bs[i], hv, r.bv i _ hv, ix, by rw [load1_eq, r.hB]; exact hv⟩

theorem GridR.full {h : H} {g B F : Nat} {bs : List Value} {os : List Nat} {s : St} (r : GridR h g B F bs os s) {i : Nat} (hi : i < s.w * 7) :
    A.idxS 1 (.slice (some ⟨F, 0, none⟩) (s.w * 7) (2 * (s.w * 7) + 1)) (.int .i64 (i : Int)) = some (.pointer (some ⟨F, i, none⟩)) ∧ A.load false 1 (.pointer (some ⟨F, i, none⟩)) h = some (.int .i64 (s.fu i)) := by
  have ix := idxS_eq 1 F 0 (s.w * 7) (2 * (s.w * 7) + 1) i .i64 hi
  rw [Nat.zero_add, Nat.mul_one] at ix
  refine ⟨ix, ?_⟩
  rw [load1_eq, r.hF]
  simp [List.getElem?_range hi]

theorem range_set (f : Nat → Value) (n i : Nat) (v : Value) : ((List.range n).map f).set i v = (List.range n).map fun j => if j = i then v else f j := by
  apply List.ext_getElem?
  intro j
  rw [List.getElem?_set, List.getElem?_map, List.getElem?_map]
  by_cases hj : j < n
  · rw [List.getElem?_range hj]
    by_cases e : i = j
    · subst e; simp [hj]
    · simp [e, Ne.symm e]
  · have : (List.range n)[j]? = none := List.getElem?_eq_none_iff.2 (by simp; omega)
    rw [this]
    by_cases e : i = j
    · subst e; simp [hj]
    · simp [e]

/-- A mailbox is changed. -/
theorem GridR.setBox {h h1 : H} {g B F : Nat} {bs : List Value} {os : List Nat} {s : St} (r : GridR h g B F bs os s) {i : Nat} {v v' : Value} {es : List Value} (hv : bs[i]? = some v) (b : BoxV h1 v' es) (hes : es.length ≤ s.m)
    (x : ExtBut (fun n => sid v = some n) h h1) (hs : ∀ n, sid v' = some n → sid v = some n ∨ h.next ≤ n) :
    A.store 1 (.pointer (some ⟨B, i, none⟩)) v' h1 = some (h1.put B (.cells (bs.set i v') (some 1))) ∧
    ∃ os', GridR (h1.put B (.cells (bs.set i v') (some 1))) g B F (bs.set i v') os' { s with bx := fun j => if j = i then es else s.bx j } ∧ (∀ n ∈ os', n ∈ os ∨ h.next ≤ n) ∧ ExtBut (· ∈ os) h (h1.put B (.cells (bs.set i v') (some 1))) := by
  have hi : i < bs.length := (List.getElem?_eq_some_iff.1 hv).1
  have hne : ∀ n ∈ os, (∀ q, sid v = some q → n ≠ q) → ¬ sid v = some n := fun n _ h1 h2 => h1 n h2 rfl
  have ho := r.ob i v
  have gB : h1.get B = some (.cells bs (some 1)) := by rw [x.get B (r.on B r.oB) (fun e => (ho B hv e).2.2.1 rfl)]; exact r.hB
  have y : ExtBut (· ∈ os) h (h1.put B (.cells (bs.set i v') (some 1))) := by
    refine ExtBut.put ⟨x.next, fun n hn hno => x.get n hn (fun e => hno (ho n hv e).1)⟩ B _ r.oB
  refine ⟨?_, ?_⟩
  · rw [store_eq, gB]
    have hc : cellsL v' = some [v'] := by rcases b with ⟨rfl, _⟩ | ⟨q, c, cs, rfl, _⟩ <;> rfl
    simp [hc, splice_one hi]; omega
  have key : ∀ q, sid v' = some q → q ≠ g ∧ q ≠ B ∧ q ≠ F ∧ q < h1.next := fun q hq => by
    have hl := b.sid_lt q hq
    rcases hs q hq with e | e
    · have := ho q hv e; exact ⟨this.2.1, this.2.2.1, this.2.2.2, hl⟩
    · have a := r.on g r.og; have b' := r.on B r.oB; have c := r.on F r.oF
      exact ⟨by omega, by omega, by omega, hl⟩
  have kj : ∀ (j : Nat) u q, j ≠ i → bs[j]? = some u → sid u = some q → sid v' ≠ some q := fun j u q hj hu hq hq' => by
    rcases hs q hq' with e | e
    · exact hj (r.oi j i u v q hu hv hq e)
    · have := r.on q (r.ob j u q hu hq).1; omega
  refine ⟨(match sid v' with | some q => q :: os | none => os), ?_, ?_, y⟩
  · have hsub : ∀ n ∈ os, n ∈ (match sid v' with | some q => q :: os | none => os) := fun n hn => by
      split
      · exact List.mem_cons_of_mem _ hn
      · exact hn
    have hin : ∀ q, sid v' = some q → q ∈ (match sid v' with | some q => q :: os | none => os) := fun q hq => by rw [hq]; exact List.mem_cons_self ..
    have gg : (h1.put B (.cells (bs.set i v') (some 1))).get g = h.get g := by rw [H.get_put, if_neg r.n1, x.get g (r.on g r.og) (fun e => (ho g hv e).2.1 rfl)]
    have gF : (h1.put B (.cells (bs.set i v') (some 1))).get F = h.get F := by rw [H.get_put, if_neg (Ne.symm r.n3), x.get F (r.on F r.oF) (fun e => (ho F hv e).2.2.2 rfl)]
    refine ⟨r.hw, r.hm, by rw [gg]; exact r.hg, by rw [H.get_put, if_pos rfl], by rw [List.length_set]; exact r.lB, by rw [gF]; exact r.hF, fun j u hu => ?_, fun j => ?_, r.n1, r.n2, r.n3, hsub _ r.og, hsub _ r.oB, hsub _ r.oF, fun j u q hu hq => ?_, fun j k u u' q hu hu' hq hq' => ?_, fun n hn => ?_⟩
    · rw [List.getElem?_set] at hu
      by_cases e : i = j
      · subst e
        rw [if_pos rfl, if_pos hi] at hu
        obtain rfl := Option.some.inj hu
        simp only [if_true]
        exact b.extBut (S := fun n => n = B) (ExtBut.put ⟨Nat.le_refl _, fun _ _ _ => rfl⟩ B _ rfl) fun q hq => (key q hq).2.1
      · rw [if_neg e] at hu
        simp only [if_neg (Ne.symm e)]
        have b1 : BoxV h1 u (s.bx j) := (r.bv j u hu).extBut x fun q hq hq' => e (r.oi i j v u q hv hu hq' hq)
        exact b1.extBut (S := fun n => n = B) (ExtBut.put ⟨Nat.le_refl _, fun _ _ _ => rfl⟩ B _ rfl) fun q hq => (r.ob j u q hu hq).2.2.1
    · show (if j = i then es else s.bx j).length ≤ s.m
      split
      · exact hes
      · exact r.lm j
    · rw [List.getElem?_set] at hu
      by_cases e : i = j
      · subst e
        rw [if_pos rfl, if_pos hi] at hu
        obtain rfl := Option.some.inj hu
        have := key q hq
        exact ⟨hin q hq, this.1, this.2.1, this.2.2.1⟩
      · rw [if_neg e] at hu
        have := r.ob j u q hu hq
        exact ⟨hsub _ this.1, this.2⟩
    · rw [List.getElem?_set] at hu hu'
      by_cases e : i = j
      · by_cases e' : i = k
        · omega
        · subst e
          rw [if_pos rfl, if_pos hi] at hu
          obtain rfl := Option.some.inj hu
          rw [if_neg e'] at hu'
          exact absurd hq (kj k u' q (Ne.symm e') hu' hq')
      · by_cases e' : i = k
        · subst e'
          rw [if_pos rfl, if_pos hi] at hu'
          obtain rfl := Option.some.inj hu'
          rw [if_neg e] at hu
          exact absurd hq' (kj j u q (Ne.symm e) hu hq)
        · rw [if_neg e] at hu
          rw [if_neg e'] at hu'
          exact r.oi j k u u' q hu hu' hq hq'
    · have hx := x.next
      show n < h1.next
      cases hv' : sid v' with
      | none =>
        rw [hv'] at hn
        have := r.on n hn; omega
      | some q =>
        rw [hv'] at hn
        rcases List.mem_cons.1 hn with rfl | hn
        · exact (key n hv').2.2.2
        · have := r.on n hn; omega
  · intro n hn
    cases hv' : sid v' with
    | none => rw [hv'] at hn; exact .inl hn
    | some q =>
      rw [hv'] at hn
      rcases List.mem_cons.1 hn with rfl | hn
      · rcases hs n hv' with e | e
        · exact .inl (ho n hv e).1
        · exact .inr e
      · exact .inl hn

/-- The count is changed. -/
theorem GridR.setCnt {h : H} {g B F : Nat} {bs : List Value} {os : List Nat} {s : St} (r : GridR h g B F bs os s) (c : Int) :
    ∃ h', A.store 1 (.pointer (some ⟨g, 4, none⟩)) (.int .i64 c) h = some h' ∧ GridR h' g B F bs os { s with cnt := c } ∧ ExtBut (· ∈ os) h h' ∧ h'.next = h.next := by
  refine ⟨h.put g (.cells [.int .i64 (s.w : Int), .int .i64 (s.m : Int), .slice (some ⟨B, 0, none⟩) (s.w * s.w * 7) (2 * (s.w * s.w * 7) + 1), .slice (some ⟨F, 0, none⟩) (s.w * 7) (2 * (s.w * 7) + 1), .int .i64 c] (some 0)), by rw [store_eq, r.hg]; rfl, ?_, ExtBut.put ⟨Nat.le_refl _, fun _ _ _ => rfl⟩ g _ r.og, rfl⟩
  exact { r with
    hg := by rw [H.get_put, if_pos rfl]
    hB := by rw [H.get_put, if_neg (Ne.symm r.n1)]; exact r.hB
    hF := by rw [H.get_put, if_neg (Ne.symm r.n2)]; exact r.hF
    bv := fun i v hi => (r.bv i v hi).extBut (S := fun n => n = g) (ExtBut.put ⟨Nat.le_refl _, fun _ _ _ => rfl⟩ g _ rfl) fun q hq => (r.ob i v q hi hq).2.1 }

/-- How many are full is changed. -/
theorem GridR.setFull {h : H} {g B F : Nat} {bs : List Value} {os : List Nat} {s : St} (r : GridR h g B F bs os s) {i : Nat} (hi : i < s.w * 7) (c : Int) :
    ∃ h', A.store 1 (.pointer (some ⟨F, i, none⟩)) (.int .i64 c) h = some h' ∧ GridR h' g B F bs os { s with fu := fun j => if j = i then c else s.fu j } ∧ ExtBut (· ∈ os) h h' ∧ h'.next = h.next := by
  have e : splice ((List.range (s.w * 7)).map fun i => Value.int .i64 (s.fu i)) i [.int .i64 c] = (List.range (s.w * 7)).map fun j => .int .i64 (if j = i then c else s.fu j) := by
    rw [splice_one (by simpa using hi), range_set]
    apply List.map_congr_left
    intro j _
    split <;> rfl
  refine ⟨h.put F (.cells ((List.range (s.w * 7)).map fun j => .int .i64 (if j = i then c else s.fu j)) (some 1)), ?_, ?_, ExtBut.put ⟨Nat.le_refl _, fun _ _ _ => rfl⟩ F _ r.oF, rfl⟩
  · rw [store_eq, r.hF]
    have : i + 1 ≤ s.w * 7 := hi
    simp [e, this]
  · exact { r with
      hg := by rw [H.get_put, if_neg r.n2]; exact r.hg
      hB := by rw [H.get_put, if_neg r.n3]; exact r.hB
      hF := by rw [H.get_put, if_pos rfl]
      bv := fun i v hi => (r.bv i v hi).extBut (S := fun n => n = F) (ExtBut.put ⟨Nat.le_refl _, fun _ _ _ => rfl⟩ F _ rfl) fun q hq => (r.ob i v q hi hq).2.2.2 }
end Go.Proofs.Ytdjhkdogpbiglaa.MailD
