/-
  MailRow, without the program: which of the acts that put are still there.
-/
import Derived.Test.YtdjhkdogpbiglaaMailC
namespace Go.Proofs.Ytdjhkdogpbiglaa.MailD
open Go Go.AM

/-- An act that put. -/
structure PA where
  tk : Bool
  f : Nat
  t : Nat
  l : Nat

def PA.cells (a : PA) : List Value := [.int .u8 (if a.tk then 1 else 0), .int .i64 (a.f : Int), .int .i64 (a.t : Int), .int .i64 (a.l : Int), .slice none 0 0]

def mtch (a : PA) (F T L : Int) : Bool := !a.tk && decide ((a.f : Int) = F) && decide ((a.t : Int) = T) && decide ((a.l : Int) = L)
def sel (P : PA → Bool) (put : List PA) (k : Nat) : Bool := match put[k]? with | some a => P a | none => false
/-- The numbers of those for which it holds, up to n. -/
def nums (P : PA → Bool) (put : List PA) (n : Nat) : List Nat := (List.range n).filter (sel P put)
def fst : List Nat → Int
  | [] => -1
  | k :: _ => k

theorem nums_succ (P : PA → Bool) (put : List PA) (n : Nat) : nums P put (n + 1) = nums P put n ++ (if sel P put n then [n] else []) := by
  unfold nums
  rw [List.range_succ, List.filter_append]
  cases h : sel P put n <;> simp [h]
theorem nums_mem {P : PA → Bool} {put : List PA} {n k : Nat} : k ∈ nums P put n ↔ k < n ∧ sel P put k = true := by
  unfold nums; rw [List.mem_filter, List.mem_range]
theorem nums_nodup (P : PA → Bool) (put : List PA) (n : Nat) : (nums P put n).Nodup := List.nodup_range.filter _
theorem nums_len (P : PA → Bool) (put : List PA) (n : Nat) : (nums P put n).length ≤ n := by
  have := List.length_filter_le (sel P put) (List.range n)
  rwa [List.length_range] at this

theorem nums_append (P : PA → Bool) (put : List PA) (a : PA) : nums P (put ++ [a]) (put.length + 1) = nums P put put.length ++ (if P a then [put.length] else []) := by
  rw [nums_succ]
  have e1 : nums P (put ++ [a]) put.length = nums P put put.length := by
    unfold nums
    apply List.filter_congr
    intro k hk
    have hk' := List.mem_range.1 hk
    unfold sel
    rw [List.getElem?_append_left hk']
  have e2 : sel P (put ++ [a]) put.length = P a := by
    unfold sel
    rw [List.getElem?_append_right (Nat.le_refl _), Nat.sub_self]
    rfl
  rw [e1, e2]

theorem nums_set {P : PA → Bool} {put : List PA} {k : Nat} {a' : PA} (hk : k < put.length) (ha : P a' = false) : nums P (put.set k a') put.length = (nums P put put.length).filter (fun j => decide (j ≠ k)) := by
  unfold nums
  rw [List.filter_filter]
  apply List.filter_congr
  intro j hj
  unfold sel
  rw [List.getElem?_set]
  by_cases e : k = j
  · subst e
    rw [if_pos rfl, if_pos hk]
    simp [ha]
  · rw [if_neg e]
    have : j ≠ k := fun h => e h.symm
    simp [this]

theorem filter_ne_of_notin {l : List Nat} {k : Nat} (h : k ∉ l) : l.filter (fun j => decide (j ≠ k)) = l := by
  apply List.filter_eq_self.2
  intro j hj
  simp only [decide_eq_true_eq]
  exact fun e => h (e ▸ hj)
theorem filter_ne_head {l : List Nat} {k : Nat} (h : (k :: l).Nodup) : (k :: l).filter (fun j => decide (j ≠ k)) = l := by
  obtain ⟨h1, _⟩ := List.nodup_cons.1 h
  rw [List.filter_cons]
  simp only [ne_eq, not_true_eq_false, decide_false, Bool.false_eq_true, if_false]
  exact filter_ne_of_notin h1
theorem filter_ne_len {l : List Nat} {k : Nat} (hn : l.Nodup) (h : k ∈ l) : (l.filter (fun j => decide (j ≠ k))).length + 1 = l.length := by
  induction l with
  | nil => cases h
  | cons x l ih =>
    obtain ⟨h1, h2⟩ := List.nodup_cons.1 hn
    by_cases e : x = k
    · subst e
      rw [filter_ne_head hn]; rfl
    · have hk : k ∈ l := by
        rcases List.mem_cons.1 h with h | h
        · exact absurd h.symm e
        · exact h
      have := ih h2 hk
      rw [List.filter_cons]
      simp only [e, ne_eq, not_false_eq_true, decide_true, if_true, List.length_cons]
      simp only [ne_eq] at this
      omega

/-- Two rows, one by one. -/
def Rel (R : Value → Nat → Prop) : List Value → List Nat → Prop
  | [], [] => True
  | c :: cs, k :: ks => R c k ∧ Rel R cs ks
  | _, _ => False
theorem Rel.len {R : Value → Nat → Prop} : ∀ {cs : List Value} {ks : List Nat}, Rel R cs ks → cs.length = ks.length
  | [], [], _ => rfl
  | c :: cs, k :: ks, h => by simp only [List.length_cons]; rw [Rel.len h.2]
  | [], _ :: _, h => h.elim
  | _ :: _, [], h => h.elim
theorem Rel.snoc {R : Value → Nat → Prop} {c : Value} {k : Nat} : ∀ {cs : List Value} {ks : List Nat}, Rel R cs ks → R c k → Rel R (cs ++ [c]) (ks ++ [k])
  | [], [], _, h => ⟨h, trivial⟩
  | c' :: cs, k' :: ks, h, h' => ⟨h.1, Rel.snoc h.2 h'⟩
  | [], _ :: _, h, _ => h.elim
  | _ :: _, [], h, _ => h.elim
theorem Rel.mono {R R' : Value → Nat → Prop} : ∀ {cs : List Value} {ks : List Nat}, Rel R cs ks → (∀ c ∈ cs, ∀ k, R c k → R' c k) → Rel R' cs ks
  | [], [], _, _ => trivial
  | c :: cs, k :: ks, h, h' => ⟨h' c (by simp) k h.1, Rel.mono h.2 fun c hc => h' c (by simp [hc])⟩
  | [], _ :: _, h, _ => h.elim
  | _ :: _, [], h, _ => h.elim
theorem Rel.nil_left {R : Value → Nat → Prop} {ks : List Nat} (h : Rel R [] ks) : ks = [] := by
  cases ks with
  | nil => rfl
  | cons => exact h.elim

theorem flatten_set {n j : Nat} {v : Value} (hj : j < n) : ∀ (es : List (List Value)) (i : Nat) (e : List Value), (∀ x ∈ es, x.length = n) → es[i]? = some e → es.flatten.set (i * n + j) v = (es.set i (e.set j v)).flatten
  | [], i, e, _, h => by simp at h
  | x :: es, 0, e, hs, h => by
    simp only [List.getElem?_cons_zero, Option.some.injEq] at h
    subst h
    have hx := hs x (by simp)
    simp only [List.flatten_cons, List.set_cons_zero, Nat.zero_mul, Nat.zero_add]
    rw [List.set_append, if_pos (by omega)]
  | x :: es, i + 1, e, hs, h => by
    have hx := hs x (by simp)
    simp only [List.getElem?_cons_succ] at h
    have ih := flatten_set (v := v) hj es i e (fun y hy => hs y (by simp [hy])) h
    simp only [List.flatten_cons, List.set_cons_succ]
    rw [List.set_append, if_neg (by rw [hx, Nat.succ_mul]; omega), hx, show (i + 1) * n + j - n = i * n + j by rw [Nat.succ_mul]; omega, ih]

/-- A cell of an element is written. -/
theorem Vec.put {n : Nat} {h : H} {v : Value} {es : List (List Value)} (x : Vec n h v es) {i j : Nat} {e : List Value} (he : es[i]? = some e) (hj : j < n) (k : IntKind) {w : Value} (hw : cellsL w = some [w]) :
    ∃ id h', A.idxS n v (.int k (i : Int)) = some (.pointer (some ⟨id, i * n, none⟩)) ∧ A.store 1 (.pointer (some ⟨id, i * n + j, none⟩)) w h = some h' ∧ Vec n h' v (es.set i (e.set j w)) ∧ ExtBut (fun q => sid v = some q) h h' ∧ h'.next = h.next := by
  have hi : i < es.length := (List.getElem?_eq_some_iff.1 he).1
  rcases x.2 with ⟨_, h0⟩ | ⟨q, rfl, hq, hg⟩
  · subst h0; simp at hi
  have hfl := flatten_len x.1
  have hle : (i + 1) * n ≤ es.length * n := Nat.mul_le_mul_right n hi
  rw [Nat.succ_mul] at hle
  have ix := idxS_eq n q 0 es.length (2 * es.length) i k hi
  rw [Nat.zero_add] at ix
  have hs : splice es.flatten (i * n + j) [w] = (es.set i (e.set j w)).flatten := by rw [splice_one (by omega), flatten_set hj es i e x.1 he]
  refine ⟨q, h.put q (.cells (es.set i (e.set j w)).flatten (some n)), ix, ?_, ⟨fun y hy => ?_, .inr ⟨q, by rw [List.length_set], hq, by rw [H.get_put, if_pos rfl]⟩⟩, ExtBut.put ⟨Nat.le_refl _, fun _ _ _ => rfl⟩ q _ rfl, rfl⟩
  · rw [store_eq, hg, hw]
    have c1 : Nat.beq [w].length 1 = true := rfl
    have c2 : Nat.ble (i * n + j + 1) es.flatten.length = true := by rw [ble_dec, decide_eq_true_iff]; omega
    simp only [c1, c2, Bool.and_self, cond_true, hs]
  · rcases List.mem_or_eq_of_mem_set hy with h | h
    · exact x.1 y h
    · rw [h, List.length_set]; exact x.1 e (List.mem_of_getElem? he)
end Go.Proofs.Ytdjhkdogpbiglaa.MailD
