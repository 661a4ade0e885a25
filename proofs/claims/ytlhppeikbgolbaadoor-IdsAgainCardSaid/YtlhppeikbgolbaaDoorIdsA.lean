/-
  IdsAgain: what the law's code does.
-/
import Derived.Test.YtlhppeikbgolbaaDoorIdsS8
import Derived.Test.YtlhppeikbgolbaaDoorIdsL
import Derived.Test.YtlhppeikbgolbaaDoorIdsF7
namespace Go.Proofs.YtlhppeikbgolbaaDoor.IdsD
open Go Go.AM Go.IdsN Go.Proofs.YtlhppeikbgolbaaDoor.IdsF7

theorem InL.ext {h h' : H} {v : Value} {l : List Nat} (s : InL h v l) (x : Ext h h') : InL h' v l := ⟨s.1.ext x, s.2⟩
theorem InL.len {h : H} {v : Value} {l : List Nat} (s : InL h v l) : A.lenS v = some (.int .i64 (l.length : Int)) := by
  have := s.1.len.1
  rw [List.length_map] at this
  exact this

/-- The first ones of a row. -/
theorem InL.pre {h : H} {v : Value} {l : List Nat} (s : InL h v l) {i : Nat} (hi : i < l.length) : ∃ v', (∀ h', A.sliceS 1 v none (some (.int .i64 (i : Int))) none h' = some v') ∧ InL h v' (l.take i) := by
  rcases s.1.2 with ⟨_, e⟩ | ⟨id, off, c, hv, hc, hid, hx⟩
  · rw [List.map_eq_nil_iff] at e; subst e; simp at hi
  · rw [List.length_map] at hv hc
    obtain ⟨cells, own, g1, g2, g3⟩ := hx (by intro e; rw [List.map_eq_nil_iff] at e; subst e; simp at hi)
    rw [List.length_map, Nat.mul_one] at g2 g3
    rw [flatten_single] at g3
    refine ⟨.slice (some ⟨id, off, none⟩) i c, fun h' => ?_, ⟨fun e he => ?_, .inr ⟨id, off, c, ?_, ?_, hid, fun _ => ⟨cells, own, g1, ?_, ?_⟩⟩⟩, fun x hx => s.2 x (List.mem_of_mem_take hx)⟩
    · rw [hv]
      have hle : i ≤ c / 2 := by omega
      simp [A.sliceS, A.bound, hle]
    · obtain ⟨w, _, rfl⟩ := List.mem_map.1 he; rfl
    · rw [List.length_map, List.length_take, Nat.min_eq_left (by omega)]
    · rw [List.length_map, List.length_take, Nat.min_eq_left (by omega)]; omega
    · rw [List.length_map, List.length_take, Nat.min_eq_left (by omega)]; omega
    · rw [List.length_map, List.length_take, Nat.min_eq_left (by omega), Nat.mul_one, flatten_single, List.map_take, ← g3, List.take_take, Nat.min_eq_left (by omega)]

theorem loop22 (C : CF) (L : Nat) {β : Type} (kr : Value → H → Option β) (kx0 : H → Option β) {h : H} {x0 : Value} {l : List Nat} (s : InL h x0 l) (hl : l.length < 2 ^ 40) (n : Nat) :
    ∀ (d i m : Nat), i + d = l.length → d < m →
      p22arlrbw C L kr kx0 m (.int .i64 (i : Int)) (.int .u16 (n : Int)) x0 h = if n ∈ l.drop i then kr (.bool true) h else kx0 h := by
  have hlen := s.len
  intro d
  induction d with
  | zero =>
    intro i m hi hm
    obtain ⟨m, rfl⟩ : ∃ q, m = q + 1 := ⟨m - 1, by omega⟩
    have hd : decide ((i : Int) < (l.length : Int)) = false := by rw [decide_eq_false_iff_not]; omega
    rw [List.drop_eq_nil_of_le (by omega), if_neg (by simp)]
    simp only [p22arlrbw, p22arlrbo, hlen, bnd_some, bin_lss, hd, toBK_bool, cond_false]
  | succ d ih =>
    intro i m hi hm
    obtain ⟨m, rfl⟩ : ∃ q, m = q + 1 := ⟨m - 1, by omega⟩
    have hil : i < l.length := by omega
    have hd : decide ((i : Int) < (l.length : Int)) = true := by rw [decide_eq_true_iff]; omega
    obtain ⟨a, g1, g2⟩ := s.at hil
    have a0 := g2 h (Ext.refl h)
    have hs := wrap_succ (n := i) (by omega)
    rw [List.drop_eq_getElem_cons hil]
    by_cases e : l[i] = n
    · have he : decide ((l[i] : Int) = (n : Int)) = true := by rw [decide_eq_true_iff]; omega
      rw [if_pos (by rw [e]; exact List.mem_cons_self)]
      simp only [p22arlrbw, p22arlrbo, hlen, bnd_some, bin_lss, hd, toBK_bool, cond_true, g1, a0, bin_eql, he]
    · have he : decide ((l[i] : Int) = (n : Int)) = false := by rw [decide_eq_false_iff_not]; omega
      have hm' : (n ∈ l[i] :: l.drop (i + 1)) ↔ n ∈ l.drop (i + 1) := by
        rw [List.mem_cons]
        exact ⟨fun h => h.resolve_left (fun h => e h.symm), .inr⟩
      simp only [p22arlrbw, p22arlrbo, hlen, bnd_some, bin_lss, hd, toBK_bool, cond_true, g1, a0, bin_eql, he, cond_false, bin_add, hs]
      rw [ih (i + 1) m (by omega) (by omega)]
      simp only [hm']

theorem S22 (k : Nat) {h : H} {x0 : Value} {l : List Nat} (s : InL h x0 l) (hl : l.length < 2 ^ 40) (hk : l.length < k) (n : Nat) : callB Tryd.prog 1 [] (k + 1) 22 [x0, .int .u16 (n : Int)] h = some (.bool (decide (n ∈ l)), h) := by
  rw [F22eq [] rfl]
  have lp := loop22 (callB Tryd.prog 1 [] k) k (fun x4 h => some (x4, h)) (fun h => p22arr (callB Tryd.prog 1 [] k) k h (fun x4 h => some (x4, h))) s hl n l.length 0 k (by omega) hk
  rw [List.drop_zero] at lp
  simp only [F22, p22a, p22al, p22ar, p22arl, p22arll, p22arlr, p22arlrb]
  rw [show (Value.int .i64 0) = Value.int .i64 ((0 : Nat) : Int) from rfl, lp]
  by_cases h : n ∈ l
  · rw [if_pos h]; simp [h]
  · rw [if_neg h]; simp [h, p22arr]

/-- No more ids than there are. -/
theorem few_le : ∀ (m : Nat) (S : List Nat), S.Nodup → (∀ x ∈ S, 1 ≤ x ∧ x ≤ m) → S.length ≤ m
  | 0, S, _, h => by
    cases S with
    | nil => simp
    | cons x t => have := h x (by simp); omega
  | m + 1, S, nd, h => by
    by_cases hm : m + 1 ∈ S
    · have := few_le m (S.erase (m + 1)) (nd.erase _) fun x hx => by
        have h1 := (nd.mem_erase_iff (a := x) (b := m + 1)).1 hx
        have h2 := h x h1.2
        have h3 := h1.1
        omega
      rw [List.length_erase_of_mem hm] at this
      omega
    · have := few_le m S nd fun x hx => by
        have h2 := h x hx
        have h3 : x ≠ m + 1 := fun e => hm (by rw [← e]; exact hx)
        omega
      omega

/-- What is kept: a pool and that nothing else has changed. -/
structure Ag (h0 h : H) (p b : Nat) (S : List Nat) : Prop where
  pool : PoolS h p b S
  np : h0.next ≤ p
  nb : h0.next ≤ b
  x : Ext h0 h

theorem Ag.step {h0 h h' : H} {p b : Nat} {S S' : List Nat} (v : Ag h0 h p b S) (r : PoolS h' p b S') (y : ExtBut (Two p b) h h') : Ag h0 h' p b S' := ⟨r, v.np, v.nb, ext_two v.x y v.np v.nb⟩

theorem one7 (k L : Nat) {β : Type} (kr : Value → H → Option β) (kx0 : Value → Value → Value → H → Option β) {h0 : H} {p b : Nat} (x1 : Value) {many : Nat} (hm : many ≤ 300) :
    ∀ (d i m : Nat) (h : H) (S : List Nat), Ag h0 h p b S → i + d = many → d < m → S.length = i → (∀ x, x ∈ S ↔ 1 ≤ x ∧ x ≤ i) →
      ∃ h' S', p7arrrlrbw (callB Tryd.prog 1 [] (k + 1027)) L kr kx0 m (.int .i64 (i : Int)) x1 (ptrV p) (.int .u16 (many : Int)) h = kx0 x1 (ptrV p) (.int .u16 (many : Int)) h' ∧ Ag h0 h' p b S' ∧ S'.length = many ∧ ∀ x, x ∈ S' ↔ 1 ≤ x ∧ x ≤ many := by
  have ec : A.conv Tryd.prog 25 3 (.int .u16 (many : Int)) = some (.int .i64 (many : Int)) := by
    have : A.conv Tryd.prog 25 3 (.int .u16 (many : Int)) = some (.int .i64 (IntKind.i64.wrap (many : Int))) := rfl
    rw [this, wrap_nat (by omega)]
  intro d
  induction d with
  | zero =>
    intro i m h S v hi hd hl hs
    obtain ⟨m, rfl⟩ : ∃ q, m = q + 1 := ⟨m - 1, by omega⟩
    obtain rfl : i = many := by omega
    have hq : decide ((i : Int) < (i : Int)) = false := by rw [decide_eq_false_iff_not]; omega
    exact ⟨h, S, by simp only [p7arrrlrbw, p7arrrlrbo, ec, bnd_some, bin_lss, hq, toBK_bool, cond_false], v, hl, hs⟩
  | succ d ih =>
    intro i m h S v hi hd hl hs
    obtain ⟨m, rfl⟩ : ∃ q, m = q + 1 := ⟨m - 1, by omega⟩
    have hq : decide ((i : Int) < (many : Int)) = true := by rw [decide_eq_true_iff]; omega
    have hw := wrap_succ (n := i) (by omega)
    have ec2 : A.conv Tryd.prog 3 25 (.int .i64 ((i + 1 : Nat) : Int)) = some (.int .u16 ((i + 1 : Nat) : Int)) := by
      have : A.conv Tryd.prog 3 25 (.int .i64 ((i + 1 : Nat) : Int)) = some (.int .u16 (IntKind.u16.wrap ((i + 1 : Nat) : Int))) := rfl
      rw [this, IntWalk.u16_in _ ⟨by omega, by omega⟩]
    obtain ⟨h1, e9, r1, y1, _⟩ := T9 k v.pool (by omega) (id := i + 1) (by omega) (by rw [hs]; omega) (fun x h1 h2 => (hs x).2 ⟨h1, by omega⟩)
    obtain ⟨h', S', e, v', q1, q2⟩ := ih (i + 1) m h1 _ (v.step r1 y1) (by omega) (by omega) (by simp [hl]) (fun x => by rw [List.mem_cons, hs]; omega)
    refine ⟨h', S', ?_, v', q1, q2⟩
    simp only [p7arrrlrbw, p7arrrlrbo, ec, bnd_some, bin_lss, hq, toBK_bool, cond_true, bin_add, hw, ec2, e9, bnd2_some, un_not, Bool.not_true, cond_false]
    exact e
end Go.Proofs.YtlhppeikbgolbaaDoor.IdsD
