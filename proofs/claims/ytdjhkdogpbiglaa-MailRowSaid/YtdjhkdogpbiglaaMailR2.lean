/-
  MailRow: a command is put.
-/
import Derived.Test.YtdjhkdogpbiglaaMailR1
namespace Go.Proofs.Ytdjhkdogpbiglaa.MailD
open Go Go.AM Go.Proofs.Ytdjhkdogpbiglaa.MailF4

theorem sid_push_ne {h : H} {os : List Nat} (on : ∀ n ∈ os, n < h.next) {q : Nat} (hq : h.next ≤ q) : q ∉ os := fun e => by have := on q e; omega

/-- The act's own cells. -/
structure At (h : H) (na : Nat) (kd : Nat) (F T Lx : Int) (cv : Value) : Prop where
  g : h.get na = some (.cells [.int .u8 (kd : Int), .int .i64 F, .int .i64 T, .int .i64 Lx, cv] (some 0))
  l : na < h.next

theorem At.ext {h h' : H} {na kd : Nat} {F T Lx : Int} {cv : Value} (a : At h na kd F T Lx cv) (x : Ext h h') : At h' na kd F T Lx cv := ⟨by rw [x.get na a.l]; exact a.g, Nat.lt_of_lt_of_le a.l x.next⟩
theorem At.load {h : H} {na kd : Nat} {F T Lx : Int} {cv : Value} (a : At h na kd F T Lx cv) : A.load false 1 (.pointer (some ⟨na, 0, none⟩)) h = some (.int .u8 (kd : Int)) ∧ A.load false 1 (.pointer (some ⟨na, 1, none⟩)) h = some (.int .i64 F) ∧
    A.load false 1 (.pointer (some ⟨na, 2, none⟩)) h = some (.int .i64 T) ∧ A.load false 1 (.pointer (some ⟨na, 3, none⟩)) h = some (.int .i64 Lx) := by
  refine ⟨?_, ?_, ?_, ?_⟩ <;> · rw [load1_eq, a.g]; rfl

theorem same_int (k : IntKind) (n : Int) : AM.same (.int k n) (.int k n) = true := by
  show (k == k && n == n) = true
  rw [kind_beq]; simp

section
variable {h0 h : H} {g B F : Nat} {bs : List Value} {os : List Nat} {s : St} {w m : Nat} {put : List PA} {x8 : Value} {n : Nat}

/-- What is put: the piece that calls, whatever it answers. -/
theorem put4a (k L : Nat) {β : Type} (kn : Value → Value → Value → Value → Value → Value → Value → Value → Value → Value → H → Option β) (v : Iv h0 h g B F bs os s w m put x8 n) {na kd : Nat} {Fr To Lx : Int} {cv : Value} (a : At h na kd Fr To Lx cv) (hn : n ≤ 300) (na0 : na ∉ os) (x135 x11 x12 x13 x9 x1 x0 x2 : Value) (hx8 : sid x8 ≠ some na) :
    (∃ h', (¬ Ok w Fr To Lx ∨ (nums (fun a => mtch a Fr To Lx) put put.length).length = m) ∧ p4arrrrrlrborlbrrrrlrtl (callB Try.prog 0 [9] (k + 20)) L x135 x11 x12 (ptrV na) x13 x9 x1 x0 x2 x8 (ptrV g) h kn = kn x11 (.bool false) (ptrV na) x13 x9 x1 x0 x2 x8 (ptrV g) h' ∧ Ext h h') ∨
    (∃ h1 h' bs' os' c, ∃ f t l : Nat, Fr = f ∧ To = t ∧ Lx = l ∧ f < w ∧ t < w ∧ 1 ≤ l ∧ l ≤ 7 ∧ (nums (fun a => mtch a Fr To Lx) put put.length).length < m ∧ Ext h h1 ∧ GridR h' g B F bs' os' (putS s f t l c) ∧ ExtBut (· ∈ os) h1 h' ∧ (∀ q ∈ os', q ∈ os ∨ h1.next ≤ q) ∧ Cmd1 h1 c (put.length : Int) ∧ (∀ i, sid c = some i → h.next ≤ i) ∧
      p4arrrrrlrborlbrrrrlrtl (callB Try.prog 0 [9] (k + 20)) L x135 x11 x12 (ptrV na) x13 x9 x1 x0 x2 x8 (ptrV g) h kn = kn x11 (.bool true) (ptrV na) x13 x9 x1 x0 x2 x8 (ptrV g) h') := by
  obtain ⟨l0, l1, l2, l3⟩ := a.load
  have hlen : A.lenS x8 = some (.int .i64 (put.length : Int)) := by
    have := v.vv.slice.len.1
    rwa [List.length_map] at this
  obtain ⟨c1, h1, e29, cm, x1'⟩ := T29 (k + 19) h (put.length : Int)
  have a1 := a.ext x1'
  obtain ⟨m0, m1, m2, m3⟩ := a1.load
  have k1 := chk_same _ m1 (same_int .i64 Fr)
  have k2 := chk_same _ m2 (same_int .i64 To)
  have k3 := chk_same _ m3 (same_int .i64 Lx)
  have r1 := v.gr.ext x1'
  have hl1 := cm.len
  have head : ∀ r hq, callB Try.prog 0 [9] (k + 20) 17 [ptrV g, .int .i64 Fr, .int .i64 To, .int .i64 Lx, c1] h1 = some (.bool r, hq) → p4arrrrrlrborlbrrrrlrtl (callB Try.prog 0 [9] (k + 20)) L x135 x11 x12 (ptrV na) x13 x9 x1 x0 x2 x8 (ptrV g) h kn = kn x11 (.bool r) (ptrV na) x13 x9 x1 x0 x2 x8 (ptrV g) hq := fun r hq e => by
    simp only [p4arrrrrlrborlbrrrrlrtl, fieldAddr_eq, Nat.zero_add, bnd_some, l1, l2, l3, hlen, e29, bnd2_some, k1, k2, k3, Bool.and_self, cond_true, e, toBK_bool]
  by_cases ho : Ok w Fr To Lx
  · obtain ⟨o1, o2, o3, o4, o5, o6⟩ := ho
    obtain ⟨f, rfl⟩ : ∃ f : Nat, Fr = f := ⟨Fr.toNat, by omega⟩
    obtain ⟨t, rfl⟩ : ∃ t : Nat, To = t := ⟨To.toNat, by omega⟩
    obtain ⟨l, rfl⟩ : ∃ l : Nat, Lx = l := ⟨Lx.toNat, by omega⟩
    have hf : f < w := by omega
    have ht : t < w := by omega
    have hl : 1 ≤ l := by omega
    have hl' : l ≤ 7 := by omega
    have hb := (v.bc f t l hf ht hl hl').len
    have hf' : f < s.w := by rw [v.sw]; exact hf
    have ht' : t < s.w := by rw [v.sw]; exact ht
    by_cases hfull : (nums (fun a => mtch a (f : Int) (t : Int) (l : Int)) put put.length).length = m
    · refine .inl ⟨h1, .inr hfull, head false h1 ?_, x1'⟩
      exact T17f (k + 18) r1 hf' ht' hl hl' (n := 1) (by omega) hl1 (by rw [v.sw, v.sm, hb]; exact hfull)
    · have hle := v.gr.lm (pl s.w f t l)
      rw [v.sw, v.sm, hb] at hle
      obtain ⟨c2, h2, e32, cm2, x2', s2⟩ := T32one (k + 16) cm
      obtain ⟨h', bs', os', e17, r', y, ho'⟩ := T17 (k + 18) r1 hf' ht' hl hl' (n := 1) (by omega) hl1 (by rw [v.sw, v.sm, hb]; omega) e32 x2' cm2.cells (by have := v.cn; have := nums_len (fun a => !a.tk) put put.length; have := v.np; omega) (fun i => by have := v.fb i; omega)
      refine .inr ⟨h2, h', bs', os', c2, f, t, l, rfl, rfl, rfl, hf, ht, hl, hl', by omega, x1'.trans x2', r', y, ho', cm2, fun i hi => by have := s2 i hi; have := x1'.next; omega, head true h' e17⟩
  · exact .inl ⟨h1, .inl ho, head false h1 (T17n (k + 18) r1 (by rw [v.sw]; exact ho) c1), x1'⟩
end
end Go.Proofs.Ytdjhkdogpbiglaa.MailD
