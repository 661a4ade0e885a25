/-
  MailRow: what the law's code does in a round, piece by piece.
-/
import Derived.Test.YtdjhkdogpbiglaaMailP
import Derived.Test.YtdjhkdogpbiglaaMailG2
import Derived.Test.YtdjhkdogpbiglaaMailF4
namespace Go.Proofs.Ytdjhkdogpbiglaa.MailD
open Go Go.AM Go.Proofs.Ytdjhkdogpbiglaa.MailF4

theorem bif3 {β : Type} (K : Value → Option β) (b1 b2 b3 b4 : Bool) : (bif b1 then (bif b2 then (bif b3 then K (.bool b4) else K (.bool false)) else K (.bool false)) else K (.bool false)) = K (.bool (b1 && b2 && b3 && b4)) := by
  cases b1 <;> cases b2 <;> cases b3 <;> rfl

/-- Which of the acts that put are in that mailbox still. -/
theorem inner4 (C : CF) (L : Nat) {β : Type} (kx : Value → Value → Value → Value → Value → Value → Value → Value → Value → Value → H → Option β) {h : H} {x8 cv : Value} {na : Nat} {put : List PA} {kd : Value} {F T Lx : Int} (s : SliceE 5 h x8 (put.map PA.cells))
    (ga : h.get na = some (.cells [kd, .int .i64 F, .int .i64 T, .int .i64 Lx, cv] (some 0))) (hl : put.length ≤ 400) (x11 x9 x1 x0 x2 x7 : Value) :
    ∀ (d i m : Nat), i + d = put.length → d < m → p4arrrrrlrborlbrrrlrbw C L kx m (.int .i64 (i : Int)) x11 (.int .i64 (fst (nums (fun a => mtch a F T Lx) put i))) (ptrV na) (.int .i64 ((nums (fun a => mtch a F T Lx) put i).length : Int)) x9 x1 x0 x2 x8 x7 h =
      kx x11 (.int .i64 (fst (nums (fun a => mtch a F T Lx) put put.length))) (ptrV na) (.int .i64 ((nums (fun a => mtch a F T Lx) put put.length).length : Int)) x9 x1 x0 x2 x8 x7 h := by
  have hlen : A.lenS x8 = some (.int .i64 (put.length : Int)) := by
    have := s.len.1
    rwa [List.length_map] at this
  have f1 : A.load false 1 (.pointer (some ⟨na, 1, none⟩)) h = some (.int .i64 F) := by rw [load1_eq, ga]; rfl
  have f2 : A.load false 1 (.pointer (some ⟨na, 2, none⟩)) h = some (.int .i64 T) := by rw [load1_eq, ga]; rfl
  have f3 : A.load false 1 (.pointer (some ⟨na, 3, none⟩)) h = some (.int .i64 Lx) := by rw [load1_eq, ga]; rfl
  intro d
  induction d with
  | zero =>
    intro i m hi hm
    obtain ⟨m, rfl⟩ : ∃ q, m = q + 1 := ⟨m - 1, by omega⟩
    have hd : decide ((i : Int) < (put.length : Int)) = false := by rw [decide_eq_false_iff_not]; omega
    obtain rfl : i = put.length := by omega
    simp only [p4arrrrrlrborlbrrrlrbw, p4arrrrrlrborlbrrrlrbo, p4arrrrrlrborlbrrrlrbol, hlen, bnd_some, bin_lss, hd, toBK_bool, cond_false]
  | succ d ih =>
    intro i m hi hm
    obtain ⟨m, rfl⟩ : ∃ q, m = q + 1 := ⟨m - 1, by omega⟩
    have hd : decide ((i : Int) < (put.length : Int)) = true := by rw [decide_eq_true_iff]; omega
    have hil : i < put.length := by omega
    have hwr : IntKind.i64.wrap ((i : Int) + 1) = ((i + 1 : Nat) : Int) := wrap_succ (by omega)
    obtain ⟨a, ha⟩ : ∃ a, a = put[i] := ⟨_, rfl⟩
    have hel : (put.map PA.cells)[i]? = some a.cells := by rw [List.getElem?_map, List.getElem?_eq_getElem hil, ha]; rfl
    obtain ⟨id, off, cells, own, e1, _, e3, _, _, e6⟩ := s.at hel .i64
    have l0 : A.load false 1 (.pointer (some ⟨id, off, none⟩)) h = some (.int .u8 (if a.tk then 1 else 0)) := by rw [load1_eq, e3]; exact e6 0 (by omega)
    have l1 : A.load false 1 (.pointer (some ⟨id, off + 1, none⟩)) h = some (.int .i64 (a.f : Int)) := by rw [load1_eq, e3]; exact e6 1 (by omega)
    have l2 : A.load false 1 (.pointer (some ⟨id, off + 2, none⟩)) h = some (.int .i64 (a.t : Int)) := by rw [load1_eq, e3]; exact e6 2 (by omega)
    have l3 : A.load false 1 (.pointer (some ⟨id, off + 3, none⟩)) h = some (.int .i64 (a.l : Int)) := by rw [load1_eq, e3]; exact e6 3 (by omega)
    have hk : decide ((if a.tk = true then (1 : Int) else 0) = 0) = !a.tk := by cases a.tk <;> rfl
    have hsel : sel (fun a => mtch a F T Lx) put i = mtch a F T Lx := by unfold sel; rw [List.getElem?_eq_getElem hil, ha]
    have hm1 : (!a.tk && decide ((a.f : Int) = F) && decide ((a.t : Int) = T) && decide ((a.l : Int) = Lx)) = mtch a F T Lx := rfl
    have hln := nums_len (fun a => mtch a F T Lx) put i
    have hwn : IntKind.i64.wrap (((nums (fun a => mtch a F T Lx) put i).length : Int) + 1) = (((nums (fun a => mtch a F T Lx) put i).length + 1 : Nat) : Int) := wrap_succ (by omega)
    have ih' := ih (i + 1) m (by omega) (by omega)
    rw [nums_succ, hsel] at ih'
    have first : ∀ K : Value → Value → Value → Value → Value → Value → Value → Value → Value → Value → Value → Value → H → Option β, p4arrrrrlrborlbrrrlrborlbl C L (.int .i64 (i : Int)) x11 (.int .i64 (fst (nums (fun a => mtch a F T Lx) put i))) (ptrV na) (.int .i64 ((nums (fun a => mtch a F T Lx) put i).length : Int)) x9 x1 x0 x2 x8 x7 h K =
        K (.bool (mtch a F T Lx)) (.int .i64 (i : Int)) x11 (.int .i64 (fst (nums (fun a => mtch a F T Lx) put i))) (ptrV na) (.int .i64 ((nums (fun a => mtch a F T Lx) put i).length : Int)) x9 x1 x0 x2 x8 x7 h := fun K => by
      simp only [p4arrrrrlrborlbrrrlrborlbl, e1, bnd_some, fieldAddr_eq, Nat.add_zero, Nat.zero_add, l0, bin_eql, hk, toBK_bool, l1, f1, l2, f2, l3, f3]
      rw [← hm1]
      exact bif3 (fun v => K v (.int .i64 (i : Int)) x11 (.int .i64 (fst (nums (fun a => mtch a F T Lx) put i))) (ptrV na) (.int .i64 ((nums (fun a => mtch a F T Lx) put i).length : Int)) x9 x1 x0 x2 x8 x7 h) _ _ _ _
    simp only [p4arrrrrlrborlbrrrlrbw, p4arrrrrlrborlbrrrlrbo, p4arrrrrlrborlbrrrlrbol, hlen, bnd_some, bin_lss, hd, toBK_bool, cond_true, p4arrrrrlrborlbrrrlrbor, p4arrrrrlrborlbrrrlrborl, p4arrrrrlrborlbrrrlrborlb]
    rw [first]
    cases hmt : mtch a F T Lx with
    | false =>
      rw [hmt] at ih'
      simp only [Bool.false_eq_true, if_false, List.append_nil] at ih'
      simp only [p4arrrrrlrborlbrrrlrborlbr, condV_bool, cond_false, p4arrrrrlrborlbrrrlrborr, bin_add, bnd_some, hwr]
      exact ih'
    | true =>
      rw [hmt] at ih'
      simp only [if_true, List.length_append, List.length_singleton] at ih'
      cases hn : nums (fun a => mtch a F T Lx) put i with
      | nil =>
        rw [hn] at ih' hwn
        have hlt : decide ((-1 : Int) < 0) = true := rfl
        simp only [fst, List.nil_append, List.length_nil] at ih' hwn ⊢
        simp only [p4arrrrrlrborlbrrrlrborlbr, condV_bool, cond_true, bin_add, hwn, bnd_some, bin_lss, hlt, toBK_bool, p4arrrrrlrborlbrrrlrborr, hwr]
        exact ih'
      | cons k ks =>
        rw [hn] at ih' hwn
        have hlt : decide ((k : Int) < 0) = false := by rw [decide_eq_false_iff_not]; omega
        simp only [fst, List.cons_append, List.length_cons] at ih' hwn ⊢
        simp only [p4arrrrrlrborlbrrrlrborlbr, condV_bool, cond_true, bin_add, hwn, bnd_some, bin_lss, hlt, toBK_bool, cond_false, p4arrrrrlrborlbrrrlrborr, hwr]
        exact ih'

/-- How many are there still. -/
theorem left4 (C : CF) (L : Nat) {β : Type} (kx : Value → Value → H → Option β) {h : H} {x8 : Value} {put : List PA} (s : SliceE 5 h x8 (put.map PA.cells)) (hl : put.length ≤ 400) (x7 : Value) :
    ∀ (d i m : Nat), i + d = put.length → d < m → p4arrrrrrrlrbw C L kx m (.int .i64 (i : Int)) x8 x7 (.int .i64 ((nums (fun a => !a.tk) put i).length : Int)) h = kx x7 (.int .i64 ((nums (fun a => !a.tk) put put.length).length : Int)) h := by
  have hlen : A.lenS x8 = some (.int .i64 (put.length : Int)) := by
    have := s.len.1
    rwa [List.length_map] at this
  intro d
  induction d with
  | zero =>
    intro i m hi hm
    obtain ⟨m, rfl⟩ : ∃ q, m = q + 1 := ⟨m - 1, by omega⟩
    have hd : decide ((i : Int) < (put.length : Int)) = false := by rw [decide_eq_false_iff_not]; omega
    obtain rfl : i = put.length := by omega
    simp only [p4arrrrrrrlrbw, p4arrrrrrrlrbo, hlen, bnd_some, bin_lss, hd, toBK_bool, cond_false]
  | succ d ih =>
    intro i m hi hm
    obtain ⟨m, rfl⟩ : ∃ q, m = q + 1 := ⟨m - 1, by omega⟩
    have hd : decide ((i : Int) < (put.length : Int)) = true := by rw [decide_eq_true_iff]; omega
    have hil : i < put.length := by omega
    have hwr : IntKind.i64.wrap ((i : Int) + 1) = ((i + 1 : Nat) : Int) := wrap_succ (by omega)
    obtain ⟨a, ha⟩ : ∃ a, a = put[i] := ⟨_, rfl⟩
    have hel : (put.map PA.cells)[i]? = some a.cells := by rw [List.getElem?_map, List.getElem?_eq_getElem hil, ha]; rfl
    obtain ⟨id, off, cells, own, e1, _, e3, _, _, e6⟩ := s.at hel .i64
    have l0 : A.load false 1 (.pointer (some ⟨id, off, none⟩)) h = some (.int .u8 (if a.tk then 1 else 0)) := by rw [load1_eq, e3]; exact e6 0 (by omega)
    have hk : decide ((if a.tk = true then (1 : Int) else 0) = 0) = !a.tk := by cases a.tk <;> rfl
    have hsel : sel (fun a => !a.tk) put i = !a.tk := by unfold sel; rw [List.getElem?_eq_getElem hil, ha]
    have hln := nums_len (fun a => !a.tk) put i
    have hwn : IntKind.i64.wrap (((nums (fun a => !a.tk) put i).length : Int) + 1) = (((nums (fun a => !a.tk) put i).length + 1 : Nat) : Int) := wrap_succ (by omega)
    have ih' := ih (i + 1) m (by omega) (by omega)
    rw [nums_succ, hsel] at ih'
    simp only [p4arrrrrrrlrbw, p4arrrrrrrlrbo, hlen, bnd_some, bin_lss, hd, toBK_bool, cond_true, e1, fieldAddr_eq, Nat.add_zero, l0, bin_eql, hk, bin_add, hwr, hwn]
    cases hb : a.tk with
    | true =>
      rw [hb] at ih'
      simp only [Bool.not_true, Bool.false_eq_true, if_false, List.append_nil] at ih'
      simp only [Bool.not_true, cond_false]
      exact ih'
    | false =>
      rw [hb] at ih'
      simp only [Bool.not_false, if_true, List.length_append, List.length_singleton] at ih'
      simp only [Bool.not_false, cond_true]
      exact ih'

/-- What the law keeps, round by round. -/
structure Iv (h0 h : H) (g B F : Nat) (bs : List Value) (os : List Nat) (s : St) (w m : Nat) (put : List PA) (x8 : Value) (n : Nat) : Prop where
  gr : GridR h g B F bs os s
  sw : s.w = w
  sm : s.m = m
  vv : Vec 5 h x8 (put.map PA.cells)
  vo : ∀ q, sid x8 = some q → q ∉ os ∧ h0.next ≤ q
  pv : ∀ a ∈ put, a.f < w ∧ a.t < w ∧ 1 ≤ a.l ∧ a.l ≤ 7
  bc : ∀ f t l, f < w → t < w → 1 ≤ l → l ≤ 7 → Rel (fun c k => Cmd1 h c ((k : Nat) : Int)) (s.bx (pl w f t l)) (nums (fun a => mtch a (f : Int) (t : Int) (l : Int)) put put.length)
  bo : ∀ f t l, f < w → t < w → 1 ≤ l → l ≤ 7 → ∀ c ∈ s.bx (pl w f t l), ∀ q, sid c = some q → q ∉ os ∧ sid x8 ≠ some q
  cn : s.cnt = ((nums (fun a => !a.tk) put put.length).length : Int)
  fb : ∀ i, -(n : Int) ≤ s.fu i ∧ s.fu i ≤ n
  np : put.length ≤ n
  x : Ext h0 h
  ob : ∀ q ∈ os, h0.next ≤ q

/-- More is in memory. -/
theorem Iv.ext {h0 h h' : H} {g B F : Nat} {bs : List Value} {os : List Nat} {s : St} {w m : Nat} {put : List PA} {x8 : Value} {n : Nat} (v : Iv h0 h g B F bs os s w m put x8 n) (x : Ext h h') : Iv h0 h' g B F bs os s w m put x8 n :=
  { v with
    gr := v.gr.ext x
    vv := v.vv.ext x
    bc := fun f t l a1 a2 a3 a4 => (v.bc f t l a1 a2 a3 a4).mono fun c _ k hc => hc.extBut (S := fun _ => False) x.but (by simp)
    x := v.x.trans x }

/-- An id that is no mailbox's: none of those that put is there. -/
theorem Iv.nobox {h0 h : H} {g B F : Nat} {bs : List Value} {os : List Nat} {s : St} {w m : Nat} {put : List PA} {x8 : Value} {n : Nat} (v : Iv h0 h g B F bs os s w m put x8 n) {f t l : Int} (ho : ¬ Ok w f t l) : nums (fun a => mtch a f t l) put put.length = [] := by
  apply List.filter_eq_nil_iff.2
  intro k hk hs
  unfold sel at hs
  have hk' := List.mem_range.1 hk
  rw [List.getElem?_eq_getElem hk'] at hs
  have hp := v.pv _ (List.getElem_mem hk')
  unfold mtch at hs
  simp only [Bool.and_eq_true, decide_eq_true_eq] at hs
  apply ho
  unfold Ok
  omega
end Go.Proofs.Ytdjhkdogpbiglaa.MailD
