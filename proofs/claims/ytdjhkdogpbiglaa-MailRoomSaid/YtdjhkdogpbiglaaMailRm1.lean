/-
  MailRoom: how many mailboxes are full; the calls.
-/
import Derived.Test.YtdjhkdogpbiglaaMailCH
import Derived.Test.YtdjhkdogpbiglaaMailK1
import Derived.Test.YtdjhkdogpbiglaaMailF5
namespace Go.Proofs.Ytdjhkdogpbiglaa.MailD
open Go Go.AM Go.Proofs.Ytdjhkdogpbiglaa.MailF5

/-- Is that mailbox full? -/
def fullB (s : St) (f l t : Nat) : Bool := decide ((s.bx (pl s.w f t l)).length = s.m)
def cntFull (s : St) (f l : Nat) : Nat := ((List.range s.w).filter (fullB s f l)).length
/-- Full mailboxes are counted. -/
def Tie (s : St) : Prop := ∀ f l, f < s.w → 1 ≤ l → l ≤ 7 → s.fu (f * 7 + l - 1) = (cntFull s f l : Int)

theorem cnt_more {P P' : Nat → Bool} {w t : Nat} (ht : t < w) (h : ∀ j, j ≠ t → P' j = P j) (h0 : P t = false) (h1 : P' t = true) : ((List.range w).filter P').length = ((List.range w).filter P).length + 1 := by
  have e : (List.range w).filter P = ((List.range w).filter P').filter (fun j => decide (j ≠ t)) := by
    rw [List.filter_filter]
    apply List.filter_congr
    intro j _
    by_cases hj : j = t
    · subst hj; simp [h0]
    · rw [h j hj]; simp [hj]
  rw [e]
  exact (filter_ne_len (List.nodup_range.filter _) (List.mem_filter.2 ⟨List.mem_range.2 ht, h1⟩)).symm
theorem cnt_same {P P' : Nat → Bool} {w : Nat} (h : ∀ j, j < w → P' j = P j) : ((List.range w).filter P').length = ((List.range w).filter P).length := by
  rw [List.filter_congr (fun j hj => h j (List.mem_range.1 hj))]

theorem fi_inj {f l f' l' : Nat} (hl : 1 ≤ l) (hl' : l ≤ 7) (hl2 : 1 ≤ l') (hl2' : l' ≤ 7) (e : f * 7 + l - 1 = f' * 7 + l' - 1) : f = f' ∧ l = l' := by omega

theorem Tie.put {s : St} (ti : Tie s) {f t l : Nat} (hf : f < s.w) (ht : t < s.w) (hl : 1 ≤ l) (hl' : l ≤ 7) (hlt : (s.bx (pl s.w f t l)).length < s.m) (c : Value) : Tie (putS s f t l c) := by
  intro f' l' hf2 hl2 hl2'
  have hf2' : f' < s.w := hf2
  have old := ti f' l' hf2' hl2 hl2'
  have hbx : ∀ t', t' < s.w → (putS s f t l c).bx (pl s.w f' t' l') = if f' = f ∧ t' = t ∧ l' = l then s.bx (pl s.w f t l) ++ [c] else s.bx (pl s.w f' t' l') := fun t' ht' => by
    show (if pl s.w f' t' l' = pl s.w f t l then s.bx (pl s.w f t l) ++ [c] else s.bx (pl s.w f' t' l')) = _
    by_cases e : pl s.w f' t' l' = pl s.w f t l
    · obtain ⟨e1, e2, e3⟩ := pl_inj ht' hl2 hl2' ht hl hl' e
      rw [if_pos e, if_pos ⟨e1, e2, e3⟩]
    · rw [if_neg e, if_neg (fun h => e (by rw [h.1, h.2.1, h.2.2]))]
  have hfull : ∀ t', t' < s.w → fullB (putS s f t l c) f' l' t' = if f' = f ∧ t' = t ∧ l' = l then decide ((s.bx (pl s.w f t l)).length + 1 = s.m) else fullB s f' l' t' := fun t' ht' => by
    show decide (((putS s f t l c).bx (pl s.w f' t' l')).length = s.m) = _
    rw [hbx t' ht']
    split
    · rw [List.length_append, List.length_singleton]
    · rfl
  show (if (s.bx (pl s.w f t l)).length + 1 = s.m then fun j => if j = f * 7 + l - 1 then s.fu (f * 7 + l - 1) + 1 else s.fu j else s.fu) (f' * 7 + l' - 1) = ((((List.range s.w).filter (fullB (putS s f t l c) f' l')).length : Nat) : Int)
  by_cases hsame : f' = f ∧ l' = l
  · obtain ⟨rfl, rfl⟩ := hsame
    by_cases hm : (s.bx (pl s.w f' t l')).length + 1 = s.m
    · rw [if_pos hm]
      show (if f' * 7 + l' - 1 = f' * 7 + l' - 1 then s.fu (f' * 7 + l' - 1) + 1 else s.fu (f' * 7 + l' - 1)) = _
      rw [if_pos rfl, old]
      have := cnt_more (P := fullB s f' l') (P' := fun j => if j = t then true else fullB s f' l' j) (w := s.w) ht (fun j hj => by simp [hj]) (by unfold fullB; rw [decide_eq_false_iff_not]; omega) (by simp)
      rw [cnt_same (P' := fullB (putS s f' t l' c) f' l') (P := fun j => if j = t then true else fullB s f' l' j) (fun j hj => by
        rw [hfull j hj]
        by_cases e : j = t
        · subst e; simp [hm]
        · simp [e]), this]
      unfold cntFull
      omega
    · rw [if_neg hm, old]
      unfold cntFull
      rw [cnt_same (P' := fullB (putS s f' t l' c) f' l') (P := fullB s f' l') (fun j hj => by
        rw [hfull j hj]
        by_cases e : j = t
        · subst e
          have h1 : fullB s f' l' j = false := by unfold fullB; rw [decide_eq_false_iff_not]; omega
          simp [hm, h1]
        · simp [e])]
  · have hne : f' * 7 + l' - 1 ≠ f * 7 + l - 1 := fun e => hsame (fi_inj hl2 hl2' hl hl' e)
    have hc : ((List.range s.w).filter (fullB (putS s f t l c) f' l')).length = cntFull s f' l' := cnt_same fun j hj => by
      rw [hfull j hj, if_neg (fun h => hsame ⟨h.1, h.2.2⟩)]
    rw [hc, ← old]
    split
    · show (if f' * 7 + l' - 1 = f * 7 + l - 1 then _ else s.fu (f' * 7 + l' - 1)) = _
      rw [if_neg hne]
    · rfl

theorem Tie.take {s : St} (ti : Tie s) {f t l : Nat} (hf : f < s.w) (ht : t < s.w) (hl : 1 ≤ l) (hl' : l ≤ 7) {c : Value} {cs : List Value} (hb : s.bx (pl s.w f t l) = c :: cs) (hle : (s.bx (pl s.w f t l)).length ≤ s.m) : Tie (takeS s f t l) := by
  intro f' l' hf2 hl2 hl2'
  have hf2' : f' < s.w := hf2
  have old := ti f' l' hf2' hl2 hl2'
  have hbx : ∀ t', t' < s.w → (takeS s f t l).bx (pl s.w f' t' l') = if f' = f ∧ t' = t ∧ l' = l then cs else s.bx (pl s.w f' t' l') := fun t' ht' => by
    show (if pl s.w f' t' l' = pl s.w f t l then (s.bx (pl s.w f t l)).tail else s.bx (pl s.w f' t' l')) = _
    by_cases e : pl s.w f' t' l' = pl s.w f t l
    · obtain ⟨e1, e2, e3⟩ := pl_inj ht' hl2 hl2' ht hl hl' e
      rw [if_pos e, if_pos ⟨e1, e2, e3⟩, hb]; rfl
    · rw [if_neg e, if_neg (fun h => e (by rw [h.1, h.2.1, h.2.2]))]
  have hlen : (s.bx (pl s.w f t l)).length = cs.length + 1 := by rw [hb]; rfl
  have hfull : ∀ t', t' < s.w → fullB (takeS s f t l) f' l' t' = if f' = f ∧ t' = t ∧ l' = l then false else fullB s f' l' t' := fun t' ht' => by
    show decide (((takeS s f t l).bx (pl s.w f' t' l')).length = s.m) = _
    rw [hbx t' ht']
    split
    · rw [decide_eq_false_iff_not]; omega
    · rfl
  show (if (s.bx (pl s.w f t l)).length = s.m then fun j => if j = f * 7 + l - 1 then s.fu (f * 7 + l - 1) - 1 else s.fu j else s.fu) (f' * 7 + l' - 1) = ((((List.range s.w).filter (fullB (takeS s f t l) f' l')).length : Nat) : Int)
  by_cases hsame : f' = f ∧ l' = l
  · obtain ⟨rfl, rfl⟩ := hsame
    by_cases hm : (s.bx (pl s.w f' t l')).length = s.m
    · rw [if_pos hm]
      show (if f' * 7 + l' - 1 = f' * 7 + l' - 1 then s.fu (f' * 7 + l' - 1) - 1 else s.fu (f' * 7 + l' - 1)) = _
      rw [if_pos rfl, old]
      have := cnt_more (P := fun j => if j = t then false else fullB s f' l' j) (P' := fullB s f' l') (w := s.w) ht (fun j hj => by simp [hj]) (by simp) (by unfold fullB; rw [decide_eq_true_iff]; exact hm)
      rw [cnt_same (P' := fullB (takeS s f' t l') f' l') (P := fun j => if j = t then false else fullB s f' l' j) (fun j hj => by
        rw [hfull j hj]
        by_cases e : j = t
        · subst e; simp
        · simp [e])]
      unfold cntFull
      omega
    · rw [if_neg hm, old]
      unfold cntFull
      rw [cnt_same (P' := fullB (takeS s f' t l') f' l') (P := fullB s f' l') (fun j hj => by
        rw [hfull j hj]
        by_cases e : j = t
        · subst e
          have h1 : fullB s f' l' j = false := by unfold fullB; rw [decide_eq_false_iff_not]; exact hm
          simp [h1]
        · simp [e])]
  · have hne : f' * 7 + l' - 1 ≠ f * 7 + l - 1 := fun e => hsame (fi_inj hl2 hl2' hl hl' e)
    have hc : ((List.range s.w).filter (fullB (takeS s f t l) f' l')).length = cntFull s f' l' := cnt_same fun j hj => by
      rw [hfull j hj, if_neg (fun h => hsame ⟨h.1, h.2.2⟩)]
    rw [hc, ← old]
    split
    · show (if f' * 7 + l' - 1 = f * 7 + l - 1 then _ else s.fu (f' * 7 + l' - 1)) = _
      rw [if_neg hne]
    · rfl

/-- What the law keeps. -/
structure Rm (h0 h : H) (g B F : Nat) (bs : List Value) (os : List Nat) (s : St) (w m n : Nat) : Prop where
  gr : GridR h g B F bs os s
  sw : s.w = w
  sm : s.m = m
  ti : Tie s
  fb : ∀ i, -(n : Int) ≤ s.fu i ∧ s.fu i ≤ n
  cb : -(n : Int) ≤ s.cnt ∧ s.cnt ≤ n
  x : Ext h0 h
  ob : ∀ q ∈ os, h0.next ≤ q

theorem putS_fu {s : St} {f t l : Nat} {c : Value} (i : Nat) : (putS s f t l c).fu i = s.fu i ∨ (putS s f t l c).fu i = s.fu i + 1 := by
  unfold putS
  by_cases hc : (s.bx (pl s.w f t l)).length + 1 = s.m
  · simp only [hc, if_true]
    by_cases hi : i = f * 7 + l - 1
    · right; subst hi; simp
    · left; simp [hi]
  · left; simp only [hc, if_false]
theorem takeS_fu {s : St} {f t l : Nat} (i : Nat) : (takeS s f t l).fu i = s.fu i ∨ (takeS s f t l).fu i = s.fu i - 1 := by
  unfold takeS
  by_cases hc : (s.bx (pl s.w f t l)).length = s.m
  · simp only [hc, if_true]
    by_cases hi : i = f * 7 + l - 1
    · right; subst hi; simp
    · left; simp [hi]
  · left; simp only [hc, if_false]

theorem ext_but' {S : Nat → Prop} {h0 a b : H} (x : Ext h0 a) (y : ExtBut S a b) (hs : ∀ n, S n → h0.next ≤ n) : Ext h0 b :=
  ⟨Nat.le_trans x.next y.next, fun i hi => by rw [y.get i (Nat.lt_of_lt_of_le hi x.next) (fun e => by have := hs i e; omega)]; exact x.get i hi⟩

section
variable {h0 h : H} {g B F : Nat} {bs : List Value} {os : List Nat} {s : St} {w m n : Nat}

theorem Rm.ext {h' : H} (v : Rm h0 h g B F bs os s w m n) (x : Ext h h') : Rm h0 h' g B F bs os s w m n := { v with gr := v.gr.ext x, x := v.x.trans x }
theorem Rm.weak (v : Rm h0 h g B F bs os s w m n) : Rm h0 h g B F bs os s w m (n + 1) := { v with fb := fun i => by have := v.fb i; omega, cb := by have := v.cb; omega }

theorem Rm.put (v : Rm h0 h g B F bs os s w m n) {h1 h' : H} {bs' : List Value} {os' : List Nat} {c : Value} {f t l : Nat} (hf : f < w) (ht : t < w) (hl : 1 ≤ l) (hl' : l ≤ 7) (hlt : (s.bx (pl w f t l)).length < m) (x1 : Ext h h1) (r' : GridR h' g B F bs' os' (putS s f t l c)) (y : ExtBut (· ∈ os) h1 h') (ho : ∀ q ∈ os', q ∈ os ∨ h1.next ≤ q) :
    Rm h0 h' g B F bs' os' (putS s f t l c) w m (n + 1) := by
  have nx := x1.next
  have nx0 := v.x.next
  refine ⟨r', v.sw, v.sm, v.ti.put (by rw [v.sw]; exact hf) (by rw [v.sw]; exact ht) hl hl' (by rw [v.sw, v.sm]; exact hlt) c, fun i => ?_, ?_, ext_but' (v.x.trans x1) y v.ob, fun q hq => ?_⟩
  · have := v.fb i
    rcases putS_fu (s := s) (f := f) (t := t) (l := l) (c := c) i with e | e <;> rw [e] <;> omega
  · have := v.cb
    show -((n + 1 : Nat) : Int) ≤ s.cnt + 1 ∧ s.cnt + 1 ≤ ((n + 1 : Nat) : Int)
    omega
  · rcases ho q hq with e | e
    · exact v.ob q e
    · omega

/-- A call that puts. -/
theorem putAny (k : Nat) (v : Rm h0 h g B F bs os s w m n) (hn : n ≤ 1000) {Fr To Lx : Int} {cv : Value} {its : List (List Value)} (sl : SliceE 38 h0 cv its) (hb : ∀ y ∈ its, ItB h0 y) (hil : its.length ≤ 20) :
    ∃ b h' bs' os' s', callB Try.prog 0 [9] (k + 300) 17 [ptrV g, .int .i64 Fr, .int .i64 To, .int .i64 Lx, cv] h = some (.bool b, h') ∧ Rm h0 h' g B F bs' os' s' w m (n + 1) := by
  by_cases ho : Ok w Fr To Lx
  · obtain ⟨o1, o2, o3, o4, o5, o6⟩ := ho
    obtain ⟨f, rfl⟩ : ∃ f : Nat, Fr = f := ⟨Fr.toNat, by omega⟩
    obtain ⟨t, rfl⟩ : ∃ t : Nat, To = t := ⟨To.toNat, by omega⟩
    obtain ⟨l, rfl⟩ : ∃ l : Nat, Lx = l := ⟨Lx.toNat, by omega⟩
    have hf : f < w := by omega
    have ht : t < w := by omega
    have hl : 1 ≤ l := by omega
    have hl' : l ≤ 7 := by omega
    have hf' : f < s.w := by rw [v.sw]; exact hf
    have ht' : t < s.w := by rw [v.sw]; exact ht
    have hlen : A.lenS cv = some (.int .i64 (its.length : Int)) := sl.len.1
    by_cases hz : its.length = 0
    · rw [hz] at hlen
      exact ⟨false, h, bs, os, s, T17z (k + 298) v.gr hf' ht' hl hl' hlen, v.weak⟩
    · by_cases hfull : (s.bx (pl s.w f t l)).length = s.m
      · exact ⟨false, h, bs, os, s, T17f (k + 298) v.gr hf' ht' hl hl' (n := its.length) (by omega) hlen hfull, v.weak⟩
      · have hle := v.gr.lm (pl s.w f t l)
        obtain ⟨c', h1, e32, hcl, x1⟩ := T32g (k + 97) v.x sl hb hil
        have e32' : callB Try.prog 0 [9] (k + 299) 32 [cv] h = some (c', h1) := e32
        obtain ⟨h', bs', os', e17, r', y, ho'⟩ := T17 (k + 298) v.gr hf' ht' hl hl' (n := its.length) (by omega) hlen (by omega) e32' x1 hcl (by have := v.cb; omega) (fun i => by have := v.fb i; omega)
        exact ⟨true, h', bs', os', _, e17, v.put hf ht hl hl' (by rw [← v.sw, ← v.sm]; omega) x1 r' y ho'⟩
  · exact ⟨false, h, bs, os, s, T17n (k + 298) v.gr (by rw [v.sw]; exact ho) cv, v.weak⟩

/-- A call that takes. -/
theorem takeAny (k : Nat) (v : Rm h0 h g B F bs os s w m n) (hn : n ≤ 1000) (Fr To Lx : Int) :
    ∃ r h' bs' os' s', callB Try.prog 0 [9] (k + 300) 12 [ptrV g, .int .i64 Fr, .int .i64 To, .int .i64 Lx] h = some (r, h') ∧ Rm h0 h' g B F bs' os' s' w m (n + 1) := by
  by_cases ho : Ok w Fr To Lx
  · obtain ⟨o1, o2, o3, o4, o5, o6⟩ := ho
    obtain ⟨f, rfl⟩ : ∃ f : Nat, Fr = f := ⟨Fr.toNat, by omega⟩
    obtain ⟨t, rfl⟩ : ∃ t : Nat, To = t := ⟨To.toNat, by omega⟩
    obtain ⟨l, rfl⟩ : ∃ l : Nat, Lx = l := ⟨Lx.toNat, by omega⟩
    have hl : 1 ≤ l := by omega
    have hl' : l ≤ 7 := by omega
    have hf' : f < s.w := by rw [v.sw]; omega
    have ht' : t < s.w := by rw [v.sw]; omega
    cases hbx : s.bx (pl s.w f t l) with
    | nil => exact ⟨_, h, bs, os, s, T12e (k + 298) v.gr hf' ht' hl hl' hbx, v.weak⟩
    | cons c cs =>
      obtain ⟨h', bs', os', e12, r', y, ho'⟩ := T12 (k + 298) v.gr hf' ht' hl hl' hbx (by have := v.cb; omega) (fun i => by have := v.fb i; omega)
      refine ⟨_, h', bs', os', _, e12, ⟨r', v.sw, v.sm, v.ti.take hf' ht' hl hl' hbx (v.gr.lm _), fun i => ?_, ?_, ext_but' v.x y v.ob, fun q hq => ?_⟩⟩
      · have := v.fb i
        rcases takeS_fu (s := s) (f := f) (t := t) (l := l) i with e | e <;> rw [e] <;> omega
      · have := v.cb
        show -((n + 1 : Nat) : Int) ≤ s.cnt - 1 ∧ s.cnt - 1 ≤ ((n + 1 : Nat) : Int)
        omega
      · have := v.x.next
        rcases ho' q hq with e | e
        · exact v.ob q e
        · omega
  · exact ⟨_, h, bs, os, s, T12n (k + 298) v.gr (by rw [v.sw]; exact ho), v.weak⟩
end
end Go.Proofs.Ytdjhkdogpbiglaa.MailD
