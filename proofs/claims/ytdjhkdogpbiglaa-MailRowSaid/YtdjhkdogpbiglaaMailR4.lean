/-
  MailRow: what holds behind a command that was taken.
-/
import Derived.Test.YtdjhkdogpbiglaaMailR3
namespace Go.Proofs.Ytdjhkdogpbiglaa.MailD
open Go Go.AM Go.Proofs.Ytdjhkdogpbiglaa.MailF4

theorem sel_get {P : PA → Bool} {put : List PA} {k : Nat} (h : sel P put k = true) : ∃ a, put[k]? = some a ∧ P a = true := by
  unfold sel at h
  cases e : put[k]? with
  | none => rw [e] at h; cases h
  | some a => rw [e] at h; exact ⟨a, rfl, h⟩

section
variable {h0 h : H} {g B F : Nat} {bs : List Value} {os : List Nat} {s : St} {w m : Nat} {put : List PA} {x8 : Value} {n : Nat}

theorem Iv.weak (v : Iv h0 h g B F bs os s w m put x8 n) : Iv h0 h g B F bs os s w m put x8 (n + 1) :=
  { v with fb := fun i => by have := v.fb i; omega, np := Nat.le_succ_of_le v.np }

theorem Iv.takeA (v : Iv h0 h g B F bs os s w m put x8 n) {h2 : H} {bs' : List Value} {os' : List Nat} {f t l : Nat} (hf : f < w) (ht : t < w) (hl : 1 ≤ l) (hl' : l ≤ 7) (r' : GridR h2 g B F bs' os' (takeS s f t l)) (y : ExtBut (· ∈ os) h h2) (ho' : ∀ q ∈ os', q ∈ os ∨ h.next ≤ q)
    {c : Value} {cs : List Value} (hb : s.bx (pl w f t l) = c :: cs) {k0 : Nat} {ks : List Nat} (hk : nums (fun a => mtch a (f : Int) (t : Int) (l : Int)) put put.length = k0 :: ks) {na kd : Nat} {Fr To Lx : Int} {cv : Value} (a : At h na kd Fr To Lx cv) (na0 : na ∉ os) (na8 : sid x8 ≠ some na) :
    ∃ id h3 put', A.idxS 5 x8 (.int .i64 (k0 : Int)) = some (.pointer (some ⟨id, k0 * 5, none⟩)) ∧ A.store 1 (.pointer (some ⟨id, k0 * 5, none⟩)) (.int .u8 1) h2 = some h3 ∧
      Iv h0 h3 g B F bs' os' (takeS s f t l) w m put' x8 (n + 1) ∧ At h3 na kd Fr To Lx cv ∧ na ∉ os' ∧ (nums (fun a => mtch a (f : Int) (t : Int) (l : Int)) put' put'.length).length = ks.length := by
  have hmem : k0 ∈ nums (fun a => mtch a (f : Int) (t : Int) (l : Int)) put put.length := by rw [hk]; simp
  obtain ⟨hlt, hsel⟩ := nums_mem.1 hmem
  obtain ⟨pa, hpa, hma⟩ := sel_get hsel
  have ny := y.next
  have s8 : ∀ q, sid x8 = some q → q < h.next := v.vv.slice.sid_lt
  have vv2 : Vec 5 h2 x8 (put.map PA.cells) := v.vv.extBut y fun q hq => (v.vo q hq).1
  have hel : (put.map PA.cells)[k0]? = some pa.cells := by rw [List.getElem?_map, hpa]; rfl
  obtain ⟨id, h3, ix, es, v3, y3, n3⟩ := Vec.put vv2 hel (j := 0) (by omega) .i64 (w := .int .u8 1) rfl
  rw [Nat.add_zero] at es
  obtain ⟨put', hput'⟩ : ∃ put', put' = put.set k0 { pa with tk := true } := ⟨_, rfl⟩
  have hlen' : put'.length = put.length := by rw [hput', List.length_set]
  have hmap : (put.map PA.cells).set k0 (pa.cells.set 0 (.int .u8 1)) = put'.map PA.cells := by
    rw [hput', List.map_set]
    rfl
  rw [hmap] at v3
  have hso : ∀ q ∈ os', ¬ sid x8 = some q := fun q hq e => by
    rcases ho' q hq with e1 | e1
    · exact (v.vo q e).1 e1
    · have := s8 q e; omega
  have hnum : ∀ P : PA → Bool, P { pa with tk := true } = false → nums P put' put'.length = (nums P put put.length).filter (fun j => decide (j ≠ k0)) := fun P hP => by
    rw [hlen', hput']; exact nums_set hlt hP
  have htk : ∀ F T L : Int, mtch { pa with tk := true } F T L = false := fun F T L => rfl
  have hnd := nums_nodup (fun a => mtch a (f : Int) (t : Int) (l : Int)) put put.length
  rw [hk] at hnd
  have hself : nums (fun a => mtch a (f : Int) (t : Int) (l : Int)) put' put'.length = ks := by rw [hnum _ (htk _ _ _), hk, filter_ne_head hnd]
  refine ⟨id, h3, put', ix, es, ?_, (a.extBut y na0).extBut y3 na8, fun e => ?_, by rw [hself]⟩
  · have keepC : ∀ (cc : Value) (k : Nat), Cmd1 h cc ((k : Nat) : Int) → (∀ q, sid cc = some q → q ∉ os ∧ sid x8 ≠ some q) → Cmd1 h3 cc ((k : Nat) : Int) := fun cc k hc hq =>
      (hc.extBut y fun q e => (hq q e).1).extBut y3 fun q e => (hq q e).2
    have tailmem : ∀ j cc, cc ∈ (takeS s f t l).bx j → cc ∈ s.bx j := fun j cc hcc => by
      have hcc' : cc ∈ (if j = pl s.w f t l then (s.bx (pl s.w f t l)).tail else s.bx j) := hcc
      split at hcc'
      · subst_vars; exact List.mem_of_mem_tail hcc'
      · exact hcc'
    refine ⟨r'.extBut y3 hso, v.sw, v.sm, v3, fun q hq => ⟨fun e => hso q e hq, (v.vo q hq).2⟩, fun a' ha' => ?_, fun f' t' l' hf2 ht2 hl2 hl2' => ?_, fun f' t' l' hf2 ht2 hl2 hl2' cc hcc q hq => ?_, ?_, fun i => ?_, by rw [hlen']; have := v.np; omega, ?_, fun q hq => ?_⟩
    · rw [hput'] at ha'
      rcases List.mem_or_eq_of_mem_set ha' with e | e
      · exact v.pv a' e
      · rw [e]; exact v.pv pa (List.mem_of_getElem? hpa)
    · have hold := v.bc f' t' l' hf2 ht2 hl2 hl2'
      have hold' : Rel (fun c k => Cmd1 h3 c ((k : Nat) : Int)) (s.bx (pl w f' t' l')) (nums (fun a => mtch a (f' : Int) (t' : Int) (l' : Int)) put put.length) :=
        hold.mono fun cc hcc k hk => keepC cc k hk (v.bo f' t' l' hf2 ht2 hl2 hl2' cc hcc)
      show Rel _ (if pl w f' t' l' = pl s.w f t l then (s.bx (pl s.w f t l)).tail else s.bx (pl w f' t' l')) _
      rw [v.sw]
      by_cases e : pl w f' t' l' = pl w f t l
      · obtain ⟨e1, e2, e3⟩ := pl_inj ht2 hl2 hl2' ht hl hl' e
        subst e1 e2 e3
        rw [if_pos rfl, hself, hb]
        rw [hb, hk] at hold'
        exact hold'.2
      · rw [if_neg e, hnum _ (htk _ _ _), filter_ne_of_notin]
        · exact hold'
        · intro hin
          obtain ⟨_, hs2⟩ := nums_mem.1 hin
          obtain ⟨pb, hpb, hmb⟩ := sel_get hs2
          rw [hpa] at hpb
          obtain rfl := Option.some.inj hpb
          simp only [mtch, Bool.and_eq_true, decide_eq_true_eq] at hma hmb
          obtain ⟨⟨⟨_, q1⟩, q2⟩, q3⟩ := hma
          obtain ⟨⟨⟨_, p1⟩, p2⟩, p3⟩ := hmb
          exact e (by rw [show f' = f by omega, show t' = t by omega, show l' = l by omega])
    · have hin := tailmem _ cc hcc
      have hbo := v.bo f' t' l' hf2 ht2 hl2 hl2' cc hin q hq
      obtain ⟨kk, hkk⟩ := (v.bc f' t' l' hf2 ht2 hl2 hl2').mem hin
      have hltq := hkk.sid_lt q hq
      refine ⟨fun e => ?_, hbo.2⟩
      rcases ho' q e with e1 | e1
      · exact hbo.1 e1
      · omega
    · show s.cnt - 1 = _
      have hin : k0 ∈ nums (fun a => !a.tk) put put.length := nums_mem.2 ⟨hlt, by
        unfold sel
        rw [hpa]
        simp only [mtch, Bool.and_eq_true] at hma
        exact hma.1.1.1⟩
      have := filter_ne_len (nums_nodup (fun a => !a.tk) put put.length) hin
      rw [hnum (fun a => !a.tk) rfl, v.cn]
      omega
    · have hb := v.fb i
      have hfu : (takeS s f t l).fu i = s.fu i ∨ (takeS s f t l).fu i = s.fu i - 1 := by
        unfold takeS
        by_cases hc : (s.bx (pl s.w f t l)).length = s.m
        · simp only [hc, if_true]
          by_cases hi : i = f * 7 + l - 1
          · right; subst hi; simp
          · left; simp [hi]
        · left; simp only [hc, if_false]
      rcases hfu with e | e <;> rw [e] <;> omega
    · exact ext_but (ext_but v.x y v.ob) y3 fun q hq => (v.vo q hq).2
    · have hx := v.x.next
      rcases ho' q hq with e1 | e1
      · exact v.ob q e1
      · omega
  · have := a.l
    rcases ho' na e with e1 | e1
    · exact na0 e1
    · omega
end
end Go.Proofs.Ytdjhkdogpbiglaa.MailD
