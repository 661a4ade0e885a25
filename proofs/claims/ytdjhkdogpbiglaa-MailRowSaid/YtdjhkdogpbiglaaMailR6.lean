/-
  MailRow: a round, as a whole.
-/
import Derived.Test.YtdjhkdogpbiglaaMailR5
namespace Go.Proofs.Ytdjhkdogpbiglaa.MailD
open Go Go.AM Go.Proofs.Ytdjhkdogpbiglaa.MailF4

theorem bif6 {β : Type} (K : Value → Option β) (b1 b2 b3 b4 b5 b6 : Bool) : (bif b1 then (bif b2 then (bif b3 then (bif b4 then (bif b5 then K (.bool b6) else K (.bool false)) else K (.bool false)) else K (.bool false)) else K (.bool false)) else K (.bool false)) = K (.bool (b1 && b2 && b3 && b4 && b5 && b6)) := by
  cases b1 <;> cases b2 <;> cases b3 <;> cases b4 <;> cases b5 <;> rfl

theorem ok_dec (w : Nat) (f t l : Int) : (decide (0 ≤ f) && decide (f < (w : Int)) && decide (0 ≤ t) && decide (t < (w : Int)) && decide (1 ≤ l) && decide (l ≤ 7)) = decide (Ok w f t l) := by
  rw [Bool.eq_iff_iff]
  constructor
  · intro h
    simp only [Bool.and_eq_true, decide_eq_true_eq] at h
    exact decide_eq_true (by unfold Ok; omega)
  · intro h
    have := of_decide_eq_true h
    unfold Ok at this
    simp only [Bool.and_eq_true, decide_eq_true_eq]
    omega

/-- Which half of a round it is. -/
theorem half4 (C : CF) (L : Nat) {β : Type} (kn : Value → Value → Value → Value → Value → Value → Value → Value → H → Option β) (kr : Value → H → Option β) {h : H} {na kd : Nat} {Fr To Lx : Int} {cv : Value} (a : At h na kd Fr To Lx cv) (x11 x12 x13 x9 x1 x0 x2 x8 x7 : Value) :
    p4arrrrrlrborlbrrrrl C L x11 x12 (ptrV na) x13 x9 x1 x0 x2 x8 x7 h kn kr = condV (.bool (decide ((kd : Int).tmod 8 < 5)))
      (p4arrrrrlrborlbrrrrlrt C L (.bool (decide ((kd : Int).tmod 8 < 5))) x11 x12 (ptrV na) x13 x9 x1 x0 x2 x8 x7 h kn kr) (p4arrrrrlrborlbrrrrlrf C L (.bool (decide ((kd : Int).tmod 8 < 5))) x11 x12 (ptrV na) x13 x9 x1 x0 x2 x8 x7 h kn kr) := by
  obtain ⟨l0, _, _, _⟩ := a.load
  have hrem : A.bin Try.prog .rem 5 (.int .u8 (kd : Int)) (.int .u8 8) = some (.int .u8 ((kd : Int).tmod 8)) := bin_rem Try.prog 5 .u8 _ _ (by omega)
  simp only [p4arrrrrlrborlbrrrrl, p4arrrrrlrborlbrrrrll, fieldAddr_eq, Nat.zero_add, bnd_some, l0, hrem, bin_lss, toBK_bool, p4arrrrrlrborlbrrrrlr]

section
variable {h0 h : H} {g B F : Nat} {bs : List Value} {os : List Nat} {s : St} {w m : Nat} {put : List PA} {x8 : Value} {n : Nat}

/-- One round. -/
theorem step4 (k L : Nat) (hL : 400 ≤ L) {β : Type} (kn : Value → Value → Value → Value → Value → Value → H → Option β) (kr : Value → H → Option β) (v : Iv h0 h g B F bs os s w m put x8 n) (hn : n ≤ 300) {x2 : Value} {l : List (List Value)} (sl : SliceE 5 h0 x2 l) {i : Nat} (hi : i < l.length) (hc : ActC h0 l[i]) :
    ∃ h' put' x8' bs' os' s', Iv h0 h' g B F bs' os' s' w m put' x8' (n + 1) ∧
      p4arrrrrlrborl (callB Try.prog 0 [9] (k + 20)) L (.int .i64 (i : Int)) (.int .i64 (m : Int)) (.int .i64 (w : Int)) x2 x8 (ptrV g) h kr kn = kn (.int .i64 (i : Int)) (.int .i64 (m : Int)) (.int .i64 (w : Int)) x2 x8' (ptrV g) h' := by
  obtain ⟨kd, Fr, To, Lx, cv, its, R⟩ := hc
  have hel : l[i]? = some [.int .u8 (kd : Int), .int .i64 Fr, .int .i64 To, .int .i64 Lx, cv] := by rw [List.getElem?_eq_getElem hi, R.eq]
  obtain ⟨id, off, cells, own, e1, _, e3, e4, e5, _⟩ := (sl.ext v.x).at hel .i64
  have ld : A.load true 5 (.pointer (some ⟨id, off, none⟩)) h = some (.agg ⟨[.int .u8 (kd : Int), .int .i64 Fr, .int .i64 To, .int .i64 Lx, cv]⟩) := by
    rw [loadN_eq, e3]
    have : Nat.ble (off + 5) cells.length = true := by rw [ble_dec, decide_eq_true_iff]; exact e4
    simp only [this, cond_true, e5]
  obtain ⟨na, hna⟩ : ∃ na, na = h.next := ⟨_, rfl⟩
  have eb : A.box 5 MailF4.Z31 h = some (ptrV na, h.push (.cells MailF4.Z31L (some 0))) := by rw [hna]; rfl
  have gz : (h.push (.cells MailF4.Z31L (some 0))).get na = some (.cells MailF4.Z31L (some 0)) := by rw [H.get_push, if_pos hna]
  obtain ⟨h1, hh1⟩ : ∃ h1, h1 = (h.push (.cells MailF4.Z31L (some 0))).put na (.cells [.int .u8 (kd : Int), .int .i64 Fr, .int .i64 To, .int .i64 Lx, cv] (some 0)) := ⟨_, rfl⟩
  have es : A.store 5 (ptrV na) (.agg ⟨[.int .u8 (kd : Int), .int .i64 Fr, .int .i64 To, .int .i64 Lx, cv]⟩) (h.push (.cells MailF4.Z31L (some 0))) = some h1 := by rw [store_eq, gz, hh1]; rfl
  have x1 : Ext h h1 := hh1 ▸ (Ext.push h _).put _ _ (by omega)
  have a1 : At h1 na kd Fr To Lx cv := ⟨by rw [hh1, H.get_put, if_pos rfl], by rw [hh1, hna]; exact Nat.lt_succ_self _⟩
  have v1 := v.ext x1
  have na0 : na ∉ os := fun e => by have := v.gr.on na e; omega
  have na8 : sid x8 ≠ some na := fun e => by have := v.vv.slice.sid_lt na e; omega
  obtain ⟨l0, l1, l2, l3⟩ := a1.load
  have hin := inner4 (callB Try.prog 0 [9] (k + 20)) L (β := β) (fun x11 x12 x10 x13 x9 x1 x0 x2 x8 x7 h => p4arrrrrlrborlbrrrr (callB Try.prog 0 [9] (k + 20)) L x11 x12 x10 x13 x9 x1 x0 x2 x8 x7 h kr kn) v1.vv.slice a1.g (by have := v.np; omega) (.bool (decide (Ok w Fr To Lx))) (.int .i64 (i : Int)) (.int .i64 (m : Int)) (.int .i64 (w : Int)) x2 (ptrV g) put.length 0 L (by omega) (by have := v.np; omega)
  have hz0 : nums (fun a => mtch a Fr To Lx) put 0 = [] := rfl
  have hz1 : ((0 : Nat) : Int) = 0 := rfl
  rw [hz0] at hin
  simp only [fst, List.length_nil, hz1] at hin
  have pre : p4arrrrrlrborl (callB Try.prog 0 [9] (k + 20)) L (.int .i64 (i : Int)) (.int .i64 (m : Int)) (.int .i64 (w : Int)) x2 x8 (ptrV g) h kr kn =
      p4arrrrrlrborlbrrrr (callB Try.prog 0 [9] (k + 20)) L (.bool (decide (Ok w Fr To Lx))) (.int .i64 (fst (nums (fun a => mtch a Fr To Lx) put put.length))) (ptrV na) (.int .i64 ((nums (fun a => mtch a Fr To Lx) put put.length).length : Int)) (.int .i64 (i : Int)) (.int .i64 (m : Int)) (.int .i64 (w : Int)) x2 x8 (ptrV g) h1 kr kn := by
    have there : ∀ K : Value → Value → Value → Value → Value → Value → Value → Value → H → Option β, p4arrrrrlrborlbrl (callB Try.prog 0 [9] (k + 20)) L (ptrV na) (.int .i64 (i : Int)) (.int .i64 (m : Int)) (.int .i64 (w : Int)) x2 x8 (ptrV g) h1 K =
        K (.bool (decide (Ok w Fr To Lx))) (ptrV na) (.int .i64 (i : Int)) (.int .i64 (m : Int)) (.int .i64 (w : Int)) x2 x8 (ptrV g) h1 := fun K => by
      simp only [p4arrrrrlrborlbrl, fieldAddr_eq, Nat.zero_add, bnd_some, l1, bin_geq, toBK_bool, bin_lss, l2, l3, bin_leq]
      rw [← ok_dec]
      exact bif6 (fun x => K x (ptrV na) (.int .i64 (i : Int)) (.int .i64 (m : Int)) (.int .i64 (w : Int)) x2 x8 (ptrV g) h1) _ _ _ _ _ _
    simp only [p4arrrrrlrborl, p4arrrrrlrborlb, p4arrrrrlrborlbl, e1, bnd_some, ld, eb, bnd2_some, es, p4arrrrrlrborlbr]
    rw [there]
    simp only [p4arrrrrlrborlbrr, p4arrrrrlrborlbrrl, p4arrrrrlrborlbrrr, p4arrrrrlrborlbrrrl, p4arrrrrlrborlbrrrll, p4arrrrrlrborlbrrrlr, p4arrrrrlrborlbrrrlrb]
    exact hin
  -- either branch
  have br : ∃ h' put' x8' bs' os' s', Iv h0 h' g B F bs' os' s' w m put' x8' (n + 1) ∧ At h' na kd Fr To Lx cv ∧
      p4arrrrrlrborlbrrrrl (callB Try.prog 0 [9] (k + 20)) L (.bool (decide (Ok w Fr To Lx))) (.int .i64 (fst (nums (fun a => mtch a Fr To Lx) put put.length))) (ptrV na) (.int .i64 ((nums (fun a => mtch a Fr To Lx) put put.length).length : Int)) (.int .i64 (i : Int)) (.int .i64 (m : Int)) (.int .i64 (w : Int)) x2 x8 (ptrV g) h1
        (fun x10 x13 x9 x1 x0 x2 x8 x7 h => p4arrrrrlrborlbrrrrr (callB Try.prog 0 [9] (k + 20)) L x10 x13 x9 x1 x0 x2 x8 x7 h kr kn) kr =
      p4arrrrrlrborlbrrrrr (callB Try.prog 0 [9] (k + 20)) L (ptrV na) (.int .i64 ((nums (fun a => mtch a Fr To Lx) put' put'.length).length : Int)) (.int .i64 (i : Int)) (.int .i64 (m : Int)) (.int .i64 (w : Int)) x2 x8' (ptrV g) h' kr kn := by
    by_cases hk : (kd : Int).tmod 8 < 5
    · have hd := decide_eq_true hk
      obtain ⟨h', put', x8', bs', os', s', v', a', e⟩ := brT k L (fun x10 x13 x9 x1 x0 x2 x8 x7 h => p4arrrrrlrborlbrrrrr (callB Try.prog 0 [9] (k + 20)) L x10 x13 x9 x1 x0 x2 x8 x7 h kr kn) kr v1 a1 hn na0 na8 (.bool true) (.int .i64 (fst (nums (fun a => mtch a Fr To Lx) put put.length))) (.int .i64 (i : Int)) x2
      refine ⟨h', put', x8', bs', os', s', v', a', ?_⟩
      rw [half4 _ _ _ _ a1, hd, condV_bool, cond_true]
      exact e
    · have hd := decide_eq_false hk
      obtain ⟨h', put', x8', bs', os', s', v', a', e⟩ := brF k L (fun x10 x13 x9 x1 x0 x2 x8 x7 h => p4arrrrrlrborlbrrrrr (callB Try.prog 0 [9] (k + 20)) L x10 x13 x9 x1 x0 x2 x8 x7 h kr kn) kr v1 a1 hn na0 na8 (.bool false) (.bool (decide (Ok w Fr To Lx))) (.int .i64 (i : Int)) x2
      refine ⟨h', put', x8', bs', os', s', v', a', ?_⟩
      rw [half4 _ _ _ _ a1, hd, condV_bool, cond_false]
      exact e
  obtain ⟨h', put', x8', bs', os', s', v', a', e⟩ := br
  obtain ⟨_, m1, m2, m3⟩ := a'.load
  have e23 : callB Try.prog 0 [9] (k + 20) 23 [ptrV g, .int .i64 Fr, .int .i64 To, .int .i64 Lx] h' = some (.int .i64 ((nums (fun a => mtch a Fr To Lx) put' put'.length).length : Int), h') := by
    by_cases ho : Ok w Fr To Lx
    · obtain ⟨o1, o2, o3, o4, o5, o6⟩ := ho
      obtain ⟨f, rfl⟩ : ∃ f : Nat, Fr = f := ⟨Fr.toNat, by omega⟩
      obtain ⟨t, rfl⟩ : ∃ t : Nat, To = t := ⟨To.toNat, by omega⟩
      obtain ⟨l, rfl⟩ : ∃ l : Nat, Lx = l := ⟨Lx.toNat, by omega⟩
      have hf : f < w := by omega
      have ht : t < w := by omega
      have hl : 1 ≤ l := by omega
      have hl' : l ≤ 7 := by omega
      have hlen := (v'.bc f t l hf ht hl hl').len
      have := T23 (k + 18) v'.gr (by rw [v'.sw]; exact hf) (by rw [v'.sw]; exact ht) hl hl'
      rw [v'.sw, hlen] at this
      exact this
    · rw [v'.nobox ho]
      exact T23n (k + 18) v'.gr (by rw [v'.sw]; exact ho)
  refine ⟨h', put', x8', bs', os', s', v', ?_⟩
  rw [pre]
  simp only [p4arrrrrlrborlbrrrr]
  rw [e]
  simp only [p4arrrrrlrborlbrrrrr, fieldAddr_eq, Nat.zero_add, bnd_some, m1, m2, m3, e23, bnd2_some, bin_neq, decide_true, Bool.not_true, toBK_bool, cond_false]
end

end Go.Proofs.Ytdjhkdogpbiglaa.MailD
