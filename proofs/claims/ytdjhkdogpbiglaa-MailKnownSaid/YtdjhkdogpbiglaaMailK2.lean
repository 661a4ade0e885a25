/-
  MailKnown: commands held against each other; the law's loops.
-/
import Derived.Test.YtdjhkdogpbiglaaMailK1
import Derived.Test.YtdjhkdogpbiglaaMailP
import Derived.Test.YtdjhkdogpbiglaaMailD2
import Derived.Test.YtdjhkdogpbiglaaMailF6
namespace Go.Proofs.Ytdjhkdogpbiglaa.MailD
open Go Go.AM Go.Proofs.Ytdjhkdogpbiglaa.MailD2

theorem callV40 (C : CF) (a b : Value) (h : H) : callV C (.func (.func 40) ⟨[]⟩ ⟨[]⟩) [a, b] h = C 40 [a, b] h := by kernel_rfl

/-- Items of two numbers. -/
theorem T40ne (k : Nat) (h : H) {a b : Int} (hne : a ≠ b) : ∃ h', callB Try.prog 0 [9] (k + 1) 40 [.agg ⟨itm a⟩, .agg ⟨itm b⟩] h = some (.bool false, h') ∧ Ext h h' := by
  rw [F40eq [9] rfl]
  obtain ⟨h1, hh1⟩ : ∃ h1, h1 = h.push (.cells (itm a) (some 0)) := ⟨_, rfl⟩
  have b1 : A.box 38 (.agg ⟨itm a⟩) h = some (ptrV h.next, h1) := by rw [hh1]; rfl
  obtain ⟨h2, hh2⟩ : ∃ h2, h2 = h1.push (.cells (itm b) (some 0)) := ⟨_, rfl⟩
  have b2 : A.box 38 (.agg ⟨itm b⟩) h1 = some (ptrV h1.next, h2) := by rw [hh2]; rfl
  have n1 : h1.next = h.next + 1 := by rw [hh1]; rfl
  have x1 : Ext h h1 := hh1 ▸ Ext.push h _
  have x2 : Ext h1 h2 := hh2 ▸ Ext.push h1 _
  have g1 : h2.get h.next = some (.cells (itm a) (some 0)) := by rw [x2.get _ (by omega), hh1, H.get_push, if_pos rfl]
  have g2 : h2.get h1.next = some (.cells (itm b) (some 0)) := by rw [hh2, H.get_push, if_pos rfl]
  have l1 : A.load false 1 (.pointer (some ⟨h.next, 0, none⟩)) h2 = some (.int .u8 1) := by rw [load1_eq, g1]; rfl
  have l2 : A.load false 1 (.pointer (some ⟨h1.next, 0, none⟩)) h2 = some (.int .u8 1) := by rw [load1_eq, g2]; rfl
  have l3 : A.load false 1 (.pointer (some ⟨h.next, 1, none⟩)) h2 = some (.int .i64 a) := by rw [load1_eq, g1]; rfl
  have l4 : A.load false 1 (.pointer (some ⟨h1.next, 1, none⟩)) h2 = some (.int .i64 b) := by rw [load1_eq, g2]; rfl
  have hd : decide (a = b) = false := decide_eq_false hne
  refine ⟨h2, ?_, x1.trans x2⟩
  simp only [F40, p40a, p40al, b1, bnd2_some, b2, p40ar, p40arl, fieldAddr_eq, Nat.zero_add, bnd_some, l1, l2, bin_eql, decide_true, toBK_bool, cond_true, l3, l4, hd, cond_false, p40arr]

theorem T31ne (k : Nat) {h : H} {x y : Value} {a b : Int} (cx : Cmd1 h x a) (cy : Cmd1 h y b) (hne : a ≠ b) : ∃ h', callB Try.prog 0 [9] (k + 4) 31 [x, y] h = some (.bool false, h') ∧ Ext h h' := by
  have lx := cx.len
  have ly := cy.len
  obtain ⟨q1, c1, o1, rfl, hq1, g1⟩ := cx
  obtain ⟨q2, c2, o2, rfl, hq2, g2⟩ := cy
  have ix1 : A.idxS 38 (.slice (some ⟨q1, 0, none⟩) 1 c1) (.int .i64 0) = some (.pointer (some ⟨q1, 0, none⟩)) := idxS_eq 38 q1 0 1 c1 0 .i64 (by omega)
  have ix2 : A.idxS 38 (.slice (some ⟨q2, 0, none⟩) 1 c2) (.int .i64 0) = some (.pointer (some ⟨q2, 0, none⟩)) := idxS_eq 38 q2 0 1 c2 0 .i64 (by omega)
  have l1 : A.load true 38 (.pointer (some ⟨q1, 0, none⟩)) h = some (.agg ⟨itm a⟩) := by rw [loadN_eq, g1]; rfl
  obtain ⟨t1, ht1⟩ : ∃ t, t = h.next := ⟨_, rfl⟩
  have b1 : A.box 38 MailD2.Z71 h = some (ptrV t1, h.push (.cells MailD2.Z71L (some 0))) := by rw [ht1]; rfl
  have gz1 : (h.push (.cells MailD2.Z71L (some 0))).get t1 = some (.cells MailD2.Z71L (some 0)) := by rw [H.get_push, if_pos ht1]
  obtain ⟨h2, hh2⟩ : ∃ h2, h2 = (h.push (.cells MailD2.Z71L (some 0))).put t1 (.cells (itm a) (some 0)) := ⟨_, rfl⟩
  have s1 : A.store 38 (ptrV t1) (.agg ⟨itm a⟩) (h.push (.cells MailD2.Z71L (some 0))) = some h2 := by rw [store_eq, gz1, hh2]; rfl
  have x2 : Ext h h2 := hh2 ▸ (Ext.push h _).put _ _ (by omega)
  have n2 : h2.next = h.next + 1 := by rw [hh2]; rfl
  have gt1 : h2.get t1 = some (.cells (itm a) (some 0)) := by rw [hh2, H.get_put, if_pos rfl]
  have l2 : A.load true 38 (.pointer (some ⟨q2, 0, none⟩)) h2 = some (.agg ⟨itm b⟩) := by rw [loadN_eq, x2.get _ hq2, g2]; rfl
  obtain ⟨t2, ht2⟩ : ∃ t, t = h2.next := ⟨_, rfl⟩
  have b2 : A.box 38 MailD2.Z71 h2 = some (ptrV t2, h2.push (.cells MailD2.Z71L (some 0))) := by rw [ht2]; rfl
  have gz2 : (h2.push (.cells MailD2.Z71L (some 0))).get t2 = some (.cells MailD2.Z71L (some 0)) := by rw [H.get_push, if_pos ht2]
  obtain ⟨h4, hh4⟩ : ∃ h4, h4 = (h2.push (.cells MailD2.Z71L (some 0))).put t2 (.cells (itm b) (some 0)) := ⟨_, rfl⟩
  have s2 : A.store 38 (ptrV t2) (.agg ⟨itm b⟩) (h2.push (.cells MailD2.Z71L (some 0))) = some h4 := by rw [store_eq, gz2, hh4]; rfl
  have x4 : Ext h2 h4 := hh4 ▸ (Ext.push h2 _).put _ _ (by omega)
  have gt2 : h4.get t2 = some (.cells (itm b) (some 0)) := by rw [hh4, H.get_put, if_pos rfl]
  have l3 : A.load true 38 (ptrV t1) h4 = some (.agg ⟨itm a⟩) := by rw [loadN_eq, x4.get _ (by omega), gt1]; rfl
  have l4 : A.load true 38 (ptrV t2) h4 = some (.agg ⟨itm b⟩) := by rw [loadN_eq, gt2]; rfl
  obtain ⟨h5, e40, x5⟩ := T40ne (k + 1) h4 hne
  have hd : decide ((0 : Int) < 1) = true := rfl
  refine ⟨h5, ?_, (x2.trans x4).trans x5⟩
  rw [F31eq [9] rfl]
  have e39 : callB Try.prog 0 [9] (k + 3) 39 [.slice (some ⟨q1, 0, none⟩) 1 c1, .slice (some ⟨q2, 0, none⟩) 1 c2, .func (.func 40) ⟨[]⟩ ⟨[]⟩] h = some (.bool false, h5) := by
    rw [F39eq [9] rfl]
    simp only [F39, p39a, p39al, p39ar, p39arl, lx, ly, bnd_some, bin_neq, decide_true, Bool.not_true, toBK_bool, cond_false, p39arr, p39arrl, p39arrll, p39arrlr, p39arrlrb, p39arrlrbw, p39arrlrbo, bin_lss, hd, condV_bool, cond_true, ix1, l1, b1, bnd2_some, s1, ix2, l2, b2, s2, l3, l4, callV40, e40, un_not, Bool.not_false]
  simp only [F31, p31a, e39, bnd2_some, toBK_bool]

theorem T31nil (k : Nat) (h : H) (t c : Nat) : callB Try.prog 0 [9] (k + 4) 31 [.slice none 0 0, .slice (some ⟨t, 0, none⟩) 0 c] h = some (.bool true, h) := by
  rw [F31eq [9] rfl]
  have l1 : A.lenS (.slice none 0 0) = some (.int .i64 0) := rfl
  have l2 : A.lenS (.slice (some ⟨t, 0, none⟩) 0 c) = some (.int .i64 0) := rfl
  have hd : decide ((0 : Int) < 0) = false := rfl
  have e39 : callB Try.prog 0 [9] (k + 3) 39 [.slice none 0 0, .slice (some ⟨t, 0, none⟩) 0 c, .func (.func 40) ⟨[]⟩ ⟨[]⟩] h = some (.bool true, h) := by
    rw [F39eq [9] rfl]
    simp only [F39, p39a, p39al, p39ar, p39arl, l1, l2, bnd_some, bin_neq, decide_true, Bool.not_true, toBK_bool, cond_false, p39arr, p39arrl, p39arrll, p39arrlr, p39arrlrb, p39arrlrbw, p39arrlrbo, bin_lss, hd, condV_bool, p39arrr]
  simp only [F31, p31a, e39, bnd2_some, toBK_bool]

/-! The two mailboxes of the law. -/
/-- What is in the grid: from ja to ia in the one mailbox, lb in the other. -/
structure Kn (h0 h : H) (g B F : Nat) (bs : List Value) (os : List Nat) (s : St) (ja na lb : Nat) (x y : Int) : Prop where
  gr : GridR h g B F bs os s
  sw : s.w = 64
  sm : s.m = 64
  A' : Rel (fun c k => Cmd1 h c ((k : Nat) : Int)) (s.bx (pl 64 63 63 7)) (List.range' ja na)
  ao : ∀ c ∈ s.bx (pl 64 63 63 7), ∀ q, sid c = some q → q ∉ os
  B' : (s.bx (pl 64 63 0 1)).length = lb
  fu : ∀ i, s.fu i = if i = 447 then x else if i = 441 then y else 0
  cn : s.cnt = ((na + lb : Nat) : Int)

theorem Kn.ext {h0 h h' : H} {g B F : Nat} {bs : List Value} {os : List Nat} {s : St} {ja na lb : Nat} {x y : Int} (v : Kn h0 h g B F bs os s ja na lb x y) (e : Ext h h') : Kn h0 h' g B F bs os s ja na lb x y :=
  { v with gr := v.gr.ext e, A' := v.A'.mono fun c _ k hc => hc.extBut (S := fun _ => False) e.but (by simp) }

theorem RelMem {R : Value → Nat → Prop} {c : Value} : ∀ {cs : List Value} {ks : List Nat}, Rel R cs ks → c ∈ cs → ∃ k, R c k
  | [], _, _, hc => by simp at hc
  | c' :: cs, [], h, _ => h.elim
  | c' :: cs, k :: ks, h, hc => by
    rcases List.mem_cons.1 hc with rfl | hc
    · exact ⟨k, h.1⟩
    · exact RelMem h.2 hc

theorem plAB : pl 64 63 63 7 = 28671 ∧ pl 64 63 0 1 = 28224 := ⟨rfl, rfl⟩

/-- One more in the one mailbox. -/
theorem Kn.putA (k : Nat) {h0 h : H} {g B F : Nat} {bs : List Value} {os : List Nat} {s : St} {na lb : Nat} {x y : Int} (v : Kn h0 h g B F bs os s 0 na lb x y) (hna : na < 64) (hb : lb ≤ 64) (hx : -5 < x ∧ x < 5) (hy : -5 < y ∧ y < 5) :
    ∃ c1 h1 h' bs' os' s', callB Try.prog 0 [9] (k + 20) 29 [.int .i64 (na : Int)] h = some (c1, h1) ∧ callB Try.prog 0 [9] (k + 20) 17 [ptrV g, .int .i64 63, .int .i64 63, .int .i64 7, c1] h1 = some (.bool true, h') ∧
      Kn h0 h' g B F bs' os' s' 0 (na + 1) lb (if na + 1 = 64 then x + 1 else x) y := by
  obtain ⟨c1, h1, e29, cm, x1⟩ := T29 (k + 19) h (na : Int)
  have r1 := v.gr.ext x1
  have hlen : (s.bx (pl 64 63 63 7)).length = na := by rw [v.A'.len, List.length_range']
  obtain ⟨c2, h2, e32, cm2, x2, s2⟩ := T32one (k + 16) cm
  obtain ⟨h', bs', os', e17, r', yy, ho'⟩ := T17 (k + 18) r1 (f := 63) (t := 63) (l := 7) (by rw [v.sw]; omega) (by rw [v.sw]; omega) (by omega) (by omega) (n := 1) (by omega) cm.len (by rw [v.sw, v.sm, hlen]; exact hna) e32 x2 cm2.cells (by rw [v.cn]; omega) (fun i => by
    rw [v.fu i]
    split
    · omega
    · split <;> omega)
  refine ⟨c1, h1, h', bs', os', putS s 63 63 7 c2, e29, e17, ⟨r', v.sw, v.sm, ?_, fun c hc q hq => ?_, ?_, fun i => ?_, ?_⟩⟩
  · show Rel _ (if pl 64 63 63 7 = pl s.w 63 63 7 then s.bx (pl s.w 63 63 7) ++ [c2] else s.bx (pl 64 63 63 7)) _
    rw [v.sw, if_pos rfl, List.range'_1_concat, Nat.zero_add]
    refine Rel.snoc (v.A'.mono fun c hc kk hk => ?_) (cm2.extBut yy fun q e h => by have := v.gr.on q h; have := s2 q e; have := x1.next; omega)
    exact ((hk.extBut (S := fun _ => False) x1.but (by simp)).extBut (S := fun _ => False) x2.but (by simp)).extBut yy fun q e => v.ao c hc q e
  · have hc' : c ∈ (if pl 64 63 63 7 = pl s.w 63 63 7 then s.bx (pl s.w 63 63 7) ++ [c2] else s.bx (pl 64 63 63 7)) := hc
    rw [v.sw, if_pos rfl] at hc'
    rcases List.mem_append.1 hc' with hin | hin
    · obtain ⟨kk, hk⟩ := RelMem v.A' hin
      have h1' := hk.sid_lt q hq
      have h2' := v.ao c hin q hq
      have := x1.next
      have := x2.next
      intro e
      rcases ho' q e with e1 | e1
      · exact h2' e1
      · omega
    · obtain rfl := List.mem_singleton.1 hin
      have h1' := cm2.sid_lt q hq
      have h2' := s2 q hq
      have := x1.next
      intro e
      rcases ho' q e with e1 | e1
      · have := v.gr.on q e1; omega
      · omega
  · show (if pl 64 63 0 1 = pl s.w 63 63 7 then s.bx (pl s.w 63 63 7) ++ [c2] else s.bx (pl 64 63 0 1)).length = lb
    rw [v.sw, if_neg (by rw [plAB.1, plAB.2]; omega)]
    exact v.B'
  · show (if (s.bx (pl s.w 63 63 7)).length + 1 = s.m then fun j => if j = 63 * 7 + 7 - 1 then s.fu (63 * 7 + 7 - 1) + 1 else s.fu j else s.fu) i = _
    rw [v.sw, v.sm, hlen]
    have hfi := v.fu i
    have hf4 := v.fu 447
    by_cases hc : na + 1 = 64
    · rw [if_pos hc, if_pos hc]
      show (if i = 447 then s.fu 447 + 1 else s.fu i) = _
      by_cases hi : i = 447
      · rw [if_pos hi, if_pos hi, hf4, if_pos rfl]
      · rw [if_neg hi, if_neg hi, hfi, if_neg hi]
    · rw [if_neg hc, if_neg hc]
      exact hfi
  · show s.cnt + 1 = _
    rw [v.cn]; omega

/-- One more in the other one. -/
theorem Kn.putB (k : Nat) {h0 h : H} {g B F : Nat} {bs : List Value} {os : List Nat} {s : St} {na lb : Nat} {x y : Int} (v : Kn h0 h g B F bs os s 0 na lb x y) (hna : na ≤ 64) (hb : lb < 64) (hx : -5 < x ∧ x < 5) (hy : -5 < y ∧ y < 5) (num : Int) :
    ∃ c1 h1 h' bs' os' s', callB Try.prog 0 [9] (k + 20) 29 [.int .i64 num] h = some (c1, h1) ∧ callB Try.prog 0 [9] (k + 20) 17 [ptrV g, .int .i64 63, .int .i64 0, .int .i64 1, c1] h1 = some (.bool true, h') ∧
      Kn h0 h' g B F bs' os' s' 0 na (lb + 1) x (if lb + 1 = 64 then y + 1 else y) := by
  obtain ⟨c1, h1, e29, cm, x1⟩ := T29 (k + 19) h num
  have r1 := v.gr.ext x1
  obtain ⟨c2, h2, e32, cm2, x2, s2⟩ := T32one (k + 16) cm
  obtain ⟨h', bs', os', e17, r', yy, ho'⟩ := T17 (k + 18) r1 (f := 63) (t := 0) (l := 1) (by rw [v.sw]; omega) (by rw [v.sw]; omega) (by omega) (by omega) (n := 1) (by omega) cm.len (by rw [v.sw, v.sm, v.B']; exact hb) e32 x2 cm2.cells (by rw [v.cn]; omega) (fun i => by
    rw [v.fu i]
    split
    · omega
    · split <;> omega)
  refine ⟨c1, h1, h', bs', os', putS s 63 0 1 c2, e29, e17, ⟨r', v.sw, v.sm, ?_, fun c hc q hq => ?_, ?_, fun i => ?_, ?_⟩⟩
  · show Rel _ (if pl 64 63 63 7 = pl s.w 63 0 1 then s.bx (pl s.w 63 0 1) ++ [c2] else s.bx (pl 64 63 63 7)) _
    rw [v.sw, if_neg (by rw [plAB.1, plAB.2]; omega)]
    refine v.A'.mono fun c hc kk hk => ?_
    exact ((hk.extBut (S := fun _ => False) x1.but (by simp)).extBut (S := fun _ => False) x2.but (by simp)).extBut yy fun q e => v.ao c hc q e
  · have hc' : c ∈ (if pl 64 63 63 7 = pl s.w 63 0 1 then s.bx (pl s.w 63 0 1) ++ [c2] else s.bx (pl 64 63 63 7)) := hc
    rw [v.sw, if_neg (by rw [plAB.1, plAB.2]; omega)] at hc'
    obtain ⟨kk, hk⟩ := RelMem v.A' hc'
    have h1' := hk.sid_lt q hq
    have h2' := v.ao c hc' q hq
    have := x1.next
    have := x2.next
    intro e
    rcases ho' q e with e1 | e1
    · exact h2' e1
    · omega
  · show (if pl 64 63 0 1 = pl s.w 63 0 1 then s.bx (pl s.w 63 0 1) ++ [c2] else s.bx (pl 64 63 0 1)).length = lb + 1
    rw [v.sw, if_pos rfl, List.length_append, v.B']; rfl
  · show (if (s.bx (pl s.w 63 0 1)).length + 1 = s.m then fun j => if j = 63 * 7 + 1 - 1 then s.fu (63 * 7 + 1 - 1) + 1 else s.fu j else s.fu) i = _
    rw [v.sw, v.sm, v.B']
    have hfi := v.fu i
    have hf4 := v.fu 441
    by_cases hc : lb + 1 = 64
    · rw [if_pos hc, if_pos hc]
      show (if i = 441 then s.fu 441 + 1 else s.fu i) = _
      by_cases hi : i = 441
      · subst hi
        rw [if_pos rfl, hf4]; simp
      · rw [if_neg hi, hfi]
        by_cases hi2 : i = 447
        · rw [if_pos hi2, if_pos hi2]
        · rw [if_neg hi2, if_neg hi2, if_neg hi, if_neg hi]
    · rw [if_neg hc, if_neg hc]
      exact hfi
  · show s.cnt + 1 = _
    rw [v.cn]; omega

/-- One is taken from the one mailbox. -/
theorem Kn.takeA (k : Nat) {h0 h : H} {g B F : Nat} {bs : List Value} {os : List Nat} {s : St} {ja na lb : Nat} {x y : Int} (v : Kn h0 h g B F bs os s ja (na + 1) lb x y) (hna : na < 64) (hb : lb ≤ 64) (hx : -5 < x ∧ x < 5) (hy : -5 < y ∧ y < 5) :
    ∃ c h' bs' os' s', callB Try.prog 0 [9] (k + 20) 12 [ptrV g, .int .i64 63, .int .i64 63, .int .i64 7] h = some (.tuple ⟨[c, .bool true]⟩, h') ∧ Cmd1 h' c (ja : Int) ∧
      Kn h0 h' g B F bs' os' s' (ja + 1) na lb (if na + 1 = 64 then x - 1 else x) y := by
  have hrel := v.A'
  have hlen : (s.bx (pl 64 63 63 7)).length = na + 1 := by rw [v.A'.len, List.length_range']
  rw [List.range'_succ] at hrel
  cases hbx : s.bx (pl 64 63 63 7) with
  | nil => rw [hbx] at hlen; simp at hlen
  | cons c cs =>
    rw [hbx] at hrel
    obtain ⟨h', bs', os', e12, r', yy, ho'⟩ := T12 (k + 18) v.gr (f := 63) (t := 63) (l := 7) (by rw [v.sw]; omega) (by rw [v.sw]; omega) (by omega) (by omega) (c := c) (cs := cs) (by rw [v.sw]; exact hbx) (by rw [v.cn]; omega) (fun i => by
    rw [v.fu i]
    split
    · omega
    · split <;> omega)
    have hao := v.ao
    rw [hbx] at hao
    refine ⟨c, h', bs', os', takeS s 63 63 7, e12, hrel.1.extBut yy fun q e => hao c (by simp) q e, ⟨r', v.sw, v.sm, ?_, fun c' hc q hq => ?_, ?_, fun i => ?_, ?_⟩⟩
    · show Rel _ (if pl 64 63 63 7 = pl s.w 63 63 7 then (s.bx (pl s.w 63 63 7)).tail else s.bx (pl 64 63 63 7)) _
      rw [v.sw, if_pos rfl, hbx]
      exact hrel.2.mono fun c' hc kk hk => hk.extBut yy fun q e => hao c' (by simp [hc]) q e
    · have hc' : c' ∈ (if pl 64 63 63 7 = pl s.w 63 63 7 then (s.bx (pl s.w 63 63 7)).tail else s.bx (pl 64 63 63 7)) := hc
      rw [v.sw, if_pos rfl, hbx] at hc'
      have hin : c' ∈ c :: cs := List.mem_cons_of_mem _ hc'
      obtain ⟨kk, hk⟩ := RelMem hrel.2 hc'
      have h1' := hk.sid_lt q hq
      intro e
      rcases ho' q e with e1 | e1
      · exact hao c' hin q hq e1
      · omega
    · show (if pl 64 63 0 1 = pl s.w 63 63 7 then (s.bx (pl s.w 63 63 7)).tail else s.bx (pl 64 63 0 1)).length = lb
      rw [v.sw, if_neg (by rw [plAB.1, plAB.2]; omega)]
      exact v.B'
    · show (if (s.bx (pl s.w 63 63 7)).length = s.m then fun j => if j = 63 * 7 + 7 - 1 then s.fu (63 * 7 + 7 - 1) - 1 else s.fu j else s.fu) i = _
      rw [v.sw, v.sm, hlen]
      have hfi := v.fu i
      have hf4 := v.fu 447
      by_cases hc : na + 1 = 64
      · rw [if_pos hc, if_pos hc]
        show (if i = 447 then s.fu 447 - 1 else s.fu i) = _
        by_cases hi : i = 447
        · rw [if_pos hi, if_pos hi, hf4, if_pos rfl]
        · rw [if_neg hi, if_neg hi, hfi, if_neg hi]
      · rw [if_neg hc, if_neg hc]
        exact hfi
    · show s.cnt - 1 = _
      rw [v.cn]; omega
end Go.Proofs.Ytdjhkdogpbiglaa.MailD
