/-
  BrokerKnown's loop: a broker of two workers opens connections, whatever its gates hold.
-/
import Derived.Test.YticbebcnkjapfaaGreatDoorBkD
import Derived.Test.YticbebcnkjapfaaGreatDoorAmVc
import Derived.Test.YticbebcnkjapfaaGreatDoorAmSeg
namespace Go.Proofs.YticbebcnkjapfaaGreatDoor.BkD
open Go Go.AM

abbrev ptrB (n : Nat) : Value := .pointer (some ⟨n, 0, none⟩)

/-- A map of pointers by numbers. -/
def MI (h : H) (m : Nat) : Prop := ∃ es c, h.get m = some (.map es c) ∧ ∀ e ∈ es, (∃ n, e.key = .int .i64 n) ∧ ∃ a, e.val = .pointer (some a)
/-- A gate. -/
def GI (h : H) (g m : Nat) : Prop := ∃ (cs : List Value) (o : Option Nat) (x : Nat) (y z : Int), h.get g = some (.cells cs o) ∧ cs[0]? = some (.int .i64 (x : Int)) ∧ cs[1]? = some (.int .i64 y) ∧ cs[2]? = some (.int .i64 z) ∧ cs[3]? = some (.map (some m)) ∧ 1 ≤ x ∧ x ≤ 64

theorem chk_int (y : Int) : chk (some (.int .i64 y)) (.int .i64 y) = true := by show same (.int .i64 y) (.int .i64 y) = true; simp [same]
theorem chk_map (m : Option Nat) : chk (some (.map m)) (.map m) = true := by show same (.map m) (.map m) = true; cases m <;> simp [same]
theorem chk_slice (a b l c : Nat) : chk (some (.slice (some ⟨a, b, none⟩) l c)) (.slice (some ⟨a, b, none⟩) l c) = true := by show same (.slice (some ⟨a, b, none⟩) l c) (.slice (some ⟨a, b, none⟩) l c) = true; simp [same]
theorem MI.but {S : Nat → Prop} {h h' : H} {m : Nat} (i : MI h m) (x : ExtBut S h h') (hm : m < h.next) (hs : ¬ S m) : MI h' m := by
  obtain ⟨es, c, hg, r⟩ := i
  exact ⟨es, c, by rw [x.get m hm hs]; exact hg, r⟩
theorem GI.but {S : Nat → Prop} {h h' : H} {g m : Nat} (i : GI h g m) (x : ExtBut S h h') (hg0 : g < h.next) (hs : ¬ S g) : GI h' g m := by
  obtain ⟨cs, o, a, b, c, hg, r⟩ := i
  exact ⟨cs, o, a, b, c, by rw [x.get g hg0 hs]; exact hg, r⟩

theorem find_int (n : Int) : ∀ (es : List Ent) (i : Nat), (∀ e ∈ es, (∃ n, e.key = .int .i64 n) ∧ ∃ a, e.val = .pointer (some a)) → A.findE (.int .i64 n) es i = some none ∨ ∃ j a, A.findE (.int .i64 n) es i = some (some (j, .pointer (some a)))
  | [], i, _ => .inl rfl
  | e :: r, i, h => by
    obtain ⟨⟨k, hk⟩, a, ha⟩ := h e (by simp)
    have ih := find_int n r (i + 1) fun x hx => h x (by simp [hx])
    have he : A.keyEq (.int .i64 n) e.key = some (n == k) := by rw [hk]; rfl
    simp only [A.findE, he]
    cases n == k with
    | true => exact .inr ⟨i, a, by simp [ha]⟩
    | false => simpa using ih

theorem mod_mem {v : Value} : ∀ {es : List Ent} {i : Nat} {e : Ent}, e ∈ A.modV v es i → e ∈ es ∨ ∃ e' ∈ es, e.key = e'.key ∧ e.val = v
  | [], _, e, h => by simp [A.modV] at h
  | x :: r, 0, e, h => by
    simp only [A.modV, List.mem_cons] at h
    rcases h with rfl | h
    · exact .inr ⟨x, by simp, rfl, rfl⟩
    · exact .inl (by simp [h])
  | x :: r, i + 1, e, h => by
    simp only [A.modV, List.mem_cons] at h
    rcases h with rfl | h
    · exact .inl (by simp)
    · rcases mod_mem h with h | ⟨e', h1, h2⟩
      · exact .inl (by simp [h])
      · exact .inr ⟨e', by simp [h1], h2⟩

theorem T66 (k : Nat) (h : H) {x : Nat} (h1 : 1 ≤ x) (h2 : x ≤ 64) : callB Tryz.prog 0 [] (k + 1) 66 [.int .i64 (x : Int)] h = some (.bool true, h) := by
  rw [F66eq [] rfl]
  have c1 : decide ((1 : Int) ≤ (x : Int)) = true := by rw [decide_eq_true_iff]; omega
  have c2 : decide ((x : Int) ≤ 64) = true := by rw [decide_eq_true_iff]; omega
  simp only [F66, p66a, bin_geq, bin_leq, bnd_some, toBK_bool, c1, c2, cond_true]

theorem T62 (k : Nat) (h : H) {n x : Nat} (hn : 1 ≤ n) (hn2 : n ≤ 4096) (h1 : 1 ≤ x) (h2 : x ≤ 64) : callB Tryz.prog 0 [] (k + 2) 62 [.int .i64 (n : Int), .int .i64 (x : Int)] h = some (.int .i64 (((n - 1) % x : Nat) : Int), h) := by
  rw [F62eq [] rfl]
  have c1 : decide ((n : Int) < 1) = false := by rw [decide_eq_false_iff_not]; omega
  have w : IntKind.i64.wrap ((n : Int) - 1) = ((n - 1 : Nat) : Int) := by rw [wrap64 (by omega) (by omega)]; omega
  have r : A.bin Tryz.prog .rem 3 (.int .i64 ((n - 1 : Nat) : Int)) (.int .i64 (x : Int)) = some (.int .i64 (((n - 1) % x : Nat) : Int)) := by
    rw [bin_rem (hy := by omega)]
    rw [Int.tmod_eq_emod_of_nonneg (by omega)]
    rfl
  simp only [F62, p62a, T66 k h h1 h2, bnd2_some, toBK_bool, un_not, bnd_some, Bool.not_true, cond_false, bin_lss, c1, bin_sub, w, r]

theorem T65 (k : Nat) (h : H) (z : Int) : ∃ a h', callB Tryz.prog 0 [] (k + 1) 65 [.int .i64 z] h = some (.pointer a, h') ∧ Ext h h' ∧ h'.next ≤ h.next + 1 := by
  rw [F65eq [] rfl]
  by_cases c1 : z < 16
  · refine ⟨none, h, ?_, Ext.refl h, by omega⟩
    simp only [F65, p65a, bin_lss, bnd_some, toBK_bool, decide_eq_true c1, cond_true]
  by_cases c2 : 65536 < z
  · refine ⟨none, h, ?_, Ext.refl h, by omega⟩
    simp only [F65, p65a, bin_lss, bin_gtr, bnd_some, toBK_bool, decide_eq_false c1, decide_eq_true c2, cond_true, cond_false]
  · have b : A.build Z175L [(0, 1, .int .i64 z)] = some (.agg ⟨[.int .i64 z, .slice none 0 0, .int .i64 0]⟩) := rfl
    have e : A.box 3 (.agg ⟨[.int .i64 z, .slice none 0 0, .int .i64 0]⟩) h = some (ptrB h.next, h.push (.cells [.int .i64 z, .slice none 0 0, .int .i64 0] (some 0))) := rfl
    refine ⟨some ⟨h.next, 0, none⟩, h.push (.cells [.int .i64 z, .slice none 0 0, .int .i64 0] (some 0)), ?_, Ext.push h _, by simp⟩
    simp only [F65, p65a, bin_lss, bin_gtr, bnd_some, toBK_bool, decide_eq_false c1, decide_eq_false c2, cond_false, b, e, bnd2_some]

theorem T29 (k : Nat) {h : H} {g m : Nat} (gi : GI h g m) (mi : MI h m) (hg : g < h.next) (hm : m < h.next) (hgm : g ≠ m) {n : Nat} (hn : 1 ≤ n) (hn2 : n ≤ 4096) :
    ∃ b h', callB Tryz.prog 0 [] (k + 3) 29 [ptrB g, .int .i64 (n : Int)] h = some (.bool b, h') ∧ ExtBut (fun i => i = m) h h' ∧ MI h' m ∧ h'.next ≤ h.next + 2 := by
  rw [F29eq [] rfl]
  obtain ⟨cs, o, x, y, z, hgg, c0, c1, c2, c3, x1, x2⟩ := gi
  obtain ⟨es, c, hmg, hes⟩ := mi
  have ld : ∀ {h' : H}, ExtBut (fun i => i = m) h h' → ∀ i v, cs[i]? = some v → A.load false 1 (.pointer (some ⟨g, i, none⟩)) h' = some v := fun {h'} xx i v hv => by
    rw [load1_eq, xx.get g hg hgm, hgg]; exact hv
  have l0 := ld (Ext.refl h).but 0 _ c0
  have l1 := ld (Ext.refl h).but 1 _ c1
  have l2 := ld (Ext.refl h).but 2 _ c2
  have l3 := ld (Ext.refl h).but 3 _ c3
  have nz : A.bin Tryz.prog .eql 63 (ptrB g) (.pointer none) = some (.bool false) := bin_ptr_nil Tryz.underlying63 _
  have kc : chk (bnd (A.load false 1 (.pointer (some ⟨g, 1, none⟩)) h) fun v => some v) (.int .i64 y) = true := by
    rw [l1]; show same (.int .i64 y) (.int .i64 y) = true; simp [same]
  rcases find_int (n : Int) es 0 hes with hf | ⟨j, a, hf⟩
  · -- none is there
    have lk : A.lookupK false Z99 false (.int .i64 (n : Int)) (.map (some m)) h = some (.pointer none) := by
      show (bif true then A.lookup Z99 false (.int .i64 (n : Int)) (.map (some m)) h else none) = _
      simp only [cond_true, A.lookup, hmg, hf]
      rfl
    have nn : A.bin Tryz.prog .neq 99 (.pointer none) (.pointer none) = some (.bool false) := by kernel_rfl
    by_cases cy : (((n - 1) % x : Nat) : Int) = y
    · have d : (!decide ((((n - 1) % x : Nat) : Int) = y)) = false := by rw [decide_eq_true cy]; rfl
      obtain ⟨a, h1, e65, x1', n1⟩ := T65 (k + 1) h z
      have k3 : chk (bnd (A.load false 1 (.pointer (some ⟨g, 3, none⟩)) h1) fun v => some v) (.map (some m)) = true := by
        rw [ld x1'.but 3 _ c3]; show same (.map (some m)) (.map (some m)) = true; simp [same]
      obtain ⟨cb, hcb⟩ : ∃ cb, A.build Z103L [(0, 1, .int .i64 (n : Int)), (1, 1, .int .u8 1), (2, 1, .pointer a)] = some (.agg ⟨cb⟩) ∧ cb.length = 10 := ⟨_, rfl, rfl⟩
      obtain ⟨h2, hh2⟩ : ∃ h2, h2 = h1.push (.cells cb (some 0)) := ⟨_, rfl⟩
      have b2 : A.box 10 (.agg ⟨cb⟩) h1 = some (ptrB h1.next, h2) := by
        have : Nat.beq cb.length 10 = true := by rw [hcb.2]; rfl
        rw [box_eq, hh2]; simp only [cellsL_agg, this, cond_true]
      have x12 : Ext h h2 := x1'.trans (hh2 ▸ Ext.push h1 _)
      have hm2 : h2.get m = some (.map es c) := by rw [x12.get m hm]; exact hmg
      have up : A.mapUpdateK false (.int .i64 (n : Int)) (ptrB h1.next) (.map (some m)) h2 = some (h2.put m (.map (es ++ [⟨.int .i64 (n : Int), ptrB h1.next, c⟩]) (c + 1))) := by
        show (bif true then A.mapUpdate (.int .i64 (n : Int)) (ptrB h1.next) (.map (some m)) h2 else none) = _
        simp only [cond_true, A.mapUpdate, hm2, hf]
      refine ⟨true, h2.put m (.map (es ++ [⟨.int .i64 (n : Int), ptrB h1.next, c⟩]) (c + 1)), ?_, ExtBut.put x12.but m _ rfl, ⟨_, _, by rw [H.get_put, if_pos rfl], fun e he => ?_⟩, ?_⟩
      · simp only [F29, p29a, p29al, p29ar, p29arl, p29arll, nz, bnd_some, toBK_bool, cond_false, nilCheck_eq, fieldAddr_eq, Nat.zero_add, l3, lk, nn, l0, T62 k h hn hn2 x1 x2, bnd2_some, l1, chk_int, chk_map, chk_slice, kc, Bool.and_true, cond_true, bin_neq, d, p29arlr, condV_bool, p29arr, l2, e65, k3, hcb.1, b2, up]
      · rcases List.mem_append.1 he with he | he
        · exact hes e he
        · simp at he; subst he; exact ⟨⟨_, rfl⟩, _, rfl⟩
      · have : h2.next = h1.next + 1 := by rw [hh2]; rfl
        show h2.next ≤ h.next + 2
        omega
    · have d : (!decide ((((n - 1) % x : Nat) : Int) = y)) = true := by rw [decide_eq_false cy]; rfl
      refine ⟨false, h, ?_, (Ext.refl h).but, ⟨es, c, hmg, hes⟩, by omega⟩
      simp only [F29, p29a, p29al, p29ar, p29arl, p29arll, nz, bnd_some, toBK_bool, cond_false, nilCheck_eq, fieldAddr_eq, Nat.zero_add, l3, lk, nn, l0, T62 k h hn hn2 x1 x2, bnd2_some, l1, chk_int, chk_map, chk_slice, kc, Bool.and_true, cond_true, bin_neq, d, p29arlr, condV_bool]
  · have lk : A.lookupK false Z99 false (.int .i64 (n : Int)) (.map (some m)) h = some (.pointer (some a)) := by
      show (bif true then A.lookup Z99 false (.int .i64 (n : Int)) (.map (some m)) h else none) = _
      simp only [cond_true, A.lookup, hmg, hf]
      rfl
    have nn : A.bin Tryz.prog .neq 99 (.pointer (some a)) (.pointer none) = some (.bool true) := by
      simp [A.bin, A.binOld, plain, A.eqNil, Tryz.underlying99]
    refine ⟨false, h, ?_, (Ext.refl h).but, ⟨es, c, hmg, hes⟩, by omega⟩
    simp only [F29, p29a, p29al, p29ar, p29arl, p29arll, nz, bnd_some, toBK_bool, cond_false, nilCheck_eq, fieldAddr_eq, Nat.zero_add, l3, lk, nn, cond_true, p29arlr, condV_bool]

/-- A broker of two workers with k connections. -/
structure BI (h : H) (b ws : Nat) (w g m : Nat → Nat) (bc : List Value) (o c : Nat) (k : Nat) : Prop where
  hb : h.get b = some (.cells (bc.set 9 (.int .i64 (k : Int))) (some o))
  bl : bc.length = 10
  b0 : bc[0]? = some (.int .i64 2)
  b5 : bc[5]? = some (.slice (some ⟨ws, 0, none⟩) 2 c)
  hws : ∃ cs o, h.get ws = some (.cells cs o) ∧ cs[0]? = some (ptrB (w 0)) ∧ cs[1]? = some (ptrB (w 1))
  hw : ∀ i, i < 2 → ∃ cs o, h.get (w i) = some (.cells cs o) ∧ cs[0]? = some (ptrB (g i))
  hg : ∀ i, i < 2 → GI h (g i) (m i)
  hm : ∀ i, i < 2 → MI h (m i)
  lb : b < h.next
  lws : ws < h.next
  lw : ∀ i, i < 2 → w i < h.next
  lg : ∀ i, i < 2 → g i < h.next
  lm : ∀ i, i < 2 → m i < h.next
  d1 : b ≠ ws
  d2 : ∀ i, i < 2 → b ≠ w i ∧ b ≠ g i ∧ b ≠ m i ∧ ws ≠ m i
  d3 : ∀ i j, i < 2 → j < 2 → w i ≠ m j ∧ g i ≠ m j

section
variable {h : H} {b ws : Nat} {w g m : Nat → Nat} {bc : List Value} {o c k : Nat}

theorem BI.but {S : Nat → Prop} {h' : H} (i : BI h b ws w g m bc o c k) (x : ExtBut S h h') (hb : ¬ S b) (hws : ¬ S ws) (hw : ∀ j, j < 2 → ¬ S (w j)) (hg : ∀ j, j < 2 → ¬ S (g j)) (hm : ∀ j, j < 2 → MI h' (m j)) : BI h' b ws w g m bc o c k :=
  { i with
    hb := by rw [x.get b i.lb hb]; exact i.hb
    hws := by obtain ⟨cs, o, e, r⟩ := i.hws; exact ⟨cs, o, by rw [x.get ws i.lws hws]; exact e, r⟩
    hw := fun j hj => by obtain ⟨cs, o, e, r⟩ := i.hw j hj; exact ⟨cs, o, by rw [x.get _ (i.lw j hj) (hw j hj)]; exact e, r⟩
    hg := fun j hj => (i.hg j hj).but x (i.lg j hj) (hg j hj)
    hm := hm
    lb := Nat.lt_of_lt_of_le i.lb x.next
    lws := Nat.lt_of_lt_of_le i.lws x.next
    lw := fun j hj => Nat.lt_of_lt_of_le (i.lw j hj) x.next
    lg := fun j hj => Nat.lt_of_lt_of_le (i.lg j hj) x.next
    lm := fun j hj => Nat.lt_of_lt_of_le (i.lm j hj) x.next }

theorem BI.load (i : BI h b ws w g m bc o c k) : A.load false 1 (.pointer (some ⟨b, 9, none⟩)) h = some (.int .i64 (k : Int)) ∧ A.load false 1 (.pointer (some ⟨b, 5, none⟩)) h = some (.slice (some ⟨ws, 0, none⟩) 2 c) ∧ A.load false 1 (.pointer (some ⟨b, 0, none⟩)) h = some (.int .i64 2) := by
  have bl := i.bl
  refine ⟨?_, ?_, ?_⟩
  · rw [load1_eq, i.hb]
    show (bc.set 9 (.int .i64 (k : Int)))[9]? = _
    rw [List.getElem?_set, if_pos rfl, if_pos (by omega)]
  · rw [load1_eq, i.hb]
    show (bc.set 9 (.int .i64 (k : Int)))[5]? = _
    rw [List.getElem?_set, if_neg (by omega)]; exact i.b5
  · rw [load1_eq, i.hb]
    show (bc.set 9 (.int .i64 (k : Int)))[0]? = _
    rw [List.getElem?_set, if_neg (by omega)]; exact i.b0

theorem T26 (n : Nat) (i : BI h b ws w g m bc o c k) (hk : 1 ≤ k) (hk2 : k ≤ 4096) : ∃ j, j < 2 ∧ callB Tryz.prog 0 [] (n + 3) 26 [ptrB b, .int .i64 (k : Int)] h = some (ptrB (w j), h) := by
  rw [F26eq [] rfl]
  obtain ⟨l9, l5, l0⟩ := i.load
  have nz : A.bin Tryz.prog .eql 22 (ptrB b) (.pointer none) = some (.bool false) := bin_ptr_nil Tryz.underlying22 _
  have c1 : decide ((k : Int) < 1) = false := by rw [decide_eq_false_iff_not]; omega
  have c2 : decide ((k : Int) < (k : Int)) = false := by rw [decide_eq_false_iff_not]; omega
  have hj : (k - 1) % 2 < 2 := Nat.mod_lt _ (by omega)
  have e62 := T62 n h (x := 2) hk hk2 (by omega) (by omega)
  have kc : chk (bnd (A.load false 1 (.pointer (some ⟨b, 5, none⟩)) h) fun v => some v) (.slice (some ⟨ws, 0, none⟩) 2 c) = true := by
    rw [l5]; exact same_slice _ _ _ (fun b h => by cases h; rfl)
  have ix := idxS_eq 1 ws 0 2 c ((k - 1) % 2) .i64 hj
  rw [Nat.zero_add, Nat.mul_one] at ix
  obtain ⟨cs, o', hg, h0, h1⟩ := i.hws
  have ld : A.load false 1 (.pointer (some ⟨ws, (k - 1) % 2, none⟩)) h = some (ptrB (w ((k - 1) % 2))) := by
    rw [load1_eq, hg]
    show cs[(k - 1) % 2]? = _
    rcases (by omega : (k - 1) % 2 = 0 ∨ (k - 1) % 2 = 1) with e | e
    · rw [e]; exact h0
    · rw [e]; exact h1
  refine ⟨(k - 1) % 2, hj, ?_⟩
  have e62 : callB Tryz.prog 0 [] (n + 2) 62 [.int .i64 (k : Int), .int .i64 2] h = _ := e62
  simp only [F26, p26a, p26al, p26ar, p26arl, p26arll, nz, bnd_some, toBK_bool, cond_false, bin_lss, c1, nilCheck_eq, fieldAddr_eq, Nat.zero_add, l9, bin_gtr, c2, p26arlr, condV_bool, p26arr, l5, l0, e62, bnd2_some, chk_slice, kc, Bool.and_true, cond_true, ix, ld]

theorem T11 (n : Nat) (i : BI h b ws w g m bc o c k) (hk2 : k < 4096) : ∃ h', callB Tryz.prog 0 [] (n + 5) 11 [ptrB b] h = some (.tuple ⟨[.int .i64 ((k + 1 : Nat) : Int), .int .i64 0]⟩, h') ∧ BI h' b ws w g m bc o c (k + 1) ∧ h'.next ≤ h.next + 2 := by
  rw [F11eq [] rfl]
  obtain ⟨l9, _, _⟩ := i.load
  have nz : A.bin Tryz.prog .eql 22 (ptrB b) (.pointer none) = some (.bool false) := bin_ptr_nil Tryz.underlying22 _
  have c1 : decide ((k : Int) = 4096) = false := by rw [decide_eq_false_iff_not]; omega
  have wr : IntKind.i64.wrap ((k : Int) + 1) = ((k + 1 : Nat) : Int) := wrap_succ (by omega)
  have bl := i.bl
  obtain ⟨h1, hh1⟩ : ∃ h1, h1 = h.put b (.cells (bc.set 9 (.int .i64 ((k + 1 : Nat) : Int))) (some o)) := ⟨_, rfl⟩
  have st : A.store 1 (.pointer (some ⟨b, 9, none⟩)) (.int .i64 ((k + 1 : Nat) : Int)) h = some h1 := by
    rw [store_eq, i.hb, cellsL_int]
    have t1 : Nat.beq [Value.int .i64 ((k + 1 : Nat) : Int)].length 1 = true := rfl
    have t2 : Nat.ble (9 + 1) (bc.set 9 (.int .i64 (k : Int))).length = true := by rw [List.length_set, bl]; rfl
    simp only [t1, t2, Bool.and_self, cond_true]
    rw [splice_one (by rw [List.length_set, bl]; omega), List.set_set, hh1]
  have x1 : ExtBut (fun i => i = b) h h1 := hh1 ▸ ExtBut.put (Ext.refl h).but b _ rfl
  have n1 : h1.next = h.next := by rw [hh1]; rfl
  have i1 : BI h1 b ws w g m bc o c (k + 1) := by
    refine { i with hb := by rw [hh1, H.get_put, if_pos rfl], hws := ?_, hw := ?_, hg := ?_, hm := ?_, lb := n1 ▸ i.lb, lws := n1 ▸ i.lws, lw := n1 ▸ i.lw, lg := n1 ▸ i.lg, lm := n1 ▸ i.lm }
    · obtain ⟨cs, o, e, r⟩ := i.hws
      exact ⟨cs, o, by rw [x1.get ws i.lws (Ne.symm i.d1)]; exact e, r⟩
    · intro j hj
      obtain ⟨cs, o, e, r⟩ := i.hw j hj
      exact ⟨cs, o, by rw [x1.get _ (i.lw j hj) (Ne.symm (i.d2 j hj).1)]; exact e, r⟩
    · exact fun j hj => (i.hg j hj).but x1 (i.lg j hj) (Ne.symm (i.d2 j hj).2.1)
    · exact fun j hj => (i.hm j hj).but x1 (i.lm j hj) (Ne.symm (i.d2 j hj).2.2.1)
  obtain ⟨l9', _, _⟩ := i1.load
  obtain ⟨j, hj, e26⟩ := T26 (n + 1) i1 (by omega) (by omega)
  obtain ⟨cs, ow, hwj, hw0⟩ := i1.hw j hj
  have lg : A.load false 1 (.pointer (some ⟨w j, 0, none⟩)) h1 = some (ptrB (g j)) := by rw [load1_eq, hwj]; exact hw0
  have kc : chk (bnd (A.load false 1 (.pointer (some ⟨b, 9, none⟩)) h1) fun v => some v) (.int .i64 ((k + 1 : Nat) : Int)) = true := by
    rw [l9']; show same (.int .i64 ((k + 1 : Nat) : Int)) (.int .i64 ((k + 1 : Nat) : Int)) = true; simp [same]
  obtain ⟨r, h2, e29, x2, mi2, n2⟩ := T29 (n + 1) (i1.hg j hj) (i1.hm j hj) (i1.lg j hj) (i1.lm j hj) (i1.d3 j j hj hj).2 (n := k + 1) (by omega) (by omega)
  have i2 : BI h2 b ws w g m bc o c (k + 1) := i1.but x2 (i1.d2 j hj).2.2.1 (i1.d2 j hj).2.2.2 (fun q hq => (i1.d3 q j hq hj).1) (fun q hq => (i1.d3 q j hq hj).2) fun q hq => by
    by_cases e : m q = m j
    · rw [e]; exact mi2
    · exact (i1.hm q hq).but x2 (i1.lm q hq) e
  obtain ⟨l9'', _, _⟩ := i2.load
  refine ⟨h2, ?_, i2, by omega⟩
  have e26 : callB Tryz.prog 0 [] (n + 4) 26 [ptrB b, .int .i64 ((k + 1 : Nat) : Int)] h1 = _ := e26
  have e29 : callB Tryz.prog 0 [] (n + 4) 29 [ptrB (g j), .int .i64 ((k + 1 : Nat) : Int)] h1 = _ := e29
  simp only [F11, p11a, p11al, p11ar, p11arl, p11arlb, nz, bnd_some, toBK_bool, cond_false, nilCheck_eq, fieldAddr_eq, Nat.zero_add, l9, bin_eql, c1, p11arr, p11arrl, bin_add, wr, st, p11arrr, l9', e26, bnd2_some, lg, chk_int, kc, Bool.and_true, cond_true, e29, l9'']
end

theorem loop3 (n L : Nat) {β : Type} (kr kx : Value → H → Option β) {b ws : Nat} {w g m : Nat → Nat} {bc : List Value} {o c : Nat} :
    ∀ (d k q : Nat) (h : H), k + d = 4096 → d < q → BI h b ws w g m bc o c k → ∃ h', p3arrrrlrbw (callB Tryz.prog 0 [] (n + 5)) L kr kx q (.int .i64 ((k + 1 : Nat) : Int)) (ptrB b) h = kx (ptrB b) h' ∧ BI h' b ws w g m bc o c 4096 ∧ h'.next ≤ h.next + 2 * d := by
  intro d
  induction d with
  | zero =>
    intro k q h hk hq i
    obtain ⟨q, rfl⟩ : ∃ r, q = r + 1 := ⟨q - 1, by omega⟩
    have c1 : decide (((k + 1 : Nat) : Int) ≤ 4096) = false := by rw [decide_eq_false_iff_not]; omega
    have : k = 4096 := by omega
    subst this
    refine ⟨h, ?_, i, by omega⟩
    simp only [p3arrrrlrbw, p3arrrrlrbo, p3arrrrlrbol, bin_leq, c1, bnd_some, toBK_bool, cond_false]
  | succ d ih =>
    intro k q h hk hq i
    obtain ⟨q, rfl⟩ : ∃ r, q = r + 1 := ⟨q - 1, by omega⟩
    have c1 : decide (((k + 1 : Nat) : Int) ≤ 4096) = true := by rw [decide_eq_true_iff]; omega
    have wr : IntKind.i64.wrap (((k + 1 : Nat) : Int) + 1) = ((k + 1 + 1 : Nat) : Int) := wrap_succ (by omega)
    obtain ⟨h1, e, i1, n1⟩ := T11 n i (by omega)
    have c2 : (!decide (((k + 1 : Nat) : Int) = ((k + 1 : Nat) : Int))) = false := by simp
    have c3 : (!decide ((0 : Int) = 0)) = false := rfl
    have x0 : A.extract 0 (.tuple ⟨[.int .i64 ((k + 1 : Nat) : Int), .int .i64 0]⟩) = some (.int .i64 ((k + 1 : Nat) : Int)) := rfl
    have x1 : A.extract 1 (.tuple ⟨[.int .i64 ((k + 1 : Nat) : Int), .int .i64 0]⟩) = some (.int .i64 0) := rfl
    obtain ⟨h', e', i', n'⟩ := ih (k + 1) q h1 (by omega) (by omega) i1
    refine ⟨h', ?_, i', by omega⟩
    simp only [p3arrrrlrbw, p3arrrrlrbo, p3arrrrlrbol, bin_leq, c1, bnd_some, toBK_bool, cond_true, p3arrrrlrbor, p3arrrrlrborl, p3arrrrlrborlb, e, bnd2_some, x0, x1, bin_neq, c2, c3, cond_false, p3arrrrlrborr, bin_add, wr]
    exact e'

/-- What is known ahead may be more. -/
theorem cl_pre {P : Program} {NG nt : Nat} {w0 : World} {c : Code} {fr fr0 fr' : T Value} {h h0 h' : H} {ex : Ex} (x : Cl P NG nt w0 c fr h ex fr' h') (hf : ∀ t v, fr.get t = some v → fr0.get t = some v) (hs : SubH h h0) : Cl P NG nt w0 c fr0 h0 ex fr' h' := fun μ a w i f =>
  wpIn_mono (x μ a w (i.sub hs) ⟨f.1, fun t v hv => f.2 t v (hf t v hv)⟩) fun _ _ _ ⟨he, μ', i', f', s, r⟩ => ⟨he, μ', i', f', s, r⟩

/-- The loop, as a piece of the closed run. -/
theorem loopCl (hzp : zerosPlain Tryz.prog = true) (hm : Tryz.prog.follows .mixedOrders = true) (hn : namesOK Tryz.prog = true) (w0 : World) {b ws : Nat} {w g m : Nat → Nat} {bc : List Value} {o c : Nat} {l l2 : List (Nat × Value)} {hl : List (Nat × Blk)} {n n' : Nat}
    (i : BI (F.hL hl n) b ws w g m bc o c 1) (hl1 : (F.frL l).get 1 = some (ptrB b)) (hl2 : l2 = [(1, ptrB b)]) (hnn : n + 8190 ≤ n') :
    Cl Tryz.prog 0 193 w0 c3arrrrl (F.frL l) (F.hL hl n) .normal (F.frL l2) (F.hL [(b, .cells (bc.set 9 (.int .i64 4096)) (some o))] n') := by
  obtain ⟨L, hL⟩ : ∃ L : Nat, 4095 < L := ⟨5000, by omega⟩
  obtain ⟨d, hd⟩ : ∃ d : Nat, d = 4095 := ⟨_, rfl⟩
  obtain ⟨k, hk0⟩ : ∃ k : Nat, k = 1 := ⟨_, rfl⟩
  rw [← hk0] at i
  obtain ⟨h', e, i', hn'⟩ := loop3 5 L (fun x0 h => some (Ex.ret, fs [(0, x0)], h)) (fun x1 h => some (Ex.normal, fs [(1, x1)], h)) d k L (F.hL hl n) (by omega) (by omega) i
  have k2 : Value.int .i64 ((k + 1 : Nat) : Int) = .int .i64 2 := by rw [hk0]; rfl
  rw [k2] at e
  have e2 : execK Tryz.prog (callB Tryz.prog 0 [] (5 + 5)) L 0 193 [0] c3arrrrl [1] [] (fs [(1, ptrB b)]) (F.hL hl n) (fun ex fr h => some (ex, fr, h)) = some (Ex.normal, fs [(1, ptrB b)], h') := by
    rw [ep3arrrrl]
    simp only [p3arrrrl, p3arrrrll, p3arrrrlr, p3arrrrlrb]
    exact e
  obtain ⟨ex, fr', h'', hk, hc⟩ := execK_sound hzp hm (callB_sound hzp hm hn (O := []) (by simp) (5 + 5)) c3arrrrl [1] [] _ _ _ _ e2
  simp only [Option.some.injEq, Prod.mk.injEq] at hk
  obtain ⟨rfl, rfl, rfl⟩ := hk
  refine cl_pre (cl_sub (cl_codes hc) ?_ ⟨?_, ?_⟩) ?_ ⟨fun _ _ h => h, Nat.le_refl _⟩
  · intro t v hv
    subst hl2
    have := F.frL_get _ _ _ hv
    simp only [List.mem_singleton, Prod.mk.injEq] at this
    obtain ⟨rfl, rfl⟩ := this
    rfl
  · intro id bl hb
    have := F.hL_get _ _ _ _ hb
    simp only [List.mem_singleton, Prod.mk.injEq] at this
    obtain ⟨rfl, rfl⟩ := this
    exact i'.hb
  · have h1 : (F.hL hl n).next = n := rfl
    have h2 : _ ≤ n' := Nat.le_trans hn' (by omega)
    exact h2
  · intro t v hv
    have e1 : fs [(1, ptrB b)] = (T.nil : T Value).set 1 (some (ptrB b)) := rfl
    rw [e1, T.get_set] at hv
    split at hv
    · rename_i e; subst e; rw [hl1]; exact hv
    · simp at hv
end Go.Proofs.YticbebcnkjapfaaGreatDoor.BkD
