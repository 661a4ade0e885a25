/-
  Mail: Copy of any command: what it holds, and that its memory is new.
-/
import Derived.Test.YtdjhkdogpbiglaaMailE6
namespace Go.Proofs.Ytdjhkdogpbiglaa.MailD
open Go Go.AM

theorem pks32 (k L : Nat) {β : Type} (kx : Value → Value → Value → Value → Value → Value → H → Option β) {hS hB : H} (xSB : Ext hS hB) {T : ItD} {pe : List (List Value)} (ap : All2 (PkIn SliceE hS) pe T.pks) (sm : T.Small) {t : Nat} (ht0 : hS.next ≤ t) (htB : t < hB.next) {a b c w : Value} (x4 x12 x11 x10 x3 : Value) :
    ∀ (dd j m : Nat) (h : H) (cur : List (List Value)), j + dd = T.pks.length → dd < m → ExtBut (fun i => i = t) hB h → h.get t = some (.cells (T.cells a b c w) (some 0)) → OwnW (fun i => hB.next ≤ i) 24 h w cur → cur.length = T.pks.length → (∀ q, j ≤ q → cur[q]? = pe[q]?) → (∀ q y z, q < j → cur[q]? = some y → T.pks[q]? = some z → PkIn (OwnW (fun i => hB.next ≤ i)) h y z) →
      ∃ h' cur', p32arrlrborrlbrrrrrlrbw (callB Try.prog 0 [9] (k + 1)) L kx m (.int .i64 (T.pks.length : Int)) (.int .i64 (j : Int)) w x4 (ptrV t) x12 x11 x10 x3 h = kx x4 (ptrV t) x12 x11 x10 x3 h' ∧ ExtBut (fun i => i = t) hB h' ∧ h'.get t = some (.cells (T.cells a b c w) (some 0)) ∧ OwnW (fun i => hB.next ≤ i) 24 h' w cur' ∧ All2 (PkIn (OwnW (fun i => hB.next ≤ i)) h') cur' T.pks := by
  have hxS : ∀ {h : H}, ExtBut (fun i => i = t) hB h → Ext hS h := fun {h} x => ⟨Nat.le_trans xSB.next x.next, fun id hid => by rw [x.get id (Nat.lt_of_lt_of_le hid xSB.next) (by omega)]; exact xSB.get id hid⟩
  intro dd
  induction dd with
  | zero =>
    intro j m h cur hj hm x hg own hl hcur hdone
    obtain ⟨m, rfl⟩ : ∃ q, m = q + 1 := ⟨m - 1, by omega⟩
    have hd : decide ((j : Int) < (T.pks.length : Int)) = false := by rw [decide_eq_false_iff_not]; omega
    refine ⟨h, cur, ?_, x, hg, own, hl, fun q y z hy hz => hdone q y z (by have := (List.getElem?_eq_some_iff.1 hz).1; omega) hy hz⟩
    simp only [p32arrlrborrlbrrrrrlrbw, p32arrlrborrlbrrrrrlrbo, bin_lss, hd, bnd_some, condV_bool, cond_false]
  | succ dd ih =>
    intro j m h cur hj hm x hg own hl hcur hdone
    obtain ⟨m, rfl⟩ : ∃ q, m = q + 1 := ⟨m - 1, by omega⟩
    have hd : decide ((j : Int) < (T.pks.length : Int)) = true := by rw [decide_eq_true_iff]; omega
    have hjl := sm.2.2.2.1
    have hwr : IntKind.i64.wrap ((j : Int) + 1) = ((j + 1 : Nat) : Int) := wrap_succ (by omega)
    have hjc : j < cur.length := by omega
    obtain ⟨p, hp⟩ : ∃ p, T.pks[j]? = some p := ⟨_, List.getElem?_eq_getElem (by omega)⟩
    obtain ⟨u, hu, pu⟩ := ap.at2 hp
    have hcu : cur[j] = u := by
      have := hcur j (Nat.le_refl _)
      rw [hu, List.getElem?_eq_getElem hjc] at this
      exact Option.some.inj this
    obtain ⟨q, ix, hq0, hqn, hsq, hgq, ld, st⟩ := own.at hjc
    rw [hcu] at ld
    have nx := x.next
    obtain ⟨g1, h2, b1, s1, gt2, x2, n2⟩ := box_put (n := 24) (z := Z66) (zl := Z66L) (vs := u) (h := h) rfl rfl pu.len
    have hg2 : h2.get t = some (.cells (T.cells a b c w) (some 0)) := by rw [x2.get t (by omega)]; exact hg
    have lw2 := ldT35 hg2
    have l7 := load_box (n := 24) gt2 pu.len
    obtain ⟨cs, h3, e42, pcs, x3'⟩ := T42D k (pu.map fun _ _ _ s => (s.ext (hxS x)).ext x2) (sm.2.2.2.2 p (List.mem_of_getElem? hp))
    have nx2 := x2.next
    have nx3 := x3'.next
    have hg3 : h3.get t = some (.cells (T.cells a b c w) (some 0)) := by rw [x3'.get t (by omega)]; exact hg2
    have kc := chk_same _ (ldT35 hg3) own.slice.same
    have hgq3 : h3.get q = h.get q := by rw [x3'.get q (by omega), x2.get q hqn]
    obtain ⟨es, own4⟩ := st cs h3 pcs.len hgq3 (by omega)
    obtain ⟨h4, hh4⟩ : ∃ h4, h4 = h3.put q (.cells (cur.set j cs).flatten (some 24)) := ⟨_, rfl⟩
    rw [← hh4] at es own4
    have n4 : h4.next = h3.next := by rw [hh4]; rfl
    have m4 : Mv 0 [24] h3 h4 := hh4 ▸ Mv.put (Nat.zero_le _) (by rw [hgq3]; exact hgq) (by simp) _
    have hg4 : h4.get t = some (.cells (T.cells a b c w) (some 0)) := by rw [hh4, H.get_put, if_neg (by omega)]; exact hg3
    have x4' : ExtBut (fun i => i = t) hB h4 := ⟨by omega, fun id hid hne => by
      rw [hh4, H.get_put, if_neg (by omega), x3'.get id (by omega), x2.get id (by omega)]
      exact x.get id hid hne⟩
    obtain ⟨h', cur', e, r⟩ := ih (j + 1) m h4 (cur.set j cs) (by omega) (by omega) x4' hg4 own4 (by rw [List.length_set]; exact hl) (fun q hq => by rw [List.getElem?_set, if_neg (by omega)]; exact hcur q (by omega)) (fun q' y z hq' hy hz => by
      by_cases hqj : q' = j
      · subst hqj
        rw [List.getElem?_set, if_pos rfl, if_pos hjc] at hy
        rw [hp] at hz
        obtain rfl := Option.some.inj hy
        obtain rfl := Option.some.inj hz
        exact (pcs.own fun i hi => by omega).mv m4 (by simp)
      · rw [List.getElem?_set, if_neg (by omega)] at hy
        exact ((hdone q' y z (by omega) hy hz).mv (b := 0) (tags := [24]) (Mv.ofExt (x2.trans x3')) (by simp)).mv m4 (by simp))
    refine ⟨h', cur', ?_, r⟩
    simp only [p32arrlrborrlbrrrrrlrbw, p32arrlrborrlbrrrrrlrbo, bin_lss, hd, bnd_some, condV_bool, cond_true, ix, ld, b1, bnd2_some, s1, fieldAddr_eq, Nat.zero_add, lw2, l7, e42, kc, Bool.and_true, es, bin_add, hwr]
    exact e

/-- One item. -/
theorem round32D (k L : Nat) (hL : 100 ≤ L) {β : Type} (kn : Value → Value → Value → Value → H → Option β) {hS h : H} (x : Ext hS h) {x3 : Value} {cur : List (List Value)} (own : OwnW (fun i => hS.next ≤ i) 38 h x3 cur) {i n : Nat} (hi : i < cur.length) {T : ItD} (it : ItIn SliceE hS cur[i] T) (sm : T.Small) :
    ∃ h' new, p32arrlrborrlb (callB Try.prog 0 [9] (k + 1)) L (.int .i64 (i : Int)) (.int .i64 (n : Int)) x3 x3 h kn = kn (.int .i64 (i : Int)) (.int .i64 (n : Int)) x3 x3 h' ∧ OwnW (fun i => hS.next ≤ i) 38 h' x3 (cur.set i new) ∧ Ext hS h' ∧ ItIn (OwnW (fun i => hS.next ≤ i)) h' new T ∧ Mv hS.next [38] h h' := by
  obtain ⟨q, ix, hq0, hqn, hsq, hgq, ld, st⟩ := own.at hi
  obtain ⟨p22, p33, p34, p35, pe, hcs, s22, s33, s34, s35, ap⟩ := it
  rw [hcs] at ld
  have nx := x.next
  obtain ⟨g1, h2, eb, est, gt2, x2, n2⟩ := box_put (n := 38) (z := Z71) (zl := Z71L) (vs := T.cells p22 p33 p34 p35) (h := h) rfl rfl rfl
  obtain ⟨t, ht⟩ : ∃ t, t = h.next := ⟨_, rfl⟩
  rw [← ht] at eb est gt2
  have x02 := x.trans x2
  -- the packet
  obtain ⟨c5, h3, e42, pc5, x3e⟩ := T42D k (h := h2) (x := T.pk.cells p22) (p := T.pk) ⟨p22, rfl, s22.ext x02⟩ sm.1
  obtain ⟨v22, rfl, o22⟩ := pc5
  have nx3 := x3e.next
  have gt3 : h3.get t = some (.cells (T.cells p22 p33 p34 p35) (some 0)) := by rw [x3e.get t (by omega)]; exact gt2
  have st5 := stT5 (v := v22) gt3
  obtain ⟨h4, hh4⟩ : ∃ h4, h4 = h3.put t (.cells (T.cells v22 p33 p34 p35) (some 0)) := ⟨_, rfl⟩
  rw [← hh4] at st5
  have gt4 : h4.get t = some (.cells (T.cells v22 p33 p34 p35) (some 0)) := by rw [hh4]; exact get_put_same _ _ _
  have n4 : h4.next = h3.next := by rw [hh4]; rfl
  have m34 : Mv h.next [0] h3 h4 := hh4 ▸ Mv.put (by omega) gt3 (by simp) _
  have e04 : Ext h h4 := Mv.ext (x2.trans x3e) m34 (Nat.le_refl _)
  -- the messages
  obtain ⟨v33, h5, e43, o33, x5⟩ := T43D k (s33.ext (x.trans e04)) (by rw [List.length_map]; have := sm.2.1; omega)
  have nx5 := x5.next
  have gt5 : h5.get t = some (.cells (T.cells v22 p33 p34 p35) (some 0)) := by rw [x5.get t (by omega)]; exact gt4
  have st33 := stT33 gt5 o33.slice.cells
  obtain ⟨h6, hh6⟩ : ∃ h6, h6 = h5.put t (.cells (T.cells v22 v33 p34 p35) (some 0)) := ⟨_, rfl⟩
  rw [← hh6] at st33
  have gt6 : h6.get t = some (.cells (T.cells v22 v33 p34 p35) (some 0)) := by rw [hh6]; exact get_put_same _ _ _
  have n6 : h6.next = h5.next := by rw [hh6]; rfl
  have m56 : Mv h.next [0] h5 h6 := hh6 ▸ Mv.put (by omega) gt5 (by simp) _
  have e06 : Ext h h6 := Mv.ext (e04.trans x5) m56 (Nat.le_refl _)
  -- the clients
  obtain ⟨v34, h7, e44, o34, x7⟩ := T44D k (s34.ext (x.trans e06)) (by rw [List.length_map]; have := sm.2.2.1; omega)
  have nx7 := x7.next
  have gt7 : h7.get t = some (.cells (T.cells v22 v33 p34 p35) (some 0)) := by rw [x7.get t (by omega)]; exact gt6
  have st34 := stT34 gt7 o34.slice.cells
  obtain ⟨h8, hh8⟩ : ∃ h8, h8 = h7.put t (.cells (T.cells v22 v33 v34 p35) (some 0)) := ⟨_, rfl⟩
  rw [← hh8] at st34
  have gt8 : h8.get t = some (.cells (T.cells v22 v33 v34 p35) (some 0)) := by rw [hh8]; exact get_put_same _ _ _
  have n8 : h8.next = h7.next := by rw [hh8]; rfl
  have m78 : Mv h.next [0] h7 h8 := hh8 ▸ Mv.put (by omega) gt7 (by simp) _
  have e08 : Ext h h8 := Mv.ext (e06.trans x7) m78 (Nat.le_refl _)
  -- the packets
  have s35' := s35.ext (x.trans e08)
  have lpe : pe.length = T.pks.length := ap.1
  obtain ⟨v35, h9, e45, o35, x9⟩ := T45D k s35' (by have := sm.2.2.2.1; omega)
  have nx9 := x9.next
  have gt9 : h9.get t = some (.cells (T.cells v22 v33 v34 p35) (some 0)) := by rw [x9.get t (by omega)]; exact gt8
  have st35 := stT35 gt9 o35.slice.cells
  obtain ⟨hA, hhA⟩ : ∃ hA, hA = h9.put t (.cells (T.cells v22 v33 v34 v35) (some 0)) := ⟨_, rfl⟩
  rw [← hhA] at st35
  have gtA : hA.get t = some (.cells (T.cells v22 v33 v34 v35) (some 0)) := by rw [hhA]; exact get_put_same _ _ _
  have nA : hA.next = h9.next := by rw [hhA]; rfl
  have m9A : Mv h.next [0] h9 hA := hhA ▸ Mv.put (by omega) gt9 (by simp) _
  have xA : ExtBut (fun i => i = t) h8 hA := by rw [hhA]; exact ExtBut.put x9.but t _ rfl
  have oA : OwnW (fun i => h8.next ≤ i) 24 hA v35 pe := o35.mv m9A (by simp)
  have hlen : A.lenS v35 = some (.int .i64 (T.pks.length : Int)) := by have := o35.slice.len.1; rwa [lpe] at this
  obtain ⟨hC, pe', e35, xC, gtC, oC, alp⟩ := pks32 k L (fun x4 x5 x12 x11 x10 x3 h => p32arrlrborrlbrrrrrr (callB Try.prog 0 [9] (k + 1)) L x4 x5 x12 x11 x10 x3 h kn) (x.trans e08) ap sm (t := t) (by omega) (by omega) (.int .i64 (i : Int)) (.int .i64 (i : Int)) (.int .i64 (n : Int)) x3 x3 T.pks.length 0 L hA pe (by omega) (by have := sm.2.2.2.1; omega) xA gtA oA lpe (fun _ _ => rfl) (fun q y z hq => by omega)
  have e35' : p32arrlrborrlbrrrrrlrbw (callB Try.prog 0 [9] (k + 1)) L (fun x4 x5 x12 x11 x10 x3 h => p32arrlrborrlbrrrrrr (callB Try.prog 0 [9] (k + 1)) L x4 x5 x12 x11 x10 x3 h kn) L (.int .i64 (T.pks.length : Int)) (.int .i64 0) v35 (.int .i64 (i : Int)) (ptrV t) (.int .i64 (i : Int)) (.int .i64 (n : Int)) x3 x3 hA = _ := e35
  have nxC := xC.next
  have e0C : Ext h hC := ⟨by omega, fun j hj => by
    rw [xC.get j (by omega) (by omega)]
    exact e08.get j hj⟩
  have m8C : Mv h.next [0] h8 hC := ⟨xC.next, fun j hj hs => xC.get j hj fun e => hs ⟨by omega, T.cells v22 v33 v34 p35, 0, by rw [e]; exact gt8, by simp⟩⟩
  have ldC := ldT gtC
  obtain ⟨es, own'⟩ := st (T.cells v22 v33 v34 v35) hC rfl (e0C.get q hqn) e0C.next
  obtain ⟨hE, hhE⟩ : ∃ hE, hE = hC.put q (.cells (cur.set i (T.cells v22 v33 v34 v35)).flatten (some 38)) := ⟨_, rfl⟩
  rw [← hhE] at es own'
  have mE : Mv hS.next [38] hC hE := hhE ▸ Mv.put hq0 (by rw [e0C.get q hqn]; exact hgq) (by simp) _
  refine ⟨hE, T.cells v22 v33 v34 v35, ?_, own', Mv.ext (x.trans e0C) mE (Nat.le_refl _), ⟨v22, v33, v34, v35, pe', rfl, ?_, ?_, ?_, ?_, ?_⟩, (Mv.ofExt e0C).trans mE⟩
  · simp only [p32arrlrborrlb, p32arrlrborrlbl, ix, bnd_some, ld, eb, bnd2_some, est, p32arrlrborrlbr, p32arrlrborrlbrl, fieldAddr_eq, Nat.zero_add, ldT5 gt2, e42, st5, p32arrlrborrlbrr, p32arrlrborrlbrrl, ldT33 gt4, e43, st33, p32arrlrborrlbrrr, p32arrlrborrlbrrrl, ldT34 gt6, e44, st34,
      p32arrlrborrlbrrrr, p32arrlrborrlbrrrrl, ldT35 gt8, e45, st35, p32arrlrborrlbrrrrr, p32arrlrborrlbrrrrrl, p32arrlrborrlbrrrrrll, ldT35 gtA, hlen, p32arrlrborrlbrrrrrlr, p32arrlrborrlbrrrrrlrb]
    refine Eq.trans e35' ?_
    simp only [p32arrlrborrlbrrrrrr, ldC, bnd_some, ix, es]
  · have m3 : Mv h.next [0] h3 hC := ((((m34.trans (Mv.ofExt x5)).trans m56).trans (Mv.ofExt x7)).trans m78).trans m8C
    exact ((o22.mono (T := fun i => hS.next ≤ i) fun i hi => by omega).mv m3 (by simp)).mv mE (by simp)
  · have m5 : Mv h.next [0] h5 hC := ((m56.trans (Mv.ofExt x7)).trans m78).trans m8C
    exact ((o33.mono (T := fun i => hS.next ≤ i) fun i hi => by omega).mv m5 (by simp)).mv mE (by simp)
  · have m7 : Mv h.next [0] h7 hC := m78.trans m8C
    exact ((o34.mono (T := fun i => hS.next ≤ i) fun i hi => by omega).mv m7 (by simp)).mv mE (by simp)
  · exact (oC.mono (T := fun i => hS.next ≤ i) fun i hi => by omega).mv mE (by simp)
  · exact alp.mono fun _ _ p => (p.own fun i hi => by omega).mv mE (by simp)

/-- All items. -/
theorem items32 (k L : Nat) (hL : 100 ≤ L) {β : Type} (kx : Value → H → Option β) {hS : H} {x3 : Value} {els : List (List Value)} {c : List ItD} (ac : All2 (ItIn SliceE hS) els c) (sm : SmallC c) :
    ∀ (d i m : Nat) (h : H) (cur : List (List Value)), i + d = c.length → d < m → Ext hS h → OwnW (fun i => hS.next ≤ i) 38 h x3 cur → cur.length = c.length → (∀ j, i ≤ j → cur[j]? = els[j]?) → (∀ q y z, q < i → cur[q]? = some y → c[q]? = some z → ItIn (OwnW (fun i => hS.next ≤ i)) h y z) →
      ∃ h', p32arrlrbw (callB Try.prog 0 [9] (k + 1)) L kx m (.int .i64 (c.length : Int)) (.int .i64 (i : Int)) x3 x3 h = kx x3 h' ∧ Ext hS h' ∧ CmdIn (OwnW (fun i => hS.next ≤ i)) h' x3 c := by
  have h20 := sm.1
  intro d
  induction d with
  | zero =>
    intro i m h cur hi hm x own hl hcur hdone
    obtain ⟨m, rfl⟩ : ∃ q, m = q + 1 := ⟨m - 1, by omega⟩
    have hd : decide ((i : Int) < (c.length : Int)) = false := by rw [decide_eq_false_iff_not]; omega
    refine ⟨h, ?_, x, cur, own, hl, fun q y z hy hz => hdone q y z (by have := (List.getElem?_eq_some_iff.1 hz).1; omega) hy hz⟩
    simp only [p32arrlrbw, p32arrlrbo, p32arrlrbol, bin_lss, hd, bnd_some, p32arrlrbor, p32arrlrborl, condV_bool, cond_false]
  | succ d ih =>
    intro i m h cur hi hm x own hl hcur hdone
    obtain ⟨m, rfl⟩ : ∃ q, m = q + 1 := ⟨m - 1, by omega⟩
    have hd : decide ((i : Int) < (c.length : Int)) = true := by rw [decide_eq_true_iff]; omega
    have hwr : IntKind.i64.wrap ((i : Int) + 1) = ((i + 1 : Nat) : Int) := wrap_succ (by omega)
    have hic : i < cur.length := by omega
    obtain ⟨T, hT⟩ : ∃ T, c[i]? = some T := ⟨_, List.getElem?_eq_getElem (by omega)⟩
    obtain ⟨cs, hcs, it⟩ := ac.at2 hT
    have hci : cur[i] = cs := by
      have := hcur i (Nat.le_refl _)
      rw [hcs, List.getElem?_eq_getElem hic] at this
      exact Option.some.inj this
    obtain ⟨h1, new, e1, own1, x1, itn, mv⟩ := round32D k L hL (fun x12 x11 x10 x3 h => p32arrlrborrr (callB Try.prog 0 [9] (k + 1)) L x12 x11 x10 x3 h (fun x11 x12 x10 x3 h => p32arrlrbw (callB Try.prog 0 [9] (k + 1)) L kx m x11 x12 x10 x3 h)) x own (n := c.length) hic (T := T) (by rw [hci]; exact it) (sm.2 T (List.mem_of_getElem? hT))
    obtain ⟨h', e2, r⟩ := ih (i + 1) m h1 (cur.set i new) (by omega) (by omega) x1 own1 (by rw [List.length_set]; exact hl) (fun j hj => by rw [List.getElem?_set, if_neg (by omega)]; exact hcur j (by omega)) (fun q y z hq hy hz => by
      by_cases hqi : q = i
      · subst hqi
        rw [List.getElem?_set, if_pos rfl, if_pos hic] at hy
        rw [hT] at hz
        obtain rfl := Option.some.inj hy
        obtain rfl := Option.some.inj hz
        exact itn
      · rw [List.getElem?_set, if_neg (by omega)] at hy
        exact (hdone q y z (by omega) hy hz).mv mv (by simp) (by simp) (by simp) (by simp))
    refine ⟨h', ?_, r⟩
    simp only [p32arrlrbw, p32arrlrbo, p32arrlrbol, bin_lss, hd, bnd_some, p32arrlrbor, p32arrlrborl, condV_bool, cond_true, p32arrlrborr, p32arrlrborrl]
    refine Eq.trans e1 ?_
    simp only [p32arrlrborrr, bin_add, bnd_some, hwr]
    exact e2

/-- Copy. -/
theorem S32 (k : Nat) {h : H} {v : Value} {c : List ItD} (ci : CmdIn SliceE h v c) (sm : SmallC c) : ∃ v' h', callB Try.prog 0 [9] (k + 202) 32 [v] h = some (v', h') ∧ CmdIn (OwnW (fun i => h.next ≤ i)) h' v' c ∧ Ext h h' := by
  obtain ⟨els, s, ac⟩ := ci
  rw [F32eq [9] rfl]
  obtain ⟨x3, h1, e41, own, x1⟩ := T41D (k + 200) s (by have := ac.1; have := sm.1; omega)
  have hlen : A.lenS x3 = some (.int .i64 (c.length : Int)) := by have := own.slice.len.1; rwa [ac.1] at this
  obtain ⟨h', e, x', ci'⟩ := items32 (k + 200) (k + 201) (by omega) (fun x3 h => p32arrr (callB Try.prog 0 [9] (k + 201)) (k + 201) x3 h (fun x2 h => some (x2, h))) (hS := h) (x3 := x3) ac sm c.length 0 (k + 201) h1 els (by omega) (by have := sm.1; omega) x1 own ac.1 (fun _ _ => rfl) (fun q y z hq => by omega)
  have e' : p32arrlrbw (callB Try.prog 0 [9] (k + 201)) (k + 201) (fun x3 h => p32arrr (callB Try.prog 0 [9] (k + 201)) (k + 201) x3 h (fun x2 h => some (x2, h))) (k + 201) (.int .i64 (c.length : Int)) (.int .i64 0) x3 x3 h1 = _ := e
  refine ⟨x3, h', ?_, ci', x'⟩
  simp only [F32, p32a, p32al, p32ar, p32arl, e41, bnd2_some, p32arr, p32arrl, p32arrll, hlen, bnd_some, p32arrlr, p32arrlrb]
  refine Eq.trans e' ?_
  simp only [p32arrr]
end Go.Proofs.Ytdjhkdogpbiglaa.MailD
