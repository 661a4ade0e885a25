/-
  Mail: the document's Copy of any command: what it holds, and that its memory is new.
-/
import Derived.Test.YtdjhkdogpbiglaaMailE5
namespace Go.Proofs.Ytdjhkdogpbiglaa.MailD
open Go Go.AM

/-! A box of an item. -/
section
variable {h : H} {t : Nat} {x : ItD} {a b c d v : Value}
theorem stT33 (hg : h.get t = some (.cells (x.cells a b c d) (some 0))) (hv : cellsL v = some [v]) : A.store 1 (.pointer (some ⟨t, 33, none⟩)) v h = some (h.put t (.cells (x.cells a v c d) (some 0))) := by
  rw [store_eq, hg, hv]; rfl
theorem stT34 (hg : h.get t = some (.cells (x.cells a b c d) (some 0))) (hv : cellsL v = some [v]) : A.store 1 (.pointer (some ⟨t, 34, none⟩)) v h = some (h.put t (.cells (x.cells a b v d) (some 0))) := by
  rw [store_eq, hg, hv]; rfl
theorem stT35 (hg : h.get t = some (.cells (x.cells a b c d) (some 0))) (hv : cellsL v = some [v]) : A.store 1 (.pointer (some ⟨t, 35, none⟩)) v h = some (h.put t (.cells (x.cells a b c v) (some 0))) := by
  rw [store_eq, hg, hv]; rfl
theorem stT5 (hg : h.get t = some (.cells (x.cells a b c d) (some 0))) : A.store 24 (.pointer (some ⟨t, 5, none⟩)) (.agg ⟨x.pk.cells v⟩) h = some (h.put t (.cells (x.cells v b c d) (some 0))) := by
  rw [store_eq, hg]; rfl
theorem ldT5 (hg : h.get t = some (.cells (x.cells a b c d) (some 0))) : A.load true 24 (.pointer (some ⟨t, 5, none⟩)) h = some (.agg ⟨x.pk.cells a⟩) := by
  rw [loadN_eq, hg]; rfl
theorem ldT33 (hg : h.get t = some (.cells (x.cells a b c d) (some 0))) : A.load false 1 (.pointer (some ⟨t, 33, none⟩)) h = some b := by
  rw [load1_eq, hg]; rfl
theorem ldT34 (hg : h.get t = some (.cells (x.cells a b c d) (some 0))) : A.load false 1 (.pointer (some ⟨t, 34, none⟩)) h = some c := by
  rw [load1_eq, hg]; rfl
theorem ldT35 (hg : h.get t = some (.cells (x.cells a b c d) (some 0))) : A.load false 1 (.pointer (some ⟨t, 35, none⟩)) h = some d := by
  rw [load1_eq, hg]; rfl
theorem ldT (hg : h.get t = some (.cells (x.cells a b c d) (some 0))) : A.load true 38 (ptrV t) h = some (.agg ⟨x.cells a b c d⟩) := load_box hg rfl
end
theorem get_put_same (h : H) (i : Nat) (b : Blk) : (h.put i b).get i = some b := by rw [H.get_put, if_pos rfl]

/-- One more of a row that grows. -/
theorem append_one {n bs : Nat} {h : H} {v : Value} {es : List (List Value)} {zs vs : List Value} {b : Nat} (vv : Vec n h v es) (hb : ∀ i, sid v = some i → b ≤ i) (hbn : b ≤ h.next) (hz : zs.length = n) (hvs : vs.length = n) (hn : 0 < n) (hs : (es.length + 1) * bs ≤ 2 ^ 47) (hl : es.length + 1 ≤ 2 ^ 47) :
    ∃ u h1 v' h', A.buildSlice n 1 zs [(0, n, .agg ⟨vs⟩)] h = some (u, h1) ∧ A.append n bs v u h1 = some (v', h') ∧ Vec n h' v' (es ++ [vs]) ∧ (∀ i, sid v' = some i → b ≤ i) ∧ Mv b [n] h h' ∧ h.next ≤ h'.next := by
  have hb1 := buildSlice_one (n := n) (zs := zs) (v := .agg ⟨vs⟩) h hz (cellsL_agg vs) hvs
  obtain ⟨h1, hh1⟩ : ∃ h1, h1 = h.push (.cells vs (some n)) := ⟨_, rfl⟩
  rw [← hh1] at hb1
  have x1 : Ext h h1 := hh1 ▸ Ext.push h _
  have n1 : h1.next = h.next + 1 := by rw [hh1]; rfl
  have s1 : SliceE n h1 (.slice (some ⟨h.next, 0, none⟩) 1 3) [vs] := hh1 ▸ slice_one hvs
  obtain ⟨h', e, v', hn', x'⟩ := append_vec (bs := bs) (vv.ext x1) s1 (by simp) hn (by simpa using hs) (by simpa using hl)
  have nx := x'.next
  refine ⟨_, h1, _, h', hb1, e, v', fun i hi => ?_, (Mv.ofExt x1).trans (Mv.vec (vv.ext x1) hb x'), by omega⟩
  have : h1.next = i := by simpa [sid] using hi
  omega

/-- Its packets. -/
theorem pks16 (k L : Nat) {β : Type} (kx : Value → Value → Value → Value → H → Option β) {h0 hS : H} (x0S : Ext h0 hS) {x0 : Value} {els : List (List Value)} (s0 : SliceE 38 h0 x0 els) {i : Nat} {T : ItD} {p22 p33 p34 p35 : Value} (hi : els[i]? = some (T.cells p22 p33 p34 p35)) {pe : List (List Value)} (s35 : SliceE 24 h0 p35 pe) (ap : All2 (PkIn SliceE h0) pe T.pks) (sm : T.Small) {t : Nat} (ht0 : h0.next ≤ t) (htS : t < hS.next) (x3 : Value) :
    ∀ (dd j m : Nat) (h : H) (a b c vk : Value) (eks : List (List Value)), j + dd = T.pks.length → dd < m → ExtBut (fun i => i = t) hS h → h.get t = some (.cells (T.cells a b c vk) (some 0)) → Vec 24 h vk eks → (∀ i, sid vk = some i → hS.next ≤ i) → All2 (PkIn (OwnW (fun i => hS.next ≤ i)) h) eks (T.pks.take j) →
      ∃ h' vk' eks', MailD7.p16arrlrborlbrrrrrrrlrbw (callB Try.prog 0 [9] (k + 1)) L kx m (.int .i64 (j : Int)) x3 (ptrV t) (.int .i64 (i : Int)) x0 h = kx x3 (ptrV t) (.int .i64 (i : Int)) x0 h' ∧ ExtBut (fun i => i = t) hS h' ∧ h'.get t = some (.cells (T.cells a b c vk') (some 0)) ∧ Vec 24 h' vk' eks' ∧ (∀ i, sid vk' = some i → hS.next ≤ i) ∧ All2 (PkIn (OwnW (fun i => hS.next ≤ i)) h') eks' T.pks := by
  have hx0 : ∀ {h : H}, ExtBut (fun i => i = t) hS h → Ext h0 h := fun {h} x => ⟨Nat.le_trans x0S.next x.next, fun id hid => by rw [x.get id (Nat.lt_of_lt_of_le hid x0S.next) (by omega)]; exact x0S.get id hid⟩
  intro dd
  induction dd with
  | zero =>
    intro j m h a b c vk eks hj hm x hg vv hb al
    obtain ⟨m, rfl⟩ : ∃ q, m = q + 1 := ⟨m - 1, by omega⟩
    obtain ⟨id, off, cells, own, e1, _, e3, _, _, e6⟩ := (s0.ext (hx0 x)).at hi .i64
    have l1 : A.load false 1 (.pointer (some ⟨id, off + 35, none⟩)) h = some p35 := by rw [load1_eq, e3]; exact e6 35 (by omega)
    have hlen : A.lenS p35 = some (.int .i64 (T.pks.length : Int)) := by have := s35.len.1; rwa [ap.1] at this
    have hd : decide ((j : Int) < (T.pks.length : Int)) = false := by rw [decide_eq_false_iff_not]; omega
    refine ⟨h, vk, eks, ?_, x, hg, vv, hb, by rw [List.take_of_length_le (by omega)] at al; exact al⟩
    simp only [MailD7.p16arrlrborlbrrrrrrrlrbw, MailD7.p16arrlrborlbrrrrrrrlrbo, MailD7.p16arrlrborlbrrrrrrrlrbol, e1, bnd_some, fieldAddr_eq, l1, hlen, bin_lss, hd, toBK_bool, cond_false]
  | succ dd ih =>
    intro j m h a b c vk eks hj hm x hg vv hb al
    obtain ⟨m, rfl⟩ : ∃ q, m = q + 1 := ⟨m - 1, by omega⟩
    have x0h := hx0 x
    obtain ⟨id, off, cells, own, e1, _, e3, _, _, e6⟩ := (s0.ext x0h).at hi .i64
    have l1 : A.load false 1 (.pointer (some ⟨id, off + 35, none⟩)) h = some p35 := by rw [load1_eq, e3]; exact e6 35 (by omega)
    have hlen : A.lenS p35 = some (.int .i64 (T.pks.length : Int)) := by have := s35.len.1; rwa [ap.1] at this
    have hd : decide ((j : Int) < (T.pks.length : Int)) = true := by rw [decide_eq_true_iff]; omega
    have hjl := sm.2.2.2.1
    have hwr : IntKind.i64.wrap ((j : Int) + 1) = ((j + 1 : Nat) : Int) := wrap_succ (by omega)
    obtain ⟨p, hp⟩ : ∃ p, T.pks[j]? = some p := ⟨_, List.getElem?_eq_getElem (by omega)⟩
    obtain ⟨u, hu, pu⟩ := ap.at2 hp
    obtain ⟨id2, off2, cells2, own2, e12, _, e32, e42, e52, _⟩ := (s35.ext x0h).at hu .i64
    have l2 : A.load true 24 (.pointer (some ⟨id2, off2, none⟩)) h = some (.agg ⟨u⟩) := load_of e32 e42 e52
    have ltk := ldT35 hg
    obtain ⟨cs, h1, ec, pcs, x1⟩ := T37D k ((pu.map fun _ _ _ s => s.ext x0h)) (sm.2.2.2.2 p (List.mem_of_getElem? hp))
    have nx := x.next
    have nx1 := x1.next
    have ht2 : t < h.next := by omega
    have hg1 : h1.get t = some (.cells (T.cells a b c vk) (some 0)) := by rw [x1.get t ht2]; exact hg
    have kc := chk_same _ (ldT35 hg1) vv.slice.same
    have el : eks.length = j := by have := al.1; rw [List.length_take] at this; omega
    obtain ⟨w, h2, vk', h3, eb, ea, vv', hb', mv, nx3⟩ := append_one (bs := 200) (zs := MailD7.Z66L) (vv.ext x1) hb (by omega : hS.next ≤ h1.next) rfl pcs.len (by omega) (by omega) (by omega)
    have hg3 : h3.get t = some (.cells (T.cells a b c vk) (some 0)) := by
      rw [mv.get t (by omega) fun ⟨h1, _⟩ => by omega]
      exact hg1
    have es := stT35 hg3 vv'.slice.cells
    obtain ⟨h4, hh4⟩ : ∃ h4, h4 = h3.put t (.cells (T.cells a b c vk') (some 0)) := ⟨_, rfl⟩
    rw [← hh4] at es
    have m4 : Mv 0 [0] h3 h4 := hh4 ▸ Mv.put (Nat.zero_le _) hg3 (by simp) _
    have hg4 : h4.get t = some (.cells (T.cells a b c vk') (some 0)) := by rw [hh4]; exact get_put_same _ _ _
    have hn4 : h4.next = h3.next := by rw [hh4]; rfl
    have x4 : ExtBut (fun i => i = t) hS h4 := ⟨by omega, fun id hid hne => by
      rw [hh4, H.get_put, if_neg hne, mv.get id (by omega) fun ⟨h1, _⟩ => by omega, x1.get id (by omega)]
      exact x.get id hid hne⟩
    have al' : All2 (PkIn (OwnW (fun i => hS.next ≤ i)) h4) (eks ++ [cs]) (T.pks.take (j + 1)) := by
      have e2 : T.pks.take (j + 1) = T.pks.take j ++ [p] := by
        rw [List.take_add_one, hp]; rfl
      rw [e2]
      refine ⟨by simp [al.1], fun q y z hy hz => ?_⟩
      by_cases hq : q < eks.length
      · rw [List.getElem?_append_left hq] at hy
        rw [List.getElem?_append_left (by rw [← al.1]; exact hq)] at hz
        exact (((al.2 q y z hy hz).mv (b := 0) (tags := [0]) (Mv.ofExt x1) (by simp)).mv mv (by simp)).mv m4 (by simp)
      · have hq2 : q = eks.length := by
          have := (List.getElem?_eq_some_iff.1 hy).1
          simp at this; omega
        subst hq2
        rw [List.getElem?_append_right (Nat.le_refl _)] at hy
        rw [al.1, List.getElem?_append_right (Nat.le_refl _)] at hz
        simp at hy hz
        subst hy; subst hz
        exact ((pcs.own fun i hi => by omega).mv mv (by simp)).mv m4 (by simp)
    have vv4 : Vec 24 h4 vk' (eks ++ [cs]) := Vec.mv vv' m4 (by simp)
    obtain ⟨h', vk2, eks', e, mv', hg', vv2, hb2, al2⟩ := ih (j + 1) m h4 a b c vk' (eks ++ [cs]) (by omega) (by omega) x4 hg4 vv4 hb' al'
    refine ⟨h', vk2, eks', ?_, mv', hg', vv2, hb2, al2⟩
    simp only [MailD7.p16arrlrborlbrrrrrrrlrbw, MailD7.p16arrlrborlbrrrrrrrlrbo, MailD7.p16arrlrborlbrrrrrrrlrbol, e1, bnd_some, fieldAddr_eq, Nat.zero_add, l1, hlen, bin_lss, hd, toBK_bool, cond_true, MailD7.p16arrlrborlbrrrrrrrlrbor, ltk, e12, l2, ec, bnd2_some, kc, Bool.and_true, eb, ea, es, bin_add, hwr]
    exact e

/-- One item. -/
theorem round16 (k L : Nat) (hL : 100 ≤ L) {β : Type} (kn : Value → Value → Value → H → Option β) {h0 h : H} (x : Ext h0 h) {x0 : Value} {els : List (List Value)} (s0 : SliceE 38 h0 x0 els) {i : Nat} {cs : List Value} (hi : els[i]? = some cs) {T : ItD} (it : ItIn SliceE h0 cs T) (sm : T.Small) {x3 : Value} {es : List (List Value)} {ds : List ItD} (vv : Vec 38 h x3 es) (hb : ∀ i, sid x3 = some i → h0.next ≤ i) (al : All2 (ItIn (OwnW (fun i => h0.next ≤ i)) h) es ds) (hlen : es.length ≤ 1000) :
    ∃ h' x3' new, MailD7.p16arrlrborlb (callB Try.prog 0 [9] (k + 1)) L x3 (.int .i64 (i : Int)) x0 h kn = kn (.int .i64 (i : Int)) x0 x3' h' ∧ Ext h0 h' ∧ Vec 38 h' x3' (es ++ [new]) ∧ (∀ i, sid x3' = some i → h0.next ≤ i) ∧ All2 (ItIn (OwnW (fun i => h0.next ≤ i)) h') (es ++ [new]) (ds ++ [T]) := by
  obtain ⟨p22, p33, p34, p35, pe, rfl, s22, s33, s34, s35, ap⟩ := it
  have nx := x.next
  have elem : ∀ {g : H}, Ext h0 g → ∃ id off, A.idxS 38 x0 (.int .i64 (i : Int)) = some (.pointer (some ⟨id, off, none⟩)) ∧ A.load true 38 (.pointer (some ⟨id, off, none⟩)) g = some (.agg ⟨T.cells p22 p33 p34 p35⟩) ∧
      A.load false 1 (.pointer (some ⟨id, off + 33, none⟩)) g = some p33 ∧ A.load false 1 (.pointer (some ⟨id, off + 34, none⟩)) g = some p34 := fun {g} xg => by
    obtain ⟨id, off, cells, own, e1, _, e3, e4, e5, e6⟩ := (s0.ext xg).at hi .i64
    exact ⟨id, off, e1, load_of e3 e4 e5, by rw [load1_eq, e3]; exact e6 33 (by omega), by rw [load1_eq, e3]; exact e6 34 (by omega)⟩
  obtain ⟨id, off, ix, ld0, _, _⟩ := elem x
  have same_id : ∀ {id' off' : Nat}, A.idxS 38 x0 (.int .i64 (i : Int)) = some (.pointer (some ⟨id', off', none⟩)) → id = id' ∧ off = off' := fun {id' off'} e => by
    rw [ix] at e
    injection e with e; injection e with e; injection e with e; injection e with a b _
    exact ⟨a, b⟩
  obtain ⟨g1, h2, eb, est, gt2, x2, n2⟩ := box_put (n := 38) (z := MailD7.Z71) (zl := MailD7.Z71L) (vs := T.cells p22 p33 p34 p35) (h := h) rfl rfl rfl
  obtain ⟨t, ht⟩ : ∃ t, t = h.next := ⟨_, rfl⟩
  rw [← ht] at eb est gt2
  have x02 := x.trans x2
  -- the packet
  obtain ⟨c5, h3, e37, pc5, x3e⟩ := T37D k (h := h2) (x := T.pk.cells p22) (p := T.pk) ⟨p22, rfl, s22.ext x02⟩ sm.1
  obtain ⟨v22, rfl, o22⟩ := pc5
  have nx3 := x3e.next
  have gt3 : h3.get t = some (.cells (T.cells p22 p33 p34 p35) (some 0)) := by rw [x3e.get t (by omega)]; exact gt2
  have st5 := stT5 (v := v22) gt3
  obtain ⟨h4, hh4⟩ : ∃ h4, h4 = h3.put t (.cells (T.cells v22 p33 p34 p35) (some 0)) := ⟨_, rfl⟩
  rw [← hh4] at st5
  have gt4 : h4.get t = some (.cells (T.cells v22 p33 p34 p35) (some 0)) := by rw [hh4]; exact get_put_same _ _ _
  have n4 : h4.next = h3.next := by rw [hh4]; rfl
  have m34 : Mv h0.next [0] h3 h4 := hh4 ▸ Mv.put (by omega) gt3 (by simp) _
  -- the messages
  have st33a := stT33 (v := .slice none 0 0) gt4 rfl
  obtain ⟨h5, hh5⟩ : ∃ h5, h5 = h4.put t (.cells (T.cells v22 (.slice none 0 0) p34 p35) (some 0)) := ⟨_, rfl⟩
  rw [← hh5] at st33a
  have gt5 : h5.get t = some (.cells (T.cells v22 (.slice none 0 0) p34 p35) (some 0)) := by rw [hh5]; exact get_put_same _ _ _
  have n5 : h5.next = h4.next := by rw [hh5]; rfl
  have m45 : Mv h0.next [0] h4 h5 := hh5 ▸ Mv.put (by omega) gt4 (by simp) _
  have mA : Mv h0.next [0] h h5 := ((Mv.ofExt (x2.trans x3e)).trans m34).trans m45
  have x05 := Mv.ext x mA (Nat.le_refl _)
  obtain ⟨id', off', ix', _, l33, _⟩ := elem x05
  obtain ⟨rfl, rfl⟩ := same_id ix'
  have sm2 := sm.2.1
  have sm3 := sm.2.2.1
  obtain ⟨v33, h6, ap33, o33, x6⟩ := app_nilD (bs := 40) (s33.ext x05) (by rw [List.length_map]; omega) (by rw [List.length_map]; omega)
  have nx6 := x6.next
  have gt6 : h6.get t = some (.cells (T.cells v22 (.slice none 0 0) p34 p35) (some 0)) := by rw [x6.get t (by omega)]; exact gt5
  have st33b := stT33 gt6 o33.slice.cells
  obtain ⟨h7, hh7⟩ : ∃ h7, h7 = h6.put t (.cells (T.cells v22 v33 p34 p35) (some 0)) := ⟨_, rfl⟩
  rw [← hh7] at st33b
  have gt7 : h7.get t = some (.cells (T.cells v22 v33 p34 p35) (some 0)) := by rw [hh7]; exact get_put_same _ _ _
  have n7 : h7.next = h6.next := by rw [hh7]; rfl
  have m67 : Mv h0.next [0] h6 h7 := hh7 ▸ Mv.put (by omega) gt6 (by simp) _
  -- the clients
  have st34a := stT34 (v := .slice none 0 0) gt7 rfl
  obtain ⟨h8, hh8⟩ : ∃ h8, h8 = h7.put t (.cells (T.cells v22 v33 (.slice none 0 0) p35) (some 0)) := ⟨_, rfl⟩
  rw [← hh8] at st34a
  have gt8 : h8.get t = some (.cells (T.cells v22 v33 (.slice none 0 0) p35) (some 0)) := by rw [hh8]; exact get_put_same _ _ _
  have n8 : h8.next = h7.next := by rw [hh8]; rfl
  have m78 : Mv h0.next [0] h7 h8 := hh8 ▸ Mv.put (by omega) gt7 (by simp) _
  have mB : Mv h0.next [0] h5 h8 := ((Mv.ofExt x6).trans m67).trans m78
  have x08 := Mv.ext x05 mB (Nat.le_refl _)
  obtain ⟨id', off', ix'', _, _, l34⟩ := elem x08
  obtain ⟨rfl, rfl⟩ := same_id ix''
  obtain ⟨v34, h9, ap34, o34, x9⟩ := app_nilD (bs := 16) (s34.ext x08) (by rw [List.length_map]; omega) (by rw [List.length_map]; omega)
  have nx9 := x9.next
  have gt9 : h9.get t = some (.cells (T.cells v22 v33 (.slice none 0 0) p35) (some 0)) := by rw [x9.get t (by omega)]; exact gt8
  have st34b := stT34 gt9 o34.slice.cells
  obtain ⟨hA, hhA⟩ : ∃ hA, hA = h9.put t (.cells (T.cells v22 v33 v34 p35) (some 0)) := ⟨_, rfl⟩
  rw [← hhA] at st34b
  have gtA : hA.get t = some (.cells (T.cells v22 v33 v34 p35) (some 0)) := by rw [hhA]; exact get_put_same _ _ _
  have nA : hA.next = h9.next := by rw [hhA]; rfl
  have m9A : Mv h0.next [0] h9 hA := hhA ▸ Mv.put (by omega) gt9 (by simp) _
  -- the packets
  have st35a := stT35 (v := .slice none 0 0) gtA rfl
  obtain ⟨hB, hhB⟩ : ∃ hB, hB = hA.put t (.cells (T.cells v22 v33 v34 (.slice none 0 0)) (some 0)) := ⟨_, rfl⟩
  rw [← hhB] at st35a
  have gtB : hB.get t = some (.cells (T.cells v22 v33 v34 (.slice none 0 0)) (some 0)) := by rw [hhB]; exact get_put_same _ _ _
  have nB : hB.next = hA.next := by rw [hhB]; rfl
  have mAB : Mv h0.next [0] hA hB := hhB ▸ Mv.put (by omega) gtA (by simp) _
  have mC : Mv h0.next [0] h8 hB := ((Mv.ofExt x9).trans m9A).trans mAB
  have x0B := Mv.ext x08 mC (Nat.le_refl _)
  have nxB := x0B.next
  have nlt : t < hB.next := by omega
  obtain ⟨hC, v35, pe', e35, mD, gtC, vvp, hbp, alp⟩ := pks16 k L (fun x3 x5 x4 x0 h => MailD7.p16arrlrborlbrrrrrrrr (callB Try.prog 0 [9] (k + 1)) L x3 x5 x4 x0 h kn) x0B s0 hi s35 ap sm (t := t) (by omega) nlt x3 T.pks.length 0 L hB v22 v33 v34 (.slice none 0 0) [] (by omega) (by have := sm.2.2.2.1; omega) (Ext.refl hB).but gtB (Vec.nil 24 hB) (fun i hi => by simp [sid] at hi) (by rw [List.take_zero]; exact All2.nil)
  have e35' : MailD7.p16arrlrborlbrrrrrrrlrbw (callB Try.prog 0 [9] (k + 1)) L (fun x3 x5 x4 x0 h => MailD7.p16arrlrborlbrrrrrrrr (callB Try.prog 0 [9] (k + 1)) L x3 x5 x4 x0 h kn) L (.int .i64 0) x3 (ptrV t) (.int .i64 (i : Int)) x0 hB = _ := e35
  have mD : Mv h0.next [0] hB hC := ⟨mD.next, fun j hj hs => mD.get j hj fun e => hs ⟨by omega, T.cells v22 v33 v34 (.slice none 0 0), 0, by rw [e]; exact gtB, by simp⟩⟩
  have x0C := Mv.ext x0B mD (Nat.le_refl _)
  have mAll : Mv h0.next [0] h hC := ((mA.trans mB).trans mC).trans mD
  -- out
  have ldC := ldT gtC
  obtain ⟨u, hD, x3', hE, ebs, eap, vv', hb', mE, nE⟩ := append_one (bs := 384) (zs := MailD7.Z71L) (vs := T.cells v22 v33 v34 v35) (Vec.mv vv mAll (by simp)) hb (by have := x0C.next; omega) rfl rfl (by omega) (by omega) (by omega)
  refine ⟨hE, x3', T.cells v22 v33 v34 v35, ?_, Mv.ext x0C mE (Nat.le_refl _), vv', hb', ?_⟩
  · simp only [MailD7.p16arrlrborlb, MailD7.p16arrlrborlbl, ix, bnd_some, ld0, eb, bnd2_some, est, MailD7.p16arrlrborlbr, MailD7.p16arrlrborlbrl, fieldAddr_eq, Nat.zero_add, ldT5 gt2, e37, st5, MailD7.p16arrlrborlbrr, MailD7.p16arrlrborlbrrl, st33a, MailD7.p16arrlrborlbrrr, MailD7.p16arrlrborlbrrrl, ldT33 gt5, l33, ap33, st33b,
      MailD7.p16arrlrborlbrrrr, MailD7.p16arrlrborlbrrrrl, st34a, MailD7.p16arrlrborlbrrrrr, MailD7.p16arrlrborlbrrrrrl, ldT34 gt8, l34, ap34, st34b, MailD7.p16arrlrborlbrrrrrr, MailD7.p16arrlrborlbrrrrrrl, st35a, MailD7.p16arrlrborlbrrrrrrr, MailD7.p16arrlrborlbrrrrrrrl, MailD7.p16arrlrborlbrrrrrrrll, MailD7.p16arrlrborlbrrrrrrrlr, MailD7.p16arrlrborlbrrrrrrrlrb]
    refine Eq.trans e35' ?_
    simp only [MailD7.p16arrlrborlbrrrrrrrr, ldC, bnd_some, ebs, bnd2_some, eap]
  · have m3 : Mv h0.next [0] h3 hC := (((m34.trans m45).trans mB).trans mC).trans mD
    have m6 : Mv h0.next [0] h6 hC := ((m67.trans m78).trans mC).trans mD
    have m9 : Mv h0.next [0] h9 hC := (m9A.trans mAB).trans mD
    have nx2 := x2.next
    refine ⟨by simp [al.1], fun q y z hy hz => ?_⟩
    by_cases hq : q < es.length
    · rw [List.getElem?_append_left hq] at hy
      rw [List.getElem?_append_left (by rw [← al.1]; exact hq)] at hz
      exact ((al.2 q y z hy hz).mv mAll (by simp) (by simp) (by simp) (by simp)).mv mE (by simp) (by simp) (by simp) (by simp)
    · have hq2 : q = es.length := by
        have := (List.getElem?_eq_some_iff.1 hy).1
        simp at this; omega
      subst hq2
      rw [List.getElem?_append_right (Nat.le_refl _)] at hy
      rw [al.1, List.getElem?_append_right (Nat.le_refl _)] at hz
      simp at hy hz
      subst hy; subst hz
      exact ⟨v22, v33, v34, v35, pe', rfl, ((o22.mono fun i hi => by omega).mv m3 (by simp)).mv mE (by simp), ((o33.mono fun i hi => by omega).mv m6 (by simp)).mv mE (by simp), ((o34.mono fun i hi => by omega).mv m9 (by simp)).mv mE (by simp), (OwnW.vec vvp (fun i hi => by have := hbp i hi; omega)).mv mE (by simp), alp.mono fun _ _ i => (i.own fun i hi => by omega).mv mE (by simp)⟩

/-- All items. -/
theorem items16 (k L : Nat) (hL : 100 ≤ L) {β : Type} (kx : Value → H → Option β) {h0 : H} {x0 : Value} {els : List (List Value)} {c : List ItD} (s0 : SliceE 38 h0 x0 els) (ac : All2 (ItIn SliceE h0) els c) (sm : SmallC c) :
    ∀ (d i m : Nat) (h : H) (x3 : Value) (es : List (List Value)), i + d = c.length → d < m → Ext h0 h → Vec 38 h x3 es → (∀ i, sid x3 = some i → h0.next ≤ i) → All2 (ItIn (OwnW (fun i => h0.next ≤ i)) h) es (c.take i) →
      ∃ h' x3' es', MailD7.p16arrlrbw (callB Try.prog 0 [9] (k + 1)) L kx m (.int .i64 (i : Int)) x0 x3 h = kx x3' h' ∧ Ext h0 h' ∧ Vec 38 h' x3' es' ∧ (∀ i, sid x3' = some i → h0.next ≤ i) ∧ All2 (ItIn (OwnW (fun i => h0.next ≤ i)) h') es' c := by
  have hlen : A.lenS x0 = some (.int .i64 (c.length : Int)) := by have := s0.len.1; rwa [ac.1] at this
  have h20 := sm.1
  intro d
  induction d with
  | zero =>
    intro i m h x3 es hi hm x vv hb al
    obtain ⟨m, rfl⟩ : ∃ q, m = q + 1 := ⟨m - 1, by omega⟩
    have hd : decide ((i : Int) < (c.length : Int)) = false := by rw [decide_eq_false_iff_not]; omega
    refine ⟨h, x3, es, ?_, x, vv, hb, by rw [List.take_of_length_le (by omega)] at al; exact al⟩
    simp only [MailD7.p16arrlrbw, MailD7.p16arrlrbo, MailD7.p16arrlrbol, hlen, bnd_some, bin_lss, hd, toBK_bool, cond_false]
  | succ d ih =>
    intro i m h x3 es hi hm x vv hb al
    obtain ⟨m, rfl⟩ : ∃ q, m = q + 1 := ⟨m - 1, by omega⟩
    have hd : decide ((i : Int) < (c.length : Int)) = true := by rw [decide_eq_true_iff]; omega
    have hwr : IntKind.i64.wrap ((i : Int) + 1) = ((i + 1 : Nat) : Int) := wrap_succ (by omega)
    obtain ⟨T, hT⟩ : ∃ T, c[i]? = some T := ⟨_, List.getElem?_eq_getElem (by omega)⟩
    obtain ⟨cs, hcs, it⟩ := ac.at2 hT
    have el : es.length = i := by have := al.1; rw [List.length_take] at this; omega
    obtain ⟨h1, x3', new, e1, x1, vv1, hb1, al1⟩ := round16 k L hL (fun x4 x0 x3 h => MailD7.p16arrlrborr (callB Try.prog 0 [9] (k + 1)) L x4 x0 x3 h (fun x4 x0 x3 h => MailD7.p16arrlrbw (callB Try.prog 0 [9] (k + 1)) L kx m x4 x0 x3 h)) x s0 hcs it (sm.2 T (List.mem_of_getElem? hT)) vv hb al (by omega)
    obtain ⟨h', x3'', es', e2, r⟩ := ih (i + 1) m h1 x3' (es ++ [new]) (by omega) (by omega) x1 vv1 hb1 (by
      have : c.take (i + 1) = c.take i ++ [T] := by rw [List.take_add_one, hT]; rfl
      rw [this]; exact al1)
    refine ⟨h', x3'', es', ?_, r⟩
    simp only [MailD7.p16arrlrbw, MailD7.p16arrlrbo, MailD7.p16arrlrbol, hlen, bnd_some, bin_lss, hd, toBK_bool, cond_true, MailD7.p16arrlrbor, MailD7.p16arrlrborl]
    refine Eq.trans e1 ?_
    simp only [MailD7.p16arrlrborr, bin_add, bnd_some, hwr]
    exact e2

/-- The document's Copy. -/
theorem S16 (k : Nat) {h : H} {v : Value} {c : List ItD} (ci : CmdIn SliceE h v c) (sm : SmallC c) : ∃ v' h', callB Try.prog 0 [9] (k + 202) 16 [v] h = some (v', h') ∧ CmdIn (OwnW (fun i => h.next ≤ i)) h' v' c ∧ Ext h h' := by
  obtain ⟨els, s, ac⟩ := ci
  rw [MailD7.F16eq [9] rfl]
  obtain ⟨h', v', es', e, x', vv, hb, al⟩ := items16 (k + 200) (k + 201) (by omega) (fun x3 h => MailD7.p16arrr (callB Try.prog 0 [9] (k + 201)) (k + 201) x3 h (fun x2 h => some (x2, h))) s ac sm c.length 0 (k + 201) h (.slice none 0 0) [] (by omega) (by have := sm.1; omega) (Ext.refl h) (Vec.nil 38 h) (fun i hi => by simp [sid] at hi) (by rw [List.take_zero]; exact All2.nil)
  have e' : MailD7.p16arrlrbw (callB Try.prog 0 [9] (k + 201)) (k + 201) (fun x3 h => MailD7.p16arrr (callB Try.prog 0 [9] (k + 201)) (k + 201) x3 h (fun x2 h => some (x2, h))) (k + 201) (.int .i64 0) v (.slice none 0 0) h = _ := e
  refine ⟨v', h', ?_, ⟨es', OwnW.vec vv hb, al⟩, x'⟩
  simp only [MailD7.F16, MailD7.p16a, MailD7.p16al, MailD7.p16ar, MailD7.p16arl, MailD7.p16arr, MailD7.p16arrl, MailD7.p16arrll, MailD7.p16arrlr, MailD7.p16arrlrb]
  refine Eq.trans e' ?_
  simp only [MailD7.p16arrr]
end Go.Proofs.Ytdjhkdogpbiglaa.MailD
