/-
  IdsRange: the law, awake taken as told.
-/
import Derived.Test.YtlhppeikbgolbaaDoorIdsR4
namespace Go.Proofs.YtlhppeikbgolbaaDoor.IdsD
open Go Go.AM Go.IdsN Go.Proofs.YtlhppeikbgolbaaDoor.IdsF6

theorem ExtBut.weak {S T : Nat → Prop} {h h' : H} (x : ExtBut S h h') (hs : ∀ i, S i → T i) : ExtBut T h h' := ⟨x.next, fun i hi hn => x.get i hi (fun e => hn (hs i e))⟩

/-- What is behind All: how many there were, whether an id was there, what is taken and freed behind it. -/
theorem mid6 {M : Nat} (hM : 1100 ≤ M) {β : Type} (kn : Value → Value → Value → Value → Value → Value → H → Option β) {h3 : H} {p b b5 idv : Nat} {x4 x6 : Value} {t : Nat} {S : List Nat} (r : PoolS h3 p b S) (hS : S.length ≤ 400) (g5 : h3.get b5 = some (.cells [.int .u16 (idv : Int)] (some 0))) (l5 : b5 < h3.next)
    (_n5 : ¬ Two p b b5) (hid : idv < 65536) :
    ∃ h8 x11, p6arrrrrrl (callB Tryd.prog 1 [] M) M (ptrV p) x4 (ptrV b5) x6 (fnv t) h3 (fun x7 x4 x5 x6 x10 x9 h => p6arrrrrrrl (callB Tryd.prog 1 [] M) M x7 x4 x5 x6 x10 x9 h (fun x11 x7 x4 x5 x6 x10 x9 h => p6arrrrrrrrl (callB Tryd.prog 1 [] M) M x11 x7 x4 x5 x6 x10 x9 h
        (fun x7 x4 x5 x6 x10 x11 x9 h => p6arrrrrrrrrl (callB Tryd.prog 1 [] M) M x7 x4 x5 x6 x10 x11 x9 h (fun x7 x4 x5 x6 x10 x11 x9 h => p6arrrrrrrrrrl (callB Tryd.prog 1 [] M) M x7 x4 x5 x6 x10 x11 x9 h (fun x7 x4 x5 x6 x10 x11 x9 h =>
          p6arrrrrrrrrrrl (callB Tryd.prog 1 [] M) M x7 x4 x5 x6 x10 x11 x9 h kn))))) = kn x4 (ptrV b5) x6 (.int .i64 (S.length : Int)) x11 (fnv t) h8 ∧ ExtBut (Two p b) h3 h8 ∧
      SliceE 1 h8 x11 [[.bool (decide (idv ∈ S))]] ∧ (∀ i, sid x11 = some i → h3.next ≤ i) := by
  have e11 : callB Tryd.prog 1 [] M 11 [ptrV p] h3 = some (.int .i64 (S.length : Int), h3) := by
    obtain ⟨k, rfl⟩ : ∃ k, M = k + 2 := ⟨M - 2, by omega⟩
    exact T11 k r
  have l5' : A.load false 1 (ptrV b5) h3 = some (.int .u16 (idv : Int)) := by rw [load1_eq, g5]; rfl
  have e13 := W13 hM r hid
  obtain ⟨c0, hc0⟩ : ∃ c0, c0 = decide (idv ∈ S) := ⟨_, rfl⟩
  rw [← hc0] at e13
  have hb1 := buildSlice_one (n := 1) (zs := IdsF6.Z4L) h3 rfl (cellsL_bool c0) rfl
  have sx := slice_one (h := h3) (n := 1) (vs := [.bool c0]) rfl
  obtain ⟨h4, hh4⟩ : ∃ h4, h4 = h3.push (.cells [.bool c0] (some 1)) := ⟨_, rfl⟩
  rw [← hh4] at hb1 sx
  have x4' : Ext h3 h4 := hh4 ▸ Ext.push h3 _
  have n4 : h4.next = h3.next + 1 := by rw [hh4]; rfl
  obtain ⟨h5, ea, v5, n5', y5⟩ := append_vec (bs := 1) (Vec.nil 1 h4) sx (by simp) (by omega) (by simp) (by simp)
  have x5' : Ext h4 h5 := ⟨y5.next, fun i hi => y5.get i hi (by simp [sid])⟩
  generalize hv' : Value.slice (some ⟨h4.next, 0, none⟩) (([] : List (List Value)).length + [[Value.bool c0]].length) (2 * (([] : List (List Value)).length + [[Value.bool c0]].length)) = x11 at ea v5
  have hsv : sid x11 = some h4.next := by rw [← hv']; rfl
  have r5 := r.ext (x4'.trans x5')
  have g55 : h5.get b5 = some (.cells [.int .u16 (idv : Int)] (some 0)) := by rw [(x4'.trans x5').get _ l5]; exact g5
  have l55 : A.load false 1 (ptrV b5) h5 = some (.int .u16 (idv : Int)) := by rw [load1_eq, g55]; rfl
  obtain ⟨bb, h6, S6, e12, r6, y6, n6, q6⟩ := W12 hM r5 hid
  obtain ⟨v7, h7, S7, e10, r7, y7, n7, q7⟩ := W10 hM r6 (by omega)
  obtain ⟨v8, h8, S8, e10b, r8, y8, n8, q8⟩ := W10 hM r7 (by omega)
  have y58 := (y6.trans y7).trans y8
  obtain ⟨_, _, rp⟩ := r.pool
  have lp := rp.lp
  have lb := rp.lb
  rw [List.nil_append] at v5
  rw [← hc0]
  refine ⟨h8, x11, ?_, ((x4'.trans x5').but).trans y58, (v5.extBut y58 (fun i hi (e : Two p b i) => ?_)).slice, fun i hi => ?_⟩
  · simp only [p6arrrrrrl, e11, bnd2_some, p6arrrrrrrl, p6arrrrrrrrl, l5', bnd_some, e13, toBK_bool, hb1, ea, p6arrrrrrrrrl, l55, e12, p6arrrrrrrrrrl, e10, p6arrrrrrrrrrrl, e10b]
  · rw [hsv] at hi
    have := Option.some.inj hi
    rcases e with e | e <;> omega
  · rw [hsv] at hi
    have := Option.some.inj hi
    omega

/-- The law, awake taken as told. -/
theorem law6 {M : Nat} (hM : 1100 ≤ M) {h0 : H} {x0 : Value} {l : List Nat} {first idv : Nat} (hf : first < 256) (hid : idv < 65536) (s : InL h0 x0 l) (ht : TabAt h0) (hz : 0 < h0.next)
    (awake : ∀ h, TabAt h → 0 < h.next → ∃ h', callB Tryd.prog 1 [] M 15 [] h = some (.bool true, h') ∧ Ext h h') :
    ∃ h', callB Tryd.prog 1 [] (M + 1) 6 [x0, .int .u8 (first : Int), .int .u16 (idv : Int)] h0 = some (.bool true, h') := by
  have hlen : A.lenS x0 = some (.int .i64 (l.length : Int)) := by
    have := s.1.len.1
    rw [List.length_map] at this
    exact this
  rw [F6eq [] rfl]
  obtain ⟨a1, ha1⟩ : ∃ a1, a1 = h0.push (.cells [.int .u8 (first : Int)] (some 0)) := ⟨_, rfl⟩
  obtain ⟨a2, ha2⟩ : ∃ a2, a2 = a1.push (.cells [.int .u16 (idv : Int)] (some 0)) := ⟨_, rfl⟩
  obtain ⟨a3, ha3⟩ : ∃ a3, a3 = a2.push (.cells [.bool false] (some 0)) := ⟨_, rfl⟩
  have eb1 : A.box 1 (.int .u8 (first : Int)) h0 = some (ptrV h0.next, a1) := by rw [ha1]; rfl
  have eb2 : A.box 1 (.int .u16 (idv : Int)) a1 = some (ptrV a1.next, a2) := by rw [ha2]; rfl
  have eb3 : A.box 1 IdsF6.Z4 a2 = some (ptrV a2.next, a3) := by rw [ha3]; rfl
  have m1 : a1.next = h0.next + 1 := by rw [ha1]; rfl
  have m2 : a2.next = a1.next + 1 := by rw [ha2]; rfl
  have m3 : a3.next = a2.next + 1 := by rw [ha3]; rfl
  have xa1 : Ext h0 a1 := ha1 ▸ Ext.push h0 _
  have xa2 : Ext a1 a2 := ha2 ▸ Ext.push a1 _
  have xa3 : Ext a2 a3 := ha3 ▸ Ext.push a2 _
  have xa := (xa1.trans xa2).trans xa3
  have g4 : a3.get h0.next = some (.cells [.int .u8 (first : Int)] (some 0)) := by rw [xa3.get _ (by omega), xa2.get _ (by omega), ha1, H.get_push, if_pos rfl]
  have g5 : a3.get a1.next = some (.cells [.int .u16 (idv : Int)] (some 0)) := by rw [xa3.get _ (by omega), ha2, H.get_push, if_pos rfl]
  have g6 : a3.get a2.next = some (.cells [.bool false] (some 0)) := by rw [ha3, H.get_push, if_pos rfl]
  have hta : TabAt a3 := by unfold TabAt; rw [xa.get 0 hz]; exact ht
  have sa : InL a3 x0 l := ⟨s.1.ext xa, s.2⟩
  have fin : ∀ (h : H) (cs : List Value), h.get a2.next = some (.cells [.bool true] (some 0)) → bnd (resC (A.load false 1 (ptrV a2.next) h) (some [])) (fun vs => some (packA vs, h)) = some (.bool true, h) := fun h cs g => by
    have : A.load false 1 (ptrV a2.next) h = some (.bool true) := by rw [load1_eq, g]; rfl
    rw [this]; rfl
  by_cases h4 : 400 < l.length
  · obtain ⟨h', e, x'⟩ := awake a3 hta (by omega)
    have hd : decide ((400 : Int) < (l.length : Int)) = true := by rw [decide_eq_true_iff]; omega
    have es : A.store 1 (ptrV a2.next) (.bool true) h' = some (h'.put a2.next (.cells [.bool true] (some 0))) := by rw [store_eq, x'.get _ (by omega), g6]; rfl
    refine ⟨h'.put a2.next (.cells [.bool true] (some 0)), ?_⟩
    simp only [F6, p6a, p6al, eb1, bnd2_some, eb2, eb3, p6ar, p6arl, hlen, bnd_some, bin_gtr, hd, toBK_bool, cond_true, e, es]
    exact fin _ [] (by rw [H.get_put, if_pos rfl])
  have hd : decide ((400 : Int) < (l.length : Int)) = false := by rw [decide_eq_false_iff_not]; omega
  obtain ⟨kM, hkM⟩ : ∃ kM, M = kM + 2 := ⟨M - 2, by omega⟩
  have e8' : ∃ h', callB Tryd.prog 1 [] M 8 [] a3 = some (ptrV (a3.next + 1), h') ∧ PoolS h' (a3.next + 1) a3.next [] ∧ Ext a3 h' ∧ h'.next = a3.next + 2 := by rw [hkM]; exact T8 (kM + 1) hta (by omega)
  obtain ⟨h1, e8, r1, x1, n1⟩ := e8'
  obtain ⟨p, hp⟩ : ∃ p, p = a3.next + 1 := ⟨_, rfl⟩
  obtain ⟨b, hb⟩ : ∃ b, b = a3.next := ⟨_, rfl⟩
  rw [← hp] at e8 r1
  rw [← hb] at r1
  obtain ⟨h2, S, e2, r2, x2, hS⟩ := one6 (L := M) hM (fun x7 x4 x5 x6 h => p6arrrr (callB Tryd.prog 1 [] M) M x7 x4 x5 x6 h (fun x6 h => bnd (resC (A.load false 1 x6 h) (some [])) fun vs => some (packA vs, h))) (x4 := ptrV h0.next) (x5 := ptrV a1.next) (x6 := ptrV a2.next) sa (by omega) (p := p) (b := b) (by omega) (by omega)
    l.length 0 M h1 [] (by omega) (by omega) r1 x1 (by simp)
  have e2' : p6arrrlrbw (callB Tryd.prog 1 [] M) M (fun x7 x4 x5 x6 h => p6arrrr (callB Tryd.prog 1 [] M) M x7 x4 x5 x6 h (fun x6 h => bnd (resC (A.load false 1 x6 h) (some [])) fun vs => some (packA vs, h))) M (.int .i64 0) x0 (ptrV p) (ptrV h0.next) (ptrV a1.next) (ptrV a2.next) h1 = _ := e2
  obtain ⟨low, W, rp⟩ := r2.pool
  have lp := rp.lp
  have lb := rp.lb
  have e21' : ∃ h' t wb c, callB Tryd.prog 1 [] M 21 [ptrV p] h2 = some (fnv t, h') ∧ h'.get t = some (.cells [.slice (some ⟨wb, 0, none⟩) 1024 c] (some 0)) ∧
      h'.get wb = some (.cells (W.map fun (w : Nat) => Value.int .u64 (w : Int)) (some 1)) ∧ t < h'.next ∧ wb < h'.next ∧ h2.next ≤ t ∧ h2.next ≤ wb ∧ Ext h2 h' := by rw [hkM]; exact S21 kM rp
  obtain ⟨h3, t, wb, c, e21, gt3, gw3, lt3, lw3, kt, kw, x3⟩ := e21'
  have nx2 := x2.next
  have nx3 := x3.next
  have r3 := r2.ext x3
  have en : A.bin Tryd.prog .eql 47 (fnv t) .nilFunc = some (.bool false) := by unfold fnv; kernel_rfl
  have g53 : h3.get a1.next = some (.cells [.int .u16 (idv : Int)] (some 0)) := by rw [x3.get _ (by omega), x2.get _ (by omega)]; exact g5
  obtain ⟨kr, hkr⟩ : ∃ kr : Value → H → Option (Value × H), kr = fun x6 h => bnd (resC (A.load false 1 x6 h) (some [])) fun vs => some (packA vs, h) := ⟨_, rfl⟩
  obtain ⟨h8, x11, e3, y8, s11, i11⟩ := mid6 hM (t := t) (x4 := ptrV h0.next) (x6 := ptrV a2.next) (fun x4 x5 x6 x10 x11 x9 h => p6arrrrrrrrrrrr (callB Tryd.prog 1 [] M) M x4 x5 x6 x10 x11 x9 h kr) r3 (by omega) g53 (by omega) (fun e => by rcases e with e | e <;> omega) hid
  have nx8 := y8.next
  -- the counter
  obtain ⟨h9, hh9⟩ : ∃ h9, h9 = h8.push (.cells [.int .i64 0] (some 0)) := ⟨_, rfl⟩
  have eb12 : A.box 1 IdsF6.Z3 h8 = some (ptrV h8.next, h9) := by rw [hh9]; rfl
  have g12 : h9.get h8.next = some (.cells [.int .i64 0] (some 0)) := by rw [hh9, H.get_push, if_pos rfl]
  have n9 : h9.next = h8.next + 1 := by rw [hh9]; rfl
  have x9 : Ext h8 h9 := hh9 ▸ Ext.push h8 _
  obtain ⟨h10, hh10⟩ : ∃ h10, h10 = h9.put h8.next (.cells [.int .i64 0] (some 0)) := ⟨_, rfl⟩
  have es12 : A.store 1 (ptrV h8.next) (.int .i64 0) h9 = some h10 := by rw [store_eq, g12, hh10]; rfl
  have n10 : h10.next = h9.next := by rw [hh10]; rfl
  have x10 : Ext h8 h10 := hh10 ▸ x9.put _ _ (Nat.le_refl _)
  have g12' : h10.get h8.next = some (.cells [.int .i64 0] (some 0)) := by rw [hh10, H.get_put, if_pos rfl]
  have keep : ∀ n, n < h3.next → ¬ Two p b n → h10.get n = h3.get n := fun n hn ht => by rw [x10.get n (by omega), y8.get n hn ht]
  have keepA : ∀ n, n < a3.next → h10.get n = a3.get n := fun n hn => by rw [keep n (by omega) (fun e => by rcases e with e | e <;> omega), x3.get n (by omega), x2.get n hn]
  have htab10 : TabAt h10 := by unfold TabAt; rw [keepA 0 (by omega)]; exact hta
  have nt : ¬ Two p b t := fun e => by rcases e with e | e <;> omega
  have nwb : ¬ Two p b wb := fun e => by rcases e with e | e <;> omega
  obtain ⟨h13, R1, q1, eA, gA, uA, hq1, yA⟩ := goA hM (fun x9 x12 x11 x10 x6 x5 h => p6arrrrrrrrrrrrrr (callB Tryd.prog 1 [] M) M x9 x12 x11 x10 x6 x5 h kr) kr (b12 := h8.next) (b4 := h0.next) (wb := wb) (t := t) (c := c) (first := first)
    (x5 := ptrV a1.next) (x6 := ptrV a2.next) (x10 := .int .i64 (S.length : Int)) (x11 := x11) rp.len rp.lt (tk := fun i => decide (i = 0) || S.contains i) rp.bits (by omega) (by omega) (by omega) (by omega) (by omega) (by omega) (by omega) (by omega) g12' (by rw [keepA _ (by omega)]; exact g4) (by rw [keep wb lw3 nwb]; exact gw3) (by rw [keep t lt3 nt]; exact gt3) htab10 hf
  have nxA := yA.next
  -- what is gathered
  obtain ⟨h14, hh14⟩ : ∃ h14, h14 = h13.push (.cells [.slice none 0 0] (some 0)) := ⟨_, rfl⟩
  have eb14 : A.box 1 IdsF6.Z30 h13 = some (ptrV h13.next, h14) := by rw [hh14]; rfl
  have n14 : h14.next = h13.next + 1 := by rw [hh14]; rfl
  have x14 : Ext h13 h14 := hh14 ▸ Ext.push h13 _
  obtain ⟨h15, hh15⟩ : ∃ h15, h15 = h14.push (.cells [.bool false] (some 0)) := ⟨_, rfl⟩
  have eb15 : A.box 1 IdsF6.Z4 h14 = some (ptrV h14.next, h15) := by rw [hh15]; rfl
  have n15 : h15.next = h14.next + 1 := by rw [hh15]; rfl
  have x15 : Ext h14 h15 := hh15 ▸ Ext.push h14 _
  have g15 : h15.get h14.next = some (.cells [.bool false] (some 0)) := by rw [hh15, H.get_push, if_pos rfl]
  obtain ⟨h16, hh16⟩ : ∃ h16, h16 = h15.put h14.next (.cells [.bool false] (some 0)) := ⟨_, rfl⟩
  have es15 : A.store 1 (ptrV h14.next) (.bool false) h15 = some h16 := by rw [store_eq, g15, hh16]; rfl
  have n16 : h16.next = h15.next := by rw [hh16]; rfl
  have x16 : Ext h13 h16 := hh16 ▸ (x14.trans x15).put _ _ (by omega)
  have g14' : h16.get h13.next = some (.cells [.slice none 0 0] (some 0)) := by rw [hh16, H.get_put, if_neg (by omega), x15.get _ (by omega), hh14, H.get_push, if_pos rfl]
  have g15' : h16.get h14.next = some (.cells [.bool false] (some 0)) := by rw [hh16, H.get_put, if_pos rfl]
  have keep2 : ∀ n, n < h10.next → n ≠ h8.next → h16.get n = h10.get n := fun n hn hne => by rw [x16.get n (by omega), yA.get n hn hne]
  have htab16 : TabAt h16 := by unfold TabAt; rw [keep2 0 (by omega) (by omega)]; exact htab10
  obtain ⟨h18, R2, v, eB, gB14, vB, gB15, uB, yB⟩ := goB hM (fun x10 x15 x11 x12 x14 x6 h => p6arrrrrrrrrrrrrrrrr (callB Tryd.prog 1 [] M) M x10 x15 x11 x12 x14 x6 h kr) kr (b14 := h13.next) (b15 := h14.next) (b5 := a1.next) (wb := wb) (t := t) (c := c) (idv := idv)
    (x6 := ptrV a2.next) (x10 := .int .i64 (S.length : Int)) (x11 := x11) (x12 := ptrV h8.next) rp.len rp.lt (tk := fun i => decide (i = 0) || S.contains i) rp.bits (by omega) (by omega) (by omega) (by omega) (by omega) (by omega) (by omega) (by omega) (by omega) (by omega) (by omega) (by omega) (by omega) g14' g15'
    (by rw [keep2 _ (by omega) (by omega), keepA _ (by omega)]; exact g5) (by rw [keep2 wb (by omega) (by omega), keep wb lw3 nwb]; exact gw3) (by rw [keep2 t (by omega) (by omega), keep t lt3 nt]; exact gt3) htab16
  have nxB := yB.next
  have keep3 : ∀ n, n < h13.next → h18.get n = h13.get n := fun n hn => by rw [yB.get n (by omega) (by rintro (e | e) <;> omega), x16.get n hn]
  -- at the end
  have hrow := uB.row r3.rg
  have hlenR : R2.length = S.length := ((List.perm_ext_iff_of_nodup (uB.1.imp (fun h => Nat.ne_of_lt h)) r3.nd).2 hrow).length_eq
  have hlv := vB.slice.len.1
  rw [cu_len, hlenR] at hlv
  have hl14 : A.load false 1 (ptrV h13.next) h18 = some v := by rw [load1_eq, gB14]; rfl
  have hl15 : A.load false 1 (ptrV h14.next) h18 = some (.bool (decide (idv ∈ S))) := by
    rw [load1_eq, gB15]
    have : decide (idv ∈ R2) = decide (idv ∈ S) := by rw [Bool.eq_iff_iff, decide_eq_true_iff, decide_eq_true_iff]; exact hrow idv
    rw [this]; rfl
  have hl12 : A.load false 1 (ptrV h8.next) h18 = some (.int .i64 (R1.length : Int)) := by rw [load1_eq, keep3 _ (by omega), gA]; rfl
  have hle : decide ((R1.length : Int) ≤ (S.length : Int)) = true := by
    have := uA.part uB hq1
    rw [decide_eq_true_iff]; omega
  obtain ⟨t11, off, cells, own, c1, c2, c3, _, _, c6⟩ := s11.at (i := 0) rfl .i64
  have c1' : A.idxS 1 x11 (.int .i64 0) = some (.pointer (some ⟨t11, off, none⟩)) := c1
  have hld11 : A.load false 1 (.pointer (some ⟨t11, off, none⟩)) h18 = some (.bool (decide (idv ∈ S))) := by
    rw [load1_eq, keep3 _ (by omega), yA.get _ (by omega) (by omega), x10.get _ c2, c3]
    have := c6 0 (by omega)
    simpa using this
  have hu4 := Tryd.underlying4
  have hbe := bin_bool_eql (P := Tryd.prog) (t := 4) hu4 (decide (idv ∈ S)) (decide (idv ∈ S))
  have htab18 : TabAt h18 := by unfold TabAt; rw [keep3 0 (by omega), ← x16.get 0 (by omega)]; exact htab16
  obtain ⟨h19, e15, x19⟩ := awake h18 htab18 (by omega)
  have g6' : h19.get a2.next = some (.cells [.bool false] (some 0)) := by
    rw [x19.get _ (by omega), keep3 _ (by omega), yA.get _ (by omega) (by omega), keepA _ (by omega)]; exact g6
  have es6 : A.store 1 (ptrV a2.next) (.bool true) h19 = some (h19.put a2.next (.cells [.bool true] (some 0))) := by rw [store_eq, g6']; rfl
  refine ⟨h19.put a2.next (.cells [.bool true] (some 0)), ?_⟩
  simp only [F6, p6a, p6al, eb1, bnd2_some, eb2, eb3, p6ar, p6arl, hlen, bnd_some, bin_gtr, hd, toBK_bool, cond_false, p6arr, p6arrl, e8, p6arrr, p6arrrl, p6arrrll, p6arrrlr, p6arrrlrb]
  rw [e2']
  simp only [← hkr]
  simp only [p6arrrr, p6arrrrl, e21, bnd2_some, p6arrrrr, p6arrrrrl, en, bnd_some, toBK_bool, cond_false]
  refine Eq.trans e3 ?_
  simp only [p6arrrrrrrrrrrr, p6arrrrrrrrrrrrl, eb12, bnd2_some, es12, bnd_some, p6arrrrrrrrrrrrr, p6arrrrrrrrrrrrrl, p6arrrrrrrrrrrrrll]
  refine Eq.trans eA ?_
  simp only [p6arrrrrrrrrrrrrr, p6arrrrrrrrrrrrrrl, eb14, bnd2_some, p6arrrrrrrrrrrrrrr, p6arrrrrrrrrrrrrrrl, eb15, es15, bnd_some, p6arrrrrrrrrrrrrrrr, p6arrrrrrrrrrrrrrrrl, p6arrrrrrrrrrrrrrrrll]
  refine Eq.trans eB ?_
  simp only [p6arrrrrrrrrrrrrrrrr, p6arrrrrrrrrrrrrrrrrl, hl14, bnd_some, hlv, bin_eql, decide_true, toBK_bool, cond_true, hl15, c1', hld11, hbe, hl12, bin_leq, hle, e15, bnd2_some, es6, p6arrrrrrrrrrrrrrrrrr, hkr]
  exact fin _ [] (by rw [H.get_put, if_pos rfl])
end Go.Proofs.YtlhppeikbgolbaaDoor.IdsD
