/-
  An abstract machine for the model: building, slices, plain operations.
-/
import Derived.Test.YtkiagdpknegcbaaGreatDoorAdSound2
import Derived.Laws.PanicsMore
namespace Go.AM
open Go

variable (P : Program) {NG : Nat} {μ : Mu} {h : H} {w : World}

theorem mapM_size (w : World) : ∀ (fs : List Field), (fs.all fun f => (szP P f.type).isSome) = true →
    (fs.mapM (m := Sem) (fun f => do pure (f.offset, ← sizeOf f.type))).run P w = .ok (fs.map fun f => (f.offset, (szP P f.type).getD 0)) w
  | [], _ => rfl
  | f :: fs, hk => by
    simp only [List.all_cons, Bool.and_eq_true] at hk
    obtain ⟨n, hn⟩ := Option.isSome_iff_exists.1 hk.1
    simp only [List.mapM_cons, Sem.run_bind, run_sizeOf P hn, Result.andThen_ok, Sem.run_pure, mapM_size w fs hk.2, List.map_cons, hn, Option.getD_some]

theorem build_sound {ρ : Operand → Option Value} {ρc : Operand → Value} (hρ : ∀ x v, ρ x = some v → VR μ v (ρc x)) {t : TypeId} {z : List Value} {ps : Array (Nat × Operand)}
    {l : List (Nat × Nat × Value)} {v : Value} (hz : zeroP P t = some (.agg ⟨z⟩)) (hzp : plainCL z = true) (hl : partsP ρ (placeP P t) ps.toList = some l) (hk : fieldsKnown P t = true)
    (hv : A.build z l = some v) : ∃ cv, (Instr.build t (ps.map fun (i, x) => (i, ρc x))).run P w = .ok cv w ∧ VR μ v cv := by
  unfold A.build at hv
  obtain ⟨cs', hcs', rfl⟩ := Option.map_eq_some_iff.1 hv
  obtain ⟨hlen, hp⟩ := partsP_rel hρ (placeP P t) ps.toList l hl
  have hzr : LR μ z z := ⟨rfl, of_plainCL μ z hzp⟩
  have hzc : ∀ a ∈ z, cellish a = true := fun a ha => by
    obtain ⟨i, hi⟩ := List.mem_iff_getElem?.1 ha
    exact (plainCL_get z hzp i a hi).2
  unfold fieldsKnown at hk
  split at hk
  · rename_i fs hu
    obtain ⟨ds', h1, h2, h3⟩ := fill_sound (μ := μ) (fun i => ((fs.toList.map fun f => (f.offset, (szP P f.type).getD 0)).toArray[i]?)) l (ps.toList.map fun (i, x) => (i, ρc x)) z cs' z hcs' (by simp [hlen])
      (fun i off size v j cv hi hj => by
        obtain ⟨hpl, hrv⟩ := hp i off size v j cv hi hj
        refine ⟨?_, hrv⟩
        simp only [placeP, hu] at hpl
        split at hpl
        · rename_i f hf
          obtain ⟨n, hn, he⟩ := Option.map_eq_some_iff.1 hpl
          simp only [Prod.mk.injEq] at he
          obtain ⟨rfl, rfl⟩ := he
          have : fs.toList[j]? = some f := by simpa using hf
          simp [this, hn]
        · simp at hpl) hzr hzc
    refine ⟨.agg ⟨ds'⟩, ?_, h2.mk_agg h3⟩
    have hm := mapM_size P w fs.toList hk
    simp only [Instr.build, Sem.run_bind, run_zero P hz, Result.andThen_ok, run_underlying hu, Value.cells]
    have e1 : (fs.mapM (m := Sem) (fun f => do pure (f.offset, ← sizeOf f.type))).run P w = .ok (fs.toList.map fun f => (f.offset, (szP P f.type).getD 0)).toArray w := by
      rw [Array.mapM_eq_mapM_toList]
      simp only [Sem.run_map, hm, Result.andThen_ok]
    rw [e1]
    simp only [Result.andThen_ok, Array.toList_map, h1, Sem.run_pure]
  · rename_i n e hu
    obtain ⟨sz, hsz⟩ := Option.isSome_iff_exists.1 hk
    obtain ⟨ds', h1, h2, h3⟩ := fill_sound (μ := μ) (fun i => some (i * sz, sz)) l (ps.toList.map fun (i, x) => (i, ρc x)) z cs' z hcs' (by simp [hlen])
      (fun i off size v j cv hi hj => by
        obtain ⟨hpl, hrv⟩ := hp i off size v j cv hi hj
        refine ⟨?_, hrv⟩
        simp only [placeP, hu, hsz, Option.map_some] at hpl
        exact hpl) hzr hzc
    refine ⟨.agg ⟨ds'⟩, ?_, h2.mk_agg h3⟩
    simp only [Instr.build, Sem.run_bind, run_zero P hz, Result.andThen_ok, run_underlying hu, Value.cells, run_sizeOf P hsz, Array.toList_map, h1, Sem.run_pure]
  · simp at hk

theorem zeros_succ (z : List Value) : ∀ (k : Nat), A.zeros z (k + 1) = A.zeros z k ++ z
  | 0 => by simp [A.zeros]
  | k + 1 => by
    have ih := zeros_succ z k
    show z ++ A.zeros z (k + 1) = (z ++ A.zeros z k) ++ z
    rw [ih, List.append_assoc]

theorem zeros_eq (z : List Value) (hz : 0 < z.length) : ∀ (k : Nat), (List.range (k * z.length)).map (fun i => z.toArray[i % z.toArray.size]!) = A.zeros z k
  | 0 => by simp [A.zeros]
  | k + 1 => by
    rw [zeros_succ, ← zeros_eq z hz k, Nat.succ_mul, List.range_add, List.map_append]
    congr 1
    rw [List.map_map]
    apply List.ext_getElem?
    intro i
    simp only [List.getElem?_map]
    by_cases hi : i < z.length
    · rw [List.getElem?_range hi]
      have h1 : (k * z.length + i) % z.length = i := by rw [Nat.mul_comm, Nat.mul_add_mod]; exact Nat.mod_eq_of_lt hi
      simp [h1, hi]
    · rw [List.getElem?_eq_none (by simp; omega), List.getElem?_eq_none (by omega)]; rfl

theorem zeros_length (z : List Value) : ∀ k, (A.zeros z k).length = k * z.length
  | 0 => by simp [A.zeros]
  | k + 1 => by simp [A.zeros, zeros_length z k, Nat.succ_mul, Nat.add_comm]

theorem mem_zeros (z : List Value) : ∀ (k : Nat) (a : Value), a ∈ A.zeros z k → a ∈ z
  | 0, a, ha => by simp [A.zeros] at ha
  | k + 1, a, ha => by
    simp only [A.zeros, List.mem_append] at ha
    rcases ha with ha | ha
    · exact ha
    · exact mem_zeros z k a ha

theorem plainCL_mem {z : List Value} (hz : plainCL z = true) : ∀ a ∈ z, plain a = true ∧ cellish a = true := fun a ha => by
  obtain ⟨i, hi⟩ := List.mem_iff_getElem?.1 ha
  exact plainCL_get z hz i a hi

theorem LR.of_plain_mem (μ : Mu) {z : List Value} (hz : ∀ a ∈ z, plain a = true) : LR μ z z :=
  ⟨rfl, fun i a b ha hb => by rw [ha] at hb; simp at hb; subst hb; exact VR.of_plain μ a (hz a (List.mem_of_getElem? ha))⟩

theorem cellsL_cells {z : Value} {zs : List Value} (hz : cellsL z = some zs) : z.cells = ⟨zs⟩ := by
  cases z <;> simp_all [cellsL, Value.cells]
  subst hz; rfl

theorem buildSlice_sound {NG : Nat} (r : RH NG μ h w) (hfr : μ h.next = none) {ρ : Operand → Option Value} {ρc : Operand → Value} (hρ : ∀ x v, ρ x = some v → VR μ v (ρc x)) {t e : TypeId} {n len : Nat} {z : Value} {zs : List Value} {ps : Array (Nat × Operand)}
    {l : List (Nat × Nat × Value)} {v : Value} {h' : H} (hu : elemP P t = some e) (hn : szP P e = some n) (hz : zeroP P e = some z) (hzs : cellsL z = some zs) (hzp : plainCL zs = true) (hzl : zs.length = n) (hn0 : 0 < n) (hbig : len * n ≤ 2 ^ 24) (hK : n < KB)
    (hl : partsP ρ (fun i => some (i * n, n)) ps.toList = some l)
    (hv : A.buildSlice (enc e n) n len zs l h = some (v, h')) :
    ∃ cv w' μ', (Instr.buildSlice t len (ps.map fun (i, x) => (i, ρc x))).run P w = .ok cv w' ∧ Step NG μ h w μ' h' w' ∧ VR μ' v cv := by
  unfold A.buildSlice at hv
  obtain ⟨cs', hcs', he⟩ := Option.map_eq_some_iff.1 hv
  simp only [Prod.mk.injEq] at he
  obtain ⟨rfl, rfl⟩ := he
  obtain ⟨hlen, hp⟩ := partsP_rel hρ _ ps.toList l hl
  have hzm := plainCL_mem hzp
  have hzr : LR μ (A.zeros zs len) (A.zeros zs len) := LR.of_plain_mem μ (fun a ha => (hzm a (mem_zeros zs len a ha)).1)
  obtain ⟨ds', h1, h2, h3⟩ := fill_sound (μ := μ) (fun i => some (i * n, n)) l (ps.toList.map fun (i, x) => (i, ρc x)) _ cs' _ hcs' (by simp [hlen])
      (fun i off size v j cv hi hj => hp i off size v j cv hi hj) hzr (fun a ha => (hzm a (mem_zeros zs len a ha)).2)
  have hcl : cs'.length = len * n := by
    have : ∀ (l : List (Nat × Nat × Value)) (cs cs' : List Value), A.fillL cs l = some cs' → cs'.length = cs.length := by
      intro l
      induction l with
      | nil => intro cs cs' hh; simp only [A.fillL, Option.some.injEq] at hh; rw [hh]
      | cons x l ih =>
        intro cs cs' hh
        obtain ⟨off, size, v⟩ := x
        simp only [A.fillL] at hh
        split at hh
        · rename_i vs hvs
          obtain ⟨hc, hh⟩ := cond_some hh
          simp only [Bool.and_eq_true, beq_iff, ble_iff] at hc
          rw [ih _ _ hh, splice_length _ _ _ (by omega)]
        · simp at hh
    rw [this _ _ _ hcs', zeros_length, hzl]
  have hul : P.underlying t = some (.slice e) := by
    unfold elemP at hu
    split at hu
    · rename_i e' hu'; simp only [Option.some.injEq] at hu; subst hu; exact hu'
    · simp at hu
  refine ⟨.slice (some ⟨w.heap.size, 0, none⟩) len len, w.alloc (.cells ⟨ds'⟩ e), _, ?_, Step.new_cells (es := enc e n) (ds := ds') r hfr rfl rfl rfl rfl (by rw [h2.1]; omega) (by rw [h2.1]; simpa using h2) h3 ⟨(enc_div hK).symm, fun h0 => by rw [enc_mod hK] at h0; omega⟩, ?_⟩
  · have hcells := cellsL_cells hzs
    have e1 : Array.map (fun x => zs.toArray[x % zs.toArray.size]!) (Array.range (len * n)) = ⟨A.zeros zs len⟩ := by
      apply Array.ext'
      rw [← zeros_eq zs (by omega) len, hzl]
      simp [Array.toList_range]
    simp only [Instr.buildSlice, Sem.run_bind, run_underlying hul, Result.andThen_ok, run_sizeOf P hn]
    rw [if_neg (by omega)]
    by_cases h0 : len * n = 0
    · have hlen0 : len = 0 := by
        rcases Nat.mul_eq_zero.1 h0 with h | h
        · exact h
        · omega
      subst hlen0
      have e2 : A.zeros zs 0 = [] := rfl
      rw [e2] at h1
      simp only [Nat.zero_mul, if_true, Sem.run_bind, Sem.run_pure, Result.andThen_ok, Array.toList_map]
      rw [show Array.map (fun x => (#[] : Array Value)[x % (#[] : Array Value).size]!) (Array.range 0) = ⟨[]⟩ from by simp, h1]
      simp only [Sem.run_bind, newRow, run_newObj, Result.andThen_ok, Sem.run_pure]
      rfl
    · rw [if_neg h0]
      simp only [Sem.run_bind, run_zero P hz, Result.andThen_ok, Sem.run_pure, hcells, Array.toList_map]
      rw [e1, h1]
      simp only [Sem.run_bind, newRow, run_newObj, Result.andThen_ok, Sem.run_pure]
      rfl
  · refine .slice (l := ⟨w.heap.size, 0, enc e n, ds'.length⟩) (Mu.set_same _ _ _) ?_ (by omega) (fun _ => rfl)
    unfold CapOK
    rw [if_pos (by omega)]; omega

theorem makeSlice_sound {NG : Nat} (r : RH NG μ h w) (hfr : μ h.next = none) {t e : TypeId} {n bs : Nat} {z : Value} {zs : List Value}
    {vl vc cl cc v : Value} {h' : H} (hu : elemP P t = some e) (hn : szP P e = some n) (hb : bytesP P e = some bs) (hz : zeroP P e = some z) (hzs : cellsL z = some zs) (hzp : plainCL zs = true) (hzl : zs.length = n) (hn0 : 0 < n)
    (hK : n < KB) (hv : A.makeSlice (enc e n) n bs zs vl vc h = some (v, h')) (rl : VR μ vl cl) (rc : VR μ vc cc) :
    ∃ cv w' μ', (Instr.makeSlice t cl cc).run P w = .ok cv w' ∧ Step NG μ h w μ' h' w' ∧ VR μ' v cv := by
  unfold A.makeSlice at hv
  split at hv
  · rename_i k1 l k2 c
    obtain ⟨hc, hv⟩ := cond_some hv
    simp only [Option.some.injEq, Prod.mk.injEq] at hv
    obtain ⟨rfl, rfl⟩ := hv
    simp only [Bool.and_eq_true, ble_iff] at hc
    obtain ⟨⟨h1, h2⟩, h3⟩ := hc
    rw [rl.int_inv, rc.int_inv]
    have hul : P.underlying t = some (.slice e) := by
      unfold elemP at hu
      split at hu
      · rename_i e' hu'; simp only [Option.some.injEq] at hu; subst hu; exact hu'
      · simp at hu
    have hzm := plainCL_mem hzp
    have hwl : IntKind.i64.wrap (Int.ofNat l) = l := by simp only [IntKind.wrap, IntKind.bits, IntKind.signed, Int.ofNat_eq_natCast]; simp; omega
    have hwc : IntKind.i64.wrap (Int.ofNat c) = c := by simp only [IntKind.wrap, IntKind.bits, IntKind.signed, Int.ofNat_eq_natCast]; simp; omega
    have hbc : ¬ ((bs : Int) * (c : Int) > 2 ^ 48) := by
      have : bs * c ≤ 2 ^ 47 := h2
      have h4 : ((bs * c : Nat) : Int) ≤ ((2 ^ 47 : Nat) : Int) := Int.ofNat_le.2 this
      rw [Int.natCast_mul] at h4
      have : ((2 ^ 47 : Nat) : Int) < 2 ^ 48 := by decide
      omega
    refine ⟨.slice (some ⟨w.heap.size, 0, none⟩) l c, w.alloc (.cells ⟨A.zeros zs c⟩ e), _, ?_, Step.new_cells (es := enc e n) (ds := A.zeros zs c) r hfr rfl rfl rfl rfl (Nat.le_refl _) (by simpa using LR.of_plain_mem μ (fun a ha => (hzm a (mem_zeros zs c a ha)).1)) (fun a ha => (hzm a (mem_zeros zs c a ha)).2) ⟨(enc_div hK).symm, fun _ => rfl⟩, ?_⟩
    · have hcells := cellsL_cells hzs
      cases hq : P.info? e with
      | none => simp [szP, hq] at hn
      | some i =>
        have hib : i.bytes = bs := by simpa [bytesP, hq] using hb
        have hti : (typeInfo e).run P w = .ok i w := by simp [typeInfo, hq]
        simp only [Instr.makeSlice, Sem.run_bind, run_underlying hul, Result.andThen_ok, asInt, asIntOf, Sem.run_pure, hti, hwl, hwc]
        have c1 : (((c : Int) < 0 || (i.bytes : Int) * (c : Int) > 2 ^ 48) || (l : Int) < 0 || (l : Int) > (c : Int)) = false := by
          rw [hib]; simp; omega
        have e1 : Array.map (fun x => zs.toArray[x % zs.toArray.size]!) (Array.range (c * n)) = ⟨A.zeros zs c⟩ := by
          apply Array.ext'
          rw [← zeros_eq zs (by omega) c, hzl]
          simp [Array.toList_range]
        have ec : (c : Int).toNat = c := Int.toNat_natCast c
        have el : (l : Int).toNat = l := Int.toNat_natCast l
        simp only [c1, Bool.false_eq_true, if_false, ec, el, Sem.run_bind, run_askRoom, Result.andThen_ok, run_sizeOf P hn]
        by_cases h0 : c * n = 0
        · have hc0 : c = 0 := by
            rcases Nat.mul_eq_zero.1 h0 with h | h
            · exact h
            · omega
          subst hc0
          simp only [Nat.zero_mul, if_true, Sem.run_bind, Sem.run_pure, Result.andThen_ok]
          rw [show Array.map (fun x => (#[] : Array Value)[x % (#[] : Array Value).size]!) (Array.range 0) = ⟨[]⟩ from by simp]
          simp only [Sem.run_bind, newRow, run_newObj, Result.andThen_ok, Sem.run_pure]
          rfl
        · rw [if_neg h0]
          simp only [Sem.run_bind, run_zero P hz, Result.andThen_ok, Sem.run_pure, hcells, e1, newRow, run_newObj]
          rfl
    · refine .slice (l := ⟨w.heap.size, 0, enc e n, (A.zeros zs c).length⟩) (Mu.set_same _ _ _) ?_ (by omega) (fun _ => rfl)
      unfold CapOK
      rw [if_pos (by omega)]; omega
  · simp at hv


/-! Slice expressions. -/
def OR (μ : Mu) (v cv : Option Value) : Prop := match v, cv with | some a, some b => VR μ a b | none, none => True | _, _ => False

theorem bound_sound {y : Nat} {v : Option Value} {cv : Option Value} {r : Option Nat} (hb : A.bound y v = some r) (hr : OR μ v cv) :
    (∀ (code : BoundsCode) (w : World), match cv with
      | some c => ∃ i, r = some i ∧ i ≤ y ∧ (Instr.sliceBound c y code).run P w = .ok i w
      | none => r = none) := by
  intro code w
  cases v with
  | none =>
    cases cv with
    | none => simp only [A.bound, Option.some.injEq] at hb; exact hb.symm
    | some c => exact hr.elim
  | some a =>
    cases cv with
    | none => exact hr.elim
    | some c =>
      simp only [A.bound] at hb
      split at hb
      · rename_i hh; simp at hh
      · rename_i k i hh
        simp only [Option.some.injEq] at hh
        subst hh
        obtain ⟨hle, hb⟩ := cond_some hb
        simp only [Option.some.injEq] at hb
        have hle := ble_iff.1 hle
        have hc : c = .int k (Int.ofNat i) := VR.int_inv hr
        subst hc
        refine ⟨i, hb.symm, hle, ?_⟩
        have h1 : (0 : Int) ≤ Int.ofNat i ∧ Int.ofNat i ≤ (y : Int) := ⟨Int.natCast_nonneg i, Int.ofNat_le.2 hle⟩
        simp only [Instr.sliceBound, asIntOf, Sem.run_bind, Sem.run_pure, Result.andThen_ok, h1, and_self, if_true]
        rfl
      · simp at hb

theorem sliceBounds_sound {isSlice : Bool} {len cap cap' : Nat} {lo hi mx clo chi cmx : Option Value} {m h' l : Option Nat} (hm : A.bound cap mx = some m) (hh : A.bound (m.getD cap) hi = some h') (hl : A.bound (h'.getD len) lo = some l)
    (rl : OR μ lo clo) (rh : OR μ hi chi) (rm : OR μ mx cmx) (hcap : cap ≤ cap') (hmh : mx.isSome = true → hi.isSome = true) (w : World) :
    (Instr.sliceBounds isSlice len cap' clo chi cmx).run P w = .ok (l.getD 0, h'.getD len, m.getD cap') w := by
  have hM := bound_sound (μ := μ) P (v := mx) (cv := cmx) hm rm
  have hH := bound_sound (μ := μ) P (v := hi) (cv := chi) hh rh
  have hL := bound_sound (μ := μ) P (v := lo) (cv := clo) hl rl
  have weak : ∀ (c : Value) (y y' : Nat) (code : BoundsCode) (i : Nat), y ≤ y' → i ≤ y → (Instr.sliceBound c y code).run P w = .ok i w → (Instr.sliceBound c y' code).run P w = .ok i w := by
    intro c y y' code i hy hi hrun
    unfold Instr.sliceBound at hrun ⊢
    simp only [Sem.run_bind] at hrun ⊢
    cases hc : (asIntOf c).run P w with
    | halt x w1 => rw [hc] at hrun; simp at hrun
    | ok p w1 =>
      obtain ⟨k, n⟩ := p
      rw [hc] at hrun
      simp only [Result.andThen_ok] at hrun ⊢
      by_cases hn : 0 ≤ n ∧ n ≤ (y : Int)
      · rw [if_pos hn] at hrun; rw [if_pos ⟨hn.1, by omega⟩]; exact hrun
      · rw [if_neg hn] at hrun
        exfalso
        obtain ⟨s, w2, he⟩ := run_boundsPanic (α := Nat) (P := P) (w := w1) k n y code
        rw [he] at hrun
        simp at hrun
  cases mx with
  | none =>
    cases cmx with
    | some c => exact rm.elim
    | none =>
      have hm0 : m = none := hM .index w
      subst hm0
      cases hi with
      | none =>
        cases chi with
        | some c => exact rh.elim
        | none =>
          have hh0 : h' = none := hH .index w
          subst hh0
          cases lo with
          | none =>
            cases clo with
            | some c => exact rl.elim
            | none =>
              have hl0 : l = none := hL .index w
              subst hl0
              simp [Instr.sliceBounds]
          | some a =>
            cases clo with
            | none => exact rl.elim
            | some c =>
              obtain ⟨i, hi, _, hrun⟩ := hL .sliceB w
              subst hi
              simp only [Option.getD_none] at hrun
              simp [Instr.sliceBounds, hrun]
      | some a =>
        cases chi with
        | none => exact rh.elim
        | some c =>
          obtain ⟨j, hj, hjl, hrunj⟩ := hH (if isSlice then .sliceAcap else .sliceAlen) w
          subst hj
          simp only [Option.getD_none] at hrunj hjl
          have hrunj := weak _ _ _ _ _ hcap hjl hrunj
          cases lo with
          | none =>
            cases clo with
            | some c => exact rl.elim
            | none =>
              have hl0 : l = none := hL .index w
              subst hl0
              simp [Instr.sliceBounds, hrunj]
          | some a2 =>
            cases clo with
            | none => exact rl.elim
            | some c2 =>
              obtain ⟨i, hi, _, hrun⟩ := hL .sliceB w
              subst hi
              simp only [Option.getD_some] at hrun
              simp [Instr.sliceBounds, hrunj, hrun]
  | some am =>
    cases cmx with
    | none => exact rm.elim
    | some cm =>
      obtain ⟨mm, hmm, hmle, hrunm⟩ := hM (if isSlice then .slice3Acap else .slice3Alen) w
      subst hmm
      have hrunm := weak _ _ _ _ _ hcap hmle hrunm
      cases hi with
      | none => simp at hmh
      | some a =>
        cases chi with
        | none => exact rh.elim
        | some c =>
          obtain ⟨j, hj, hjl, hrunj⟩ := hH .slice3B w
          subst hj
          simp only [Option.getD_some] at hrunj hjl
          cases lo with
          | none =>
            cases clo with
            | some c => exact rl.elim
            | none =>
              have hl0 : l = none := hL .index w
              subst hl0
              simp [Instr.sliceBounds, hrunj, hrunm]
          | some a2 =>
            cases clo with
            | none => exact rl.elim
            | some c2 =>
              obtain ⟨i, hi, _, hrun⟩ := hL .slice3C w
              subst hi
              simp only [Option.getD_some] at hrun
              simp [Instr.sliceBounds, hrunj, hrun, hrunm]


theorem sliceS_sound {NG : Nat} (r : RH NG μ h w) {size : Nat} {x v cx : Value} {lo hi mx clo chi cmx : Option Value} (hv : A.sliceS size x lo hi mx h = some v) (rx : VR μ x cx)
    (rl : OR μ lo clo) (rh : OR μ hi chi) (rm : OR μ mx cmx) (isSlice : Bool) :
    ∃ (a' : Option Addr) (len cap lo' hi' m' : Nat), cx = .slice a' len cap ∧ (Instr.sliceBounds isSlice len cap clo chi cmx).run P w = .ok (lo', hi', m') w ∧
      VR μ v (.slice (if m' = lo' then a' else a'.map (·.add (lo' * size))) (hi' - lo') (m' - lo')) := by
  unfold A.sliceS at hv
  cases hmh : (mx.isSome && hi.isNone) with
  | true => rw [hmh] at hv; simp at hv
  | false =>
    rw [hmh] at hv
    simp only [cond_false] at hv
    have hmh' : mx.isSome = true → hi.isSome = true := by
      intro h1; cases hi with
      | none => simp [h1] at hmh
      | some _ => rfl
    split at hv
    · rename_i id off len c
      obtain ⟨l, a', c', hl, rfl, hcap, hle, ha⟩ := rx.slice_inv
      have hcc : c / 2 ≤ c' := by unfold CapOK at hcap; split at hcap <;> omega
      split at hv
      · simp at hv
      · rename_i m hm
        split at hv
        · simp at hv
        · rename_i q hq
          split at hv
          · simp at hv
          · rename_i p hp
            obtain ⟨hcond, hv⟩ := cond_some hv
            simp only [Option.some.injEq] at hv
            subst hv
            have hB := sliceBounds_sound (μ := μ) (isSlice := isSlice) (len := len) (cap := c / 2) (cap' := c') P hm hq hp rl rh rm hcc hmh' w
            refine ⟨some a', len, c', _, _, _, rfl, hB, ?_⟩
            -- the bounds
            have hbd : ∀ (y : Nat) (o : Option Value) (k : Option Nat) (d : Nat), A.bound y o = some k → d ≤ y → k.getD d ≤ y := by
              intro y o k d hb hd
              cases o with
              | none => simp only [A.bound, Option.some.injEq] at hb; subst hb; exact hd
              | some a =>
                simp only [A.bound] at hb
                split at hb
                · rename_i hh; simp at hh
                · obtain ⟨h1, h2⟩ := cond_some hb
                  simp only [Option.some.injEq] at h2; subst h2
                  exact ble_iff.1 h1
                · simp at hb
            have hm1 : m.getD (c / 2) ≤ c / 2 := hbd _ _ _ _ hm (Nat.le_refl _)
            have hq1 : q.getD len ≤ m.getD (c / 2) := by
              cases hi with
              | none =>
                simp only [A.bound, Option.some.injEq] at hq; subst hq
                cases mx with
                | none => simp only [A.bound, Option.some.injEq] at hm; subst hm; exact hle
                | some _ => simp at hmh
              | some a =>
                simp only [A.bound] at hq
                split at hq
                · rename_i hh; simp at hh
                · obtain ⟨h1, h2⟩ := cond_some hq
                  simp only [Option.some.injEq] at h2; subst h2
                  exact ble_iff.1 h1
                · simp at hq
            have hp1 : p.getD 0 ≤ q.getD len := hbd _ _ _ _ hp (Nat.zero_le _)
            have key : ∀ (cc m' : Nat), (m = none → m' = c' ∧ cc = c - 2 * p.getD 0) → (∀ k, m = some k → m' = k ∧ cc = 2 * (k - p.getD 0) + 1) →
                VR μ (.slice (some ⟨id, off + p.getD 0 * size, none⟩) (q.getD len - p.getD 0) cc) (.slice (if m' = p.getD 0 then some a' else (some a').map (·.add (p.getD 0 * size))) (q.getD len - p.getD 0) (m' - p.getD 0)) := by
              intro cc m' hn hs
              have hm2 : m.getD (c / 2) ≤ m' := by
                cases m with
                | none => have := hn rfl; simp; omega
                | some k => have := hs k rfl; simp; omega
              have hform : (if m' = p.getD 0 then some a' else (some a').map (·.add (p.getD 0 * size))) = some (if m' = p.getD 0 then a' else a'.add (p.getD 0 * size)) := by split <;> rfl
              rw [hform]
              refine .slice hl ?_ ?_ ?_
              · cases m with
                | some k =>
                  obtain ⟨e1, e2⟩ := hs k rfl
                  subst e1; subst e2
                  unfold CapOK; rw [if_pos (by omega)]; omega
                | none =>
                  obtain ⟨e1, e2⟩ := hn rfl
                  subst e1; subst e2
                  simp only [Option.getD_none] at hm1 hq1 hm2
                  unfold CapOK at hcap ⊢
                  by_cases hpar : c % 2 = 1
                  · rw [if_pos hpar] at hcap
                    rw [if_pos (by omega)]; omega
                  · rw [if_neg hpar] at hcap
                    rw [if_neg (by omega)]
                    refine ⟨by omega, ?_⟩
                    have hes : p.getD 0 = 0 ∨ l.es % KB = size := by
                      simp only [Bool.or_eq_true, beq_iff] at hcond
                      rcases hcond with ((h1 | h1) | h1) | h1
                      · omega
                      · simp at h1
                      · exact .inl h1
                      · right
                        unfold A.esOK at h1
                        split at h1
                        · rename_i cs es hg
                          obtain ⟨_, _, _, _, _, _, _, _, _, h7⟩ := r.cells hg hl
                          rw [(h7 _ rfl).1]; exact beq_iff.1 h1
                        · simp at h1
                    have hsub : (m' - p.getD 0) * (l.es % KB) + p.getD 0 * (l.es % KB) = m' * (l.es % KB) := by
                      rw [← Nat.add_mul, Nat.sub_add_cancel (by omega)]
                    rcases hes with h0 | h0
                    · rw [h0] at hsub ⊢; simp at hsub ⊢; omega
                    · rw [← h0]; omega
              · cases m with
                | some k => obtain ⟨e1, e2⟩ := hs k rfl; subst e2; simp at hq1; omega
                | none => obtain ⟨e1, e2⟩ := hn rfl; subst e2; simp at hq1; omega
              · intro hne
                have hmc : m' ≤ c' := by
                  cases m with
                  | none => have := hn rfl; omega
                  | some k => have := hs k rfl; simp at hm1; omega
                rw [if_neg (by omega), ha (by omega), add_plain, Nat.add_assoc]
            refine key _ _ (fun e => by subst e; exact ⟨rfl, rfl⟩) (fun k e => by subst e; exact ⟨rfl, rfl⟩)
    · have := rx.nilslice_inv
      subst this
      split at hv
      · rename_i m q p hm hq hp
        simp only [Option.some.injEq] at hv
        subst hv
        have z : ∀ (o : Option Value) (k : Option Nat), A.bound 0 o = some k → k.getD 0 = 0 := by
          intro o k hb
          cases o with
          | none => simp only [A.bound, Option.some.injEq] at hb; subst hb; rfl
          | some a =>
            simp only [A.bound] at hb
            split at hb
            · rename_i hh; simp at hh
            · obtain ⟨h1, h2⟩ := cond_some hb
              simp only [Option.some.injEq] at h2; subst h2
              have := ble_iff.1 h1; simp; omega
            · simp at hb
        have hB := sliceBounds_sound (μ := μ) (isSlice := isSlice) (len := 0) (cap := 0) (cap' := 0) P hm (by rw [z _ _ hm]; exact hq) (by rw [z _ _ hq]; exact hp) rl rh rm (Nat.le_refl _) hmh' w
        refine ⟨none, 0, 0, _, _, _, rfl, hB, ?_⟩
        rw [z _ _ hm, z _ _ hp, z _ _ hq]
        exact .sliceNil
      · simp at hv
    · simp at hv

theorem slice_sound {NG : Nat} (r : RH NG μ h w) {t e : TypeId} {size : Nat} (hu : P.underlying t = some (.slice e)) (hn : szP P e = some size) {x v cx : Value} {lo hi mx clo chi cmx : Option Value}
    (hv : A.sliceS size x lo hi mx h = some v) (rx : VR μ x cx) (rl : OR μ lo clo) (rh : OR μ hi chi) (rm : OR μ mx cmx) :
    ∃ cv, (Instr.sliceAt t cx clo chi cmx).run P w = .ok cv w ∧ VR μ v cv := by
  obtain ⟨a', len, cap, lo', hi', m', rfl, hB, hr⟩ := sliceS_sound P r hv rx rl rh rm true
  refine ⟨_, ?_, hr⟩
  simp only [Instr.sliceAt, Sem.run_bind, run_underlying hu, Result.andThen_ok, Instr.slice, hB, run_sizeOf P hn, Sem.run_pure]

theorem sliceArr_sound {NG : Nat} (r : RH NG μ h w) {t e : TypeId} {n size : Nat} (hu : P.underlying t = some (.array n e)) (hn : szP P e = some size) {x v cx : Value} {lo hi mx clo chi cmx : Option Value}
    (hv : A.sliceA n size x lo hi mx h = some v) (rx : VR μ x cx) (rl : OR μ lo clo) (rh : OR μ hi chi) (rm : OR μ mx cmx) :
    ∃ cv, (Instr.sliceAt t cx clo chi cmx).run P w = .ok cv w ∧ VR μ v cv := by
  unfold A.sliceA at hv
  split at hv
  · rename_i id off
    obtain ⟨l, hl, rfl⟩ := rx.ptr_inv
    have rs : VR μ (.slice (some ⟨id, off, none⟩) n (2 * n + 1)) (.slice (some ⟨l.blk, l.off + off, none⟩) n n) :=
      .slice hl (by unfold CapOK; rw [if_pos (by omega)]; omega) (by omega) (fun _ => rfl)
    obtain ⟨a', len, cap, lo', hi', m', he, hB, hr⟩ := sliceS_sound P r hv rs rl rh rm false
    simp only [Value.slice.injEq] at he
    obtain ⟨e1, rfl, rfl⟩ := he
    subst e1
    refine ⟨_, ?_, hr⟩
    simp only [Instr.sliceAt, Sem.run_bind, run_underlying hu, Result.andThen_ok, Instr.sureAddr, Sem.run_pure, hB, run_sizeOf P hn]
    congr 2
    split <;> rfl
  · simp at hv

theorem bytes_ext {a b : ByteArray} (h : a.data.toList = b.data.toList) : a = b := by
  cases a; cases b; simp at h; rw [h]

theorem sliceStr_sound {t : TypeId} (hu : P.underlying t = some .string) {x v cx : Value} {lo hi clo chi : Option Value}
    (hv : A.sliceStr x lo hi = some v) (rx : VR μ x cx) (rl : OR μ lo clo) (rh : OR μ hi chi) :
    ∃ cv, (Instr.sliceAt t cx clo chi none).run P w = .ok cv w ∧ VR μ v cv := by
  unfold A.sliceStr at hv
  split at hv
  · rename_i s
    rw [rx.string_inv]
    split at hv
    · simp at hv
    · rename_i q hq
      split at hv
      · simp at hv
      · rename_i p hp
        simp only [Option.some.injEq] at hv
        subst hv
        have hB := sliceBounds_sound (μ := μ) (isSlice := false) (len := s.size) (cap := s.size) (cap' := s.size) (mx := none) (cmx := none) (m := none) P rfl hq hp rl rh trivial (Nat.le_refl _) (by simp) w
        refine ⟨.string (s.extract (p.getD 0) (q.getD s.size)), ?_, ?_⟩
        · simp only [Instr.sliceAt, Sem.run_bind, run_underlying hu, Result.andThen_ok, Instr.slice, hB, Sem.run_pure, Option.isSome_none, Bool.false_eq_true, if_false]
        · have : (⟨⟨(s.data.toList.drop (p.getD 0)).take (q.getD s.size - p.getD 0)⟩⟩ : ByteArray) = s.extract (p.getD 0) (q.getD s.size) := by
            apply bytes_ext
            simp [List.extract_eq_take_drop]
          rw [this]
          exact .string _
  · simp at hv

end Go.AM
