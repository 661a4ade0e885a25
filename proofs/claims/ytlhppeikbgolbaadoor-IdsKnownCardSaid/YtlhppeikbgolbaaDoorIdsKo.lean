/-
  IdsKnown: what the law's code does, as a whole.
-/
import Derived.Test.YtlhppeikbgolbaaDoorIdsKn
namespace Go.Proofs.YtlhppeikbgolbaaDoor.IdsD
open Go Go.AM Go.IdsN Go.Proofs.YtlhppeikbgolbaaDoor.IdsF3

/-- Three ids are freed, and taken again. -/
theorem three (m L : Nat) (hm : 1040 ≤ m) {β : Type} (kr : Value → H → Option β) (kn : Value → H → Option β) {p b : Nat} {h : H} {S : List Nat} (r : PoolS h p b S) (a : AllIn S) :
    ∃ h' S', p3arrrrrrrl (callB Tryd.prog 1 [] m) L (ptrV p) h kr kn = kn (ptrV p) h' ∧ PoolS h' p b S' ∧ 0 ∉ S' := by
  have i1 : 700 ∈ S := (a.mem _).2 (by omega)
  obtain ⟨h1, e1, r1, _, _⟩ := U12 (m := m) (by omega) r (id := 700) (by omega) i1
  have m1 : ∀ x, x ∈ S.erase 700 ↔ x ≠ 700 ∧ 1 ≤ x ∧ x ≤ 65535 := fun x => by rw [r.nd.mem_erase_iff, a.mem]
  have l1 : (S.erase 700).length = 65534 := by rw [List.length_erase_of_mem i1, a.len]
  obtain ⟨S1, hS1⟩ : ∃ S1, S1 = S.erase 700 := ⟨_, rfl⟩
  rw [← hS1] at r1 m1 l1
  have i2 : 64 ∈ S1 := (m1 _).2 (by omega)
  obtain ⟨h2, e2, r2, _, _⟩ := U12 (m := m) (by omega) r1 (id := 64) (by omega) i2
  have m2 : ∀ x, x ∈ S1.erase 64 ↔ x ≠ 64 ∧ x ≠ 700 ∧ 1 ≤ x ∧ x ≤ 65535 := fun x => by rw [r1.nd.mem_erase_iff, m1]
  have l2 : (S1.erase 64).length = 65533 := by rw [List.length_erase_of_mem i2, l1]
  obtain ⟨S2, hS2⟩ : ∃ S2, S2 = S1.erase 64 := ⟨_, rfl⟩
  rw [← hS2] at r2 m2 l2
  have i3 : 65535 ∈ S2 := (m2 _).2 (by omega)
  obtain ⟨h3, e3, r3, _, _⟩ := U12 (m := m) (by omega) r2 (id := 65535) (by omega) i3
  have m3 : ∀ x, x ∈ S2.erase 65535 ↔ x ≠ 65535 ∧ x ≠ 64 ∧ x ≠ 700 ∧ 1 ≤ x ∧ x ≤ 65535 := fun x => by rw [r2.nd.mem_erase_iff, m2]
  have l3 : (S2.erase 65535).length = 65532 := by rw [List.length_erase_of_mem i3, l2]
  obtain ⟨S3, hS3⟩ : ∃ S3, S3 = S2.erase 65535 := ⟨_, rfl⟩
  rw [← hS3] at r3 m3 l3
  have e4 := U11 (m := m) (by omega) r3 l3
  obtain ⟨h4, e5, r4, _, _⟩ := U9 (m := m) (by omega) r3 (by omega) (id := 64) (by omega) (by rw [m3]; omega) (fun x c d => by rw [m3]; omega)
  obtain ⟨h5, e6, r5, _, _⟩ := U9 (m := m) (by omega) r4 (by rw [List.length_cons]; omega) (id := 700) (by omega) (by rw [List.mem_cons, m3]; omega) (fun x c d => by rw [List.mem_cons, m3]; omega)
  obtain ⟨h6, e7, r6, _, _⟩ := U9 (m := m) (by omega) r5 (by rw [List.length_cons, List.length_cons]; omega) (id := 65535) (by omega) (by rw [List.mem_cons, List.mem_cons, m3]; omega) (fun x c d => by rw [List.mem_cons, List.mem_cons, m3]; omega)
  refine ⟨h6, _, ?_, r6, fun h => ?_⟩
  · have e1' : callB Tryd.prog 1 [] m 12 [ptrV p, .int .u16 700] h = some (.bool true, h1) := e1
    have e2' : callB Tryd.prog 1 [] m 12 [ptrV p, .int .u16 64] h1 = some (.bool true, h2) := e2
    have e3' : callB Tryd.prog 1 [] m 12 [ptrV p, .int .u16 65535] h2 = some (.bool true, h3) := e3
    have e4' : callB Tryd.prog 1 [] m 11 [ptrV p] h3 = some (.int .i64 65532, h3) := e4
    have e5' : callB Tryd.prog 1 [] m 9 [ptrV p, .int .u16 64] h3 = some (.bool true, h4) := e5
    have e6' : callB Tryd.prog 1 [] m 9 [ptrV p, .int .u16 700] h4 = some (.bool true, h5) := e6
    have e7' : callB Tryd.prog 1 [] m 9 [ptrV p, .int .u16 65535] h5 = some (.bool true, h6) := e7
    simp only [p3arrrrrrrl, p3arrrrrrrll, e1', bnd2_some, toBK_bool, un_not, bnd_some, Bool.not_true, cond_false, e2', e3', e4', bin_neq, decide_true, e5', e6', e7', p3arrrrrrrlr, condV_bool]
  · have := r6.rg 0 h
    omega

/-- The law, awake taken as told. -/
theorem law3 {m : Nat} (hm : 70000 ≤ m) {h0 : H} (ht : TabAt h0) (hz : 0 < h0.next)
    (awake : ∀ h, TabAt h → 0 < h.next → ∃ h', callB Tryd.prog 1 [] m 15 [] h = some (.bool true, h')) :
    ∃ h', callB Tryd.prog 1 [] (m + 1) 3 [] h0 = some (.bool true, h') := by
  rw [F3eq [] rfl]
  obtain ⟨h1, e8, r1, x1, n1⟩ := U8 (m := m) (by omega) ht hz
  obtain ⟨p, hp⟩ : ∃ p, p = h0.next + 1 := ⟨_, rfl⟩
  obtain ⟨b, hb⟩ : ∃ b, b = h0.next := ⟨_, rfl⟩
  rw [← hp] at e8 r1
  rw [← hb] at r1
  obtain ⟨h2, S2, eA, r2, a2⟩ := allL m m (by omega) (fun x0 h => some (x0, h)) (fun x1 h => p3arrr (callB Tryd.prog 1 [] m) m x1 h (fun x0 h => some (x0, h))) 65535 1 m h1 [] (by omega) (by omega) (by omega) r1 (by simp) (fun x => by simp; omega)
  have eA' : p3arrlrbw (callB Tryd.prog 1 [] m) m (fun x0 h => some (x0, h)) (fun x1 h => p3arrr (callB Tryd.prog 1 [] m) m x1 h (fun x0 h => some (x0, h))) m (.int .i64 1) (ptrV p) h1 = p3arrr (callB Tryd.prog 1 [] m) m (ptrV p) h2 (fun x0 h => some (x0, h)) := eA
  have e10 := U10 (m := m) (by omega) r2 a2.len
  have e11 : callB Tryd.prog 1 [] m 11 [ptrV p] h2 = some (.int .i64 65535, h2) := U11 (m := m) (by omega) r2 a2.len
  have a0 : A.extract 0 (.tuple ⟨[.int .u16 0, .int .i64 7]⟩) = some (.int .u16 0) := rfl
  have a1 : A.extract 1 (.tuple ⟨[.int .u16 0, .int .i64 7]⟩) = some (.int .i64 7) := rfl
  obtain ⟨h3, hh3⟩ : ∃ h3, h3 = h2.push (.cells [.int .u16 65535, .int .u16 1, .int .u16 63, .int .u16 64, .int .u16 65, .int .u16 127, .int .u16 128, .int .u16 40000, .int .u16 65472, .int .u16 2] (some 1)) := ⟨_, rfl⟩
  have eb : A.buildSlice 1 10 IdsF3.Z25L [(0, 1, (.int .u16 65535)), (1, 1, (.int .u16 1)), (2, 1, (.int .u16 63)), (3, 1, (.int .u16 64)), (4, 1, (.int .u16 65)), (5, 1, (.int .u16 127)), (6, 1, (.int .u16 128)), (7, 1, (.int .u16 40000)), (8, 1, (.int .u16 65472)), (9, 1, (.int .u16 2))] h2
      = some (.slice (some ⟨h2.next, 0, none⟩) 10 21, h3) := by rw [hh3]; rfl
  have s3 : SliceE 1 h3 (.slice (some ⟨h2.next, 0, none⟩) 10 21) (cu ten) := by
    refine ⟨fun e he => ?_, .inr ⟨h2.next, 0, 21, rfl, by simp [cu, ten], by rw [hh3]; exact Nat.lt_succ_self _, fun _ => ⟨_, some 1, by rw [hh3, H.get_push, if_pos rfl], by simp [cu, ten], rfl⟩⟩⟩
    obtain ⟨w, _, rfl⟩ := List.mem_map.1 he; rfl
  have x3 : Ext h2 h3 := hh3 ▸ Ext.push h2 _
  have r3 := r2.ext x3
  obtain ⟨_, _, rp2⟩ := r2.pool
  have hx5 : ∀ i, sid (.slice (some ⟨h2.next, 0, none⟩) 10 21) = some i → ¬ Two p b i := fun i hi e => by
    have : h2.next = i := by simpa [sid] using hi
    have q1 := rp2.lp
    have q2 := rp2.lb
    rcases e with e | e <;> omega
  obtain ⟨h4, S4, eT, r4, a4⟩ := tenL m m (by omega) (fun x0 h => some (x0, h)) (fun x1 h => p3arrrrrrr (callB Tryd.prog 1 [] m) m x1 h (fun x0 h => some (x0, h))) hx5 10 0 m h3 S2 rfl (by omega) r3 a2 s3
  have eT' : p3arrrrrrlrbw (callB Tryd.prog 1 [] m) m (fun x0 h => some (x0, h)) (fun x1 h => p3arrrrrrr (callB Tryd.prog 1 [] m) m x1 h (fun x0 h => some (x0, h))) m (.int .i64 0) (.slice (some ⟨h2.next, 0, none⟩) 10 21) (ptrV p) h3
      = p3arrrrrrr (callB Tryd.prog 1 [] m) m (ptrV p) h4 (fun x0 h => some (x0, h)) := eT
  obtain ⟨h5, S5, eF, r5, z5⟩ := three m m (by omega) (fun x0 h => some (x0, h)) (fun x1 h => p3arrrrrrrr (callB Tryd.prog 1 [] m) m x1 h (fun x0 h => some (x0, h))) r4 a4
  -- no pools
  have g1 : A.build IdsF3.Z34L [] = some (.agg ⟨[.slice none 0 0, .int .i64 0, .int .i64 0]⟩) := rfl
  obtain ⟨h6, hh6⟩ : ∃ h6, h6 = h5.push (.cells [.slice none 0 0, .int .i64 0, .int .i64 0] (some 0)) := ⟨_, rfl⟩
  have g2 : A.box 3 (.agg ⟨[.slice none 0 0, .int .i64 0, .int .i64 0]⟩) h5 = some (ptrV h5.next, h6) := by rw [hh6]; rfl
  obtain ⟨h7, hh7⟩ : ∃ h7, h7 = h6.push (.cells [.pointer none, ptrV h5.next] (some 1)) := ⟨_, rfl⟩
  have g3 : A.buildSlice 1 2 IdsF3.Z22L [(0, 1, .pointer none), (1, 1, ptrV h5.next)] h6 = some (.slice (some ⟨h6.next, 0, none⟩) 2 5, h7) := by rw [hh7]; rfl
  have n6 : h6.next = h5.next + 1 := by rw [hh6]; rfl
  have n7 : h7.next = h6.next + 1 := by rw [hh7]; rfl
  have x6 : Ext h5 h6 := hh6 ▸ Ext.push h5 _
  have x7 : Ext h6 h7 := hh7 ▸ Ext.push h6 _
  have gt7 : h7.get h6.next = some (.cells [.pointer none, ptrV h5.next] (some 1)) := by rw [hh7, H.get_push, if_pos rfl]
  have ge7 : h7.get h5.next = some (.cells [.slice none 0 0, .int .i64 0, .int .i64 0] (some 0)) := by rw [x7.get _ (by omega), hh6, H.get_push, if_pos rfl]
  have o1 : NoneAt h7 (.pointer none) := .inl rfl
  have o2 : NoneAt h7 (ptrV h5.next) := .inr ⟨_, _, _, _, rfl, by omega, ge7⟩
  have q1 : A.idxS 1 (.slice (some ⟨h6.next, 0, none⟩) 2 5) (.int .i64 ((0 : Nat) : Int)) = some (.pointer (some ⟨h6.next, 0, none⟩)) := idxS_eq 1 h6.next 0 2 5 0 .i64 (by omega)
  have q2 : A.idxS 1 (.slice (some ⟨h6.next, 0, none⟩) 2 5) (.int .i64 ((1 : Nat) : Int)) = some (.pointer (some ⟨h6.next, 1, none⟩)) := idxS_eq 1 h6.next 0 2 5 1 .i64 (by omega)
  have hl8 : A.lenS (.slice (some ⟨h6.next, 0, none⟩) 2 5) = some (.int .i64 2) := rfl
  obtain ⟨L, hL⟩ : ∃ L, m = L + 3 := ⟨m - 3, by omega⟩
  obtain ⟨kx, hkx⟩ : ∃ kx : Value → H → Option (Value × H), kx = fun x1 h => p3arrrrrrrrrrr (callB Tryd.prog 1 [] m) m x1 h (fun x0 h => some (x0, h)) := ⟨_, rfl⟩
  obtain ⟨h8, e81, x8⟩ := noneStep m m (by omega) (fun x9 x8 x1 h => p3arrrrrrrrrrlrbw (callB Tryd.prog 1 [] m) m (fun x0 h => some (x0, h)) kx (L + 2) x9 x8 x1 h) (fun x0 h => some (x0, h)) kx (x1 := ptrV p) (i := 0) (by omega) o1 hl8 q1
    (fun g y => by rw [load1_eq, y.get _ (by omega), gt7]; rfl)
  obtain ⟨h9, e91, x9⟩ := noneStep m m (by omega) (fun x9 x8 x1 h => p3arrrrrrrrrrlrbw (callB Tryd.prog 1 [] m) m (fun x0 h => some (x0, h)) kx (L + 1) x9 x8 x1 h) (fun x0 h => some (x0, h)) kx (x1 := ptrV p) (i := 1) (by omega) (o2.ext x8) hl8 q2
    (fun g y => by rw [load1_eq, (x8.trans y).get _ (by omega), gt7]; rfl)
  have r9 := r5.ext (((x6.trans x7).trans x8).trans x9)
  obtain ⟨_, _, rp9⟩ := r9.pool
  have f1 : callB Tryd.prog 1 [] m 13 [ptrV p, .int .u16 0] h9 = some (.bool false, h9) := U13n (m := m) (by omega) r9 (id := 0) (by omega) z5
  have f2 : callB Tryd.prog 1 [] m 12 [ptrV p, .int .u16 0] h9 = some (.bool false, h9) := U12n (m := m) (by omega) r9 (id := 0) (by omega) z5
  obtain ⟨h10, f3⟩ := awake h9 rp9.tb (by have := rp9.lb; omega)
  have hdd : decide (((1 + 1 : Nat) : Int) < 2) = false := rfl
  have eN : p3arrrrrrrrrrlrbw (callB Tryd.prog 1 [] m) m (fun x0 h => some (x0, h)) kx m (.int .i64 0) (.slice (some ⟨h6.next, 0, none⟩) 2 5) (ptrV p) h7 = kx (ptrV p) h9 := by
    have s1 : p3arrrrrrrrrrlrbw (callB Tryd.prog 1 [] m) m (fun x0 h => some (x0, h)) kx (L + 3) (.int .i64 0) (.slice (some ⟨h6.next, 0, none⟩) 2 5) (ptrV p) h7 = _ := e81
    have s2 : p3arrrrrrrrrrlrbw (callB Tryd.prog 1 [] m) m (fun x0 h => some (x0, h)) kx (L + 2) (.int .i64 ((0 + 1 : Nat) : Int)) (.slice (some ⟨h6.next, 0, none⟩) 2 5) (ptrV p) h8 = _ := e91
    rw [← hL] at s1
    rw [s1, s2]
    simp only [p3arrrrrrrrrrlrbw, p3arrrrrrrrrrlrbo, p3arrrrrrrrrrlrbol, hl8, bnd_some, bin_lss, hdd, toBK_bool, cond_false]
  refine ⟨h10, ?_⟩
  simp only [F3, p3a, p3al, p3ar, p3arl, e8, bnd2_some, p3arr, p3arrl, p3arrll, p3arrlr, p3arrlrb]
  rw [eA']
  simp only [p3arrr, p3arrrl, e10, bnd2_some, a0, a1, bnd_some, p3arrrr, p3arrrrl, bin_neq, decide_true, Bool.not_true, toBK_bool, cond_false, e11, p3arrrrr, p3arrrrrl, eb, p3arrrrrr, p3arrrrrrl, p3arrrrrrll, p3arrrrrrlr, p3arrrrrrlrb]
  rw [eT']
  simp only [p3arrrrrrr]
  rw [eF]
  simp only [p3arrrrrrrr, p3arrrrrrrrl, p3arrrrrrrrr, p3arrrrrrrrrl, g1, bnd_some, g2, bnd2_some, g3, p3arrrrrrrrrr, p3arrrrrrrrrrl, p3arrrrrrrrrrll, p3arrrrrrrrrrlr, p3arrrrrrrrrrlrb]
  rw [← hkx, eN, hkx]
  simp only [p3arrrrrrrrrrr, f1, bnd2_some, toBK_bool, un_not, bnd_some, Bool.not_false, cond_true, f2, f3]
end Go.Proofs.YtlhppeikbgolbaaDoor.IdsD
