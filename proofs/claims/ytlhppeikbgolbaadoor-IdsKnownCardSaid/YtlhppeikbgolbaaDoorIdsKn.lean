/-
  IdsKnown: what the law's code does, loop by loop.
-/
import Derived.Test.YtlhppeikbgolbaaDoorIdsK
import Derived.Test.YtlhppeikbgolbaaDoorIdsF3
namespace Go.Proofs.YtlhppeikbgolbaaDoor.IdsD
open Go Go.AM Go.IdsN Go.Proofs.YtlhppeikbgolbaaDoor.IdsF3

/-- All ids are taken. -/
structure AllIn (S : List Nat) : Prop where
  mem : ∀ x, x ∈ S ↔ 1 ≤ x ∧ x ≤ 65535
  len : S.length = 65535

theorem U8 {m : Nat} (hm : 1 ≤ m) {h : H} (ht : TabAt h) (h0 : 0 < h.next) : ∃ h', callB Tryd.prog 1 [] m 8 [] h = some (ptrV (h.next + 1), h') ∧ PoolS h' (h.next + 1) h.next [] ∧ Ext h h' ∧ h'.next = h.next + 2 := by
  obtain ⟨k, rfl⟩ : ∃ k, m = k + 1 := ⟨m - 1, by omega⟩
  exact T8 k ht h0
theorem U9 {m : Nat} (hm : 1027 ≤ m) {h : H} {p b : Nat} {S : List Nat} (r : PoolS h p b S) (hn : S.length < 65535) {id : Nat} (h1 : 1 ≤ id) (hin : id ∉ S) (hb : ∀ i, 1 ≤ i → i < id → i ∈ S) :
    ∃ h', callB Tryd.prog 1 [] m 9 [ptrV p, .int .u16 (id : Int)] h = some (.bool true, h') ∧ PoolS h' p b (id :: S) ∧ ExtBut (Two p b) h h' ∧ h'.next = h.next := by
  obtain ⟨k, rfl⟩ : ∃ k, m = k + 1027 := ⟨m - 1027, by omega⟩
  exact T9 k r hn h1 hin hb
theorem U10 {m : Nat} (hm : 2 ≤ m) {h : H} {p b : Nat} {S : List Nat} (r : PoolS h p b S) (hn : S.length = 65535) : callB Tryd.prog 1 [] m 10 [ptrV p] h = some (.tuple ⟨[.int .u16 0, .int .i64 7]⟩, h) := by
  obtain ⟨k, rfl⟩ : ∃ k, m = k + 2 := ⟨m - 2, by omega⟩
  have q := r.pool
  rw [hn] at q
  exact S10f k q
theorem U11 {m : Nat} (hm : 2 ≤ m) {h : H} {p b : Nat} {S : List Nat} (r : PoolS h p b S) {n : Nat} (hn : S.length = n) : callB Tryd.prog 1 [] m 11 [ptrV p] h = some (.int .i64 (n : Int), h) := by
  obtain ⟨k, rfl⟩ : ∃ k, m = k + 2 := ⟨m - 2, by omega⟩
  subst hn
  exact T11 k r
theorem U12 {m : Nat} (hm : 3 ≤ m) {h : H} {p b : Nat} {S : List Nat} (r : PoolS h p b S) {id : Nat} (hid : id < 65536) (hin : id ∈ S) :
    ∃ h', callB Tryd.prog 1 [] m 12 [ptrV p, .int .u16 (id : Int)] h = some (.bool true, h') ∧ PoolS h' p b (S.erase id) ∧ ExtBut (Two p b) h h' ∧ h'.next = h.next := by
  obtain ⟨k, rfl⟩ : ∃ k, m = k + 3 := ⟨m - 3, by omega⟩
  exact T12 k r hid hin
theorem U12n {m : Nat} (hm : 3 ≤ m) {h : H} {p b : Nat} {S : List Nat} (r : PoolS h p b S) {id : Nat} (hid : id < 65536) (hin : id ∉ S) :
    callB Tryd.prog 1 [] m 12 [ptrV p, .int .u16 (id : Int)] h = some (.bool false, h) := by
  obtain ⟨k, rfl⟩ : ∃ k, m = k + 3 := ⟨m - 3, by omega⟩
  exact T12n k r hid hin
theorem U13 {m : Nat} (hm : 2 ≤ m) {h : H} {p b : Nat} {S : List Nat} (r : PoolS h p b S) {id : Nat} (hid : id < 65536) (hin : id ∈ S) :
    callB Tryd.prog 1 [] m 13 [ptrV p, .int .u16 (id : Int)] h = some (.bool true, h) := by
  obtain ⟨k, rfl⟩ : ∃ k, m = k + 2 := ⟨m - 2, by omega⟩
  rw [T13 k r hid, decide_eq_true hin]
theorem U13n {m : Nat} (hm : 2 ≤ m) {h : H} {p b : Nat} {S : List Nat} (r : PoolS h p b S) {id : Nat} (hid : id < 65536) (hin : id ∉ S) :
    callB Tryd.prog 1 [] m 13 [ptrV p, .int .u16 (id : Int)] h = some (.bool false, h) := by
  obtain ⟨k, rfl⟩ : ∃ k, m = k + 2 := ⟨m - 2, by omega⟩
  rw [T13 k r hid, decide_eq_false hin]

theorem conv16 {i : Nat} (hi : i < 65536) : A.conv Tryd.prog 3 25 (.int .i64 (i : Int)) = some (.int .u16 (i : Int)) := by
  have : A.conv Tryd.prog 3 25 (.int .i64 (i : Int)) = some (.int .u16 (IntKind.u16.wrap (i : Int))) := rfl
  rw [this, IntWalk.u16_in _ ⟨by omega, by omega⟩]

/-- All ids, one behind the other. -/
theorem allL (m L : Nat) (hm : 1040 ≤ m) {β : Type} (kr : Value → H → Option β) (kx : Value → H → Option β) {p b : Nat} : ∀ (d i n : Nat) (h : H) (S : List Nat), d + i = 65536 → 1 ≤ i → d < n →
    PoolS h p b S → S.length + 1 = i → (∀ x, x ∈ S ↔ 1 ≤ x ∧ x < i) →
    ∃ h' S', p3arrlrbw (callB Tryd.prog 1 [] m) L kr kx n (.int .i64 (i : Int)) (ptrV p) h = kx (ptrV p) h' ∧ PoolS h' p b S' ∧ AllIn S' := by
  intro d
  induction d with
  | zero =>
    intro i n h S hd h1 hn r hl hS
    obtain ⟨n, rfl⟩ : ∃ n', n = n' + 1 := ⟨n - 1, by omega⟩
    have hdd : decide ((i : Int) ≤ 65535) = false := by rw [decide_eq_false_iff_not]; omega
    refine ⟨h, S, ?_, r, fun x => ?_, by omega⟩
    · simp only [p3arrlrbw, p3arrlrbo, bin_leq, bnd_some, hdd, toBK_bool, cond_false]
    · rw [hS x]; omega
  | succ d ih =>
    intro i n h S hd h1 hn r hl hS
    obtain ⟨n, rfl⟩ : ∃ n', n = n' + 1 := ⟨n - 1, by omega⟩
    have hdd : decide ((i : Int) ≤ 65535) = true := by rw [decide_eq_true_iff]; omega
    have hw : IntKind.i64.wrap ((i : Int) + 1) = ((i + 1 : Nat) : Int) := wrap_succ (by omega)
    have hc := conv16 (i := i) (by omega)
    obtain ⟨h1', e1, r1, _, _⟩ := U9 (m := m) (by omega) r (by omega) h1 (by rw [hS]; omega) (fun x a c => (hS x).2 ⟨a, c⟩)
    obtain ⟨h', S', e2, r2, a2⟩ := ih (i + 1) n h1' (i :: S) (by omega) (by omega) (by omega) r1 (by rw [List.length_cons]; omega) (fun x => by rw [List.mem_cons, hS]; omega)
    refine ⟨h', S', ?_, r2, a2⟩
    simp only [p3arrlrbw, p3arrlrbo, bin_leq, bnd_some, hdd, toBK_bool, cond_true, hc, e1, bnd2_some, un_not, Bool.not_true, cond_false, bin_add, hw]
    exact e2

theorem AllIn.back {S : List Nat} (a : AllIn S) (nd : S.Nodup) {id : Nat} (h1 : 1 ≤ id) (h2 : id ≤ 65535) : AllIn (id :: S.erase id) := by
  have hin : id ∈ S := (a.mem id).2 ⟨h1, h2⟩
  refine ⟨fun x => ?_, ?_⟩
  · rw [List.mem_cons, nd.mem_erase_iff, a.mem]
    omega
  · rw [List.length_cons, List.length_erase_of_mem hin, a.len]

def ten : List Nat := [65535, 1, 63, 64, 65, 127, 128, 40000, 65472, 2]

theorem ten_in : ∀ x ∈ ten, 1 ≤ x ∧ x ≤ 65535 := by unfold ten; intro x hx; simp at hx; omega

/-- Ten ids are freed, and taken again. -/
theorem tenL (m L : Nat) (hm : 1040 ≤ m) {β : Type} (kr : Value → H → Option β) (kx : Value → H → Option β) {p b : Nat} {x5 : Value} (hx : ∀ i, sid x5 = some i → ¬ Two p b i) : ∀ (d i n : Nat) (h : H) (S : List Nat), d + i = ten.length → d < n →
    PoolS h p b S → AllIn S → SliceE 1 h x5 (cu ten) →
    ∃ h' S', p3arrrrrrlrbw (callB Tryd.prog 1 [] m) L kr kx n (.int .i64 (i : Int)) x5 (ptrV p) h = kx (ptrV p) h' ∧ PoolS h' p b S' ∧ AllIn S' := by
  have hlc : (cu ten).length = ten.length := by simp [cu]
  have htl : ten.length = 10 := rfl
  intro d
  induction d with
  | zero =>
    intro i n h S hd hn r a s
    obtain ⟨n, rfl⟩ : ∃ n', n = n' + 1 := ⟨n - 1, by omega⟩
    have hdd : decide ((i : Int) < (ten.length : Int)) = false := by rw [decide_eq_false_iff_not]; omega
    have hlen := s.len.1
    rw [hlc] at hlen
    refine ⟨h, S, ?_, r, a⟩
    simp only [p3arrrrrrlrbw, p3arrrrrrlrbo, p3arrrrrrlrbol, hlen, bnd_some, bin_lss, hdd, toBK_bool, cond_false]
  | succ d ih =>
    intro i n h S hd hn r a s
    obtain ⟨n, rfl⟩ : ∃ n', n = n' + 1 := ⟨n - 1, by omega⟩
    have hi : i < ten.length := by omega
    have hdd : decide ((i : Int) < (ten.length : Int)) = true := by rw [decide_eq_true_iff]; omega
    have hlen := s.len.1
    rw [hlc] at hlen
    have hw : IntKind.i64.wrap ((i : Int) + 1) = ((i + 1 : Nat) : Int) := wrap_succ (by omega)
    obtain ⟨id, hid⟩ : ∃ id, id = ten[i] := ⟨_, rfl⟩
    have hb := ten_in id (hid ▸ List.getElem_mem hi)
    have he := cu_at hi
    rw [← hid] at he
    have ld : ∀ g : H, SliceE 1 g x5 (cu ten) → ∃ q, A.idxS 1 x5 (.int .i64 (i : Int)) = some q ∧ A.load false 1 q g = some (.int .u16 (id : Int)) := fun g sg => by
      obtain ⟨t, off, cells, own, c1, _, c3, _, _, c6⟩ := sg.at he .i64
      refine ⟨_, c1, ?_⟩
      rw [load1_eq, c3]
      have := c6 0 (by omega)
      simpa using this
    have hin : id ∈ S := (a.mem id).2 hb
    obtain ⟨h1, e1, r1, y1, n1⟩ := U12 (m := m) (by omega) r (id := id) (by omega) hin
    have hno : id ∉ S.erase id := fun h => (r.nd.mem_erase_iff.1 h).1 rfl
    have e2 := U12n (m := m) (by omega) r1 (id := id) (by omega) hno
    have e3 := U13n (m := m) (by omega) r1 (id := id) (by omega) hno
    obtain ⟨h2, e4, r2, y2, n2⟩ := U9 (m := m) (by omega) r1 (by rw [List.length_erase_of_mem hin, a.len]; omega) hb.1 hno
      (fun x c1 c2 => r.nd.mem_erase_iff.2 ⟨by omega, (a.mem x).2 (by omega)⟩)
    have e5 := U13 (m := m) (by omega) r2 (id := id) (by omega) (List.mem_cons_self ..)
    have s1 := s.extBut y1 hx
    have s2 := s1.extBut y2 hx
    obtain ⟨q, ex, l0⟩ := ld h s
    obtain ⟨q1, ex1, l1⟩ := ld h1 s1
    obtain rfl : q1 = q := by rw [ex] at ex1; exact (Option.some.inj ex1).symm
    obtain ⟨q2, ex2, l2⟩ := ld h2 s2
    obtain rfl : q2 = q1 := by rw [ex] at ex2; exact (Option.some.inj ex2).symm
    obtain ⟨h', S', e6, r6, a6⟩ := ih (i + 1) n h2 _ (by omega) (by omega) r2 (a.back r.nd hb.1 hb.2) s2
    refine ⟨h', S', ?_, r6, a6⟩
    simp only [p3arrrrrrlrbw, p3arrrrrrlrbo, p3arrrrrrlrbol, hlen, bnd_some, bin_lss, hdd, toBK_bool, cond_true, p3arrrrrrlrbor, p3arrrrrrlrborl, p3arrrrrrlrborlb, p3arrrrrrlrborlbl, ex, l0, e1, bnd2_some, un_not, Bool.not_true, cond_false,
      l1, e2, e3, e4, l2, e5, p3arrrrrrlrborlbr, condV_bool, p3arrrrrrlrborr, bin_add, hw]
    exact e6

/-- One of the two that are no pools. -/
theorem noneStep (m L : Nat) (hm : 10 ≤ m) {β : Type} (kn : Value → Value → Value → H → Option β) (kr : Value → H → Option β) (kx : Value → H → Option β) {h : H} {x8 x1 x q : Value} {i : Nat} (hi : i < 2) (s : NoneAt h x)
    (hlen : A.lenS x8 = some (.int .i64 2)) (ex : A.idxS 1 x8 (.int .i64 (i : Int)) = some q) (ld : ∀ g, Ext h g → A.load false 1 q g = some x) :
    ∃ h', p3arrrrrrrrrrlrbo (callB Tryd.prog 1 [] m) L (.int .i64 (i : Int)) x8 x1 h kn kr kx = kn (.int .i64 ((i + 1 : Nat) : Int)) x8 x1 h' ∧ Ext h h' := by
  obtain ⟨k, rfl⟩ : ∃ k, m = k + 4 := ⟨m - 4, by omega⟩
  have hdd : decide ((i : Int) < 2) = true := by rw [decide_eq_true_iff]; omega
  have hw : IntKind.i64.wrap ((i : Int) + 1) = ((i + 1 : Nat) : Int) := wrap_succ (by omega)
  obtain ⟨h', e14, x14⟩ := N14 k s
  have s' := s.ext x14
  have e10 : callB Tryd.prog 1 [] (k + 4) 10 [x] h = some (.tuple ⟨[.int .u16 0, .int .i64 8]⟩, h) := N10 (k + 2) s
  have e11 : callB Tryd.prog 1 [] (k + 4) 11 [x] h' = some (.int .i64 0, h') := N11 (k + 2) s'
  have e12 : callB Tryd.prog 1 [] (k + 4) 12 [x, .int .u16 1] h' = some (.bool false, h') := N12 (k + 1) s' _
  have e13 : callB Tryd.prog 1 [] (k + 4) 13 [x, .int .u16 0] h' = some (.bool false, h') := N13 (k + 2) s' _
  have e13b : callB Tryd.prog 1 [] (k + 4) 13 [x, .int .u16 1] h' = some (.bool false, h') := N13 (k + 2) s' _
  have l0 := ld h (Ext.refl h)
  have l1 := ld h' x14
  have a0 : A.extract 0 (.tuple ⟨[.int .u16 0, .int .i64 8]⟩) = some (.int .u16 0) := rfl
  have a1 : A.extract 1 (.tuple ⟨[.int .u16 0, .int .i64 8]⟩) = some (.int .i64 8) := rfl
  have b0 : A.extract 0 (.tuple ⟨[.slice none 0 0, .bool true]⟩) = some (.slice none 0 0) := rfl
  have b1 : A.extract 1 (.tuple ⟨[.slice none 0 0, .bool true]⟩) = some (.bool true) := rfl
  have hz : decide (((0 : Nat) : Int) = 0) = true := rfl
  refine ⟨h', ?_, x14⟩
  simp only [p3arrrrrrrrrrlrbo, p3arrrrrrrrrrlrbol, hlen, bnd_some, bin_lss, hdd, toBK_bool, cond_true, p3arrrrrrrrrrlrbor, p3arrrrrrrrrrlrborl, p3arrrrrrrrrrlrborlb, p3arrrrrrrrrrlrborlbl, ex, l0, e10, bnd2_some, a0, a1,
    p3arrrrrrrrrrlrborlbr, p3arrrrrrrrrrlrborlbrl, e14, b0, b1, p3arrrrrrrrrrlrborlbrr, p3arrrrrrrrrrlrborlbrrl, bin_neq, decide_true, Bool.not_true, cond_false, l1, e12, e13, e13b, e11, un_not, lenS_eq, hz, p3arrrrrrrrrrlrborlbrrr, condV_bool,
    p3arrrrrrrrrrlrborr, bin_add, hw]
end Go.Proofs.YtlhppeikbgolbaaDoor.IdsD
