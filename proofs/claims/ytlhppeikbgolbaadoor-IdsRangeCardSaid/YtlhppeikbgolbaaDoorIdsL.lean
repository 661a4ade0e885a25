/-
  IdsLeast: what the law's code does.
-/
import Derived.Test.YtlhppeikbgolbaaDoorIdsS4
import Derived.Test.YtlhppeikbgolbaaDoorIdsF5
namespace Go.Proofs.YtlhppeikbgolbaaDoor.IdsD
open Go Go.AM Go.IdsN Go.Proofs.YtlhppeikbgolbaaDoor.IdsF5

/-- The law's own row of what is taken. -/
structure Tk (h : H) (t : Nat) (S : List Nat) (T : List Bool) : Prop where
  hT : h.get t = some (.cells (T.map Value.bool) (some 1))
  lT : T.length = 65536
  eT : ∀ i, i < 65536 → T[i]? = some (decide (i ∈ S))

def tv (t : Nat) : Value := .slice (some ⟨t, 0, none⟩) 65536 131073

theorem tv_idx (t : Nat) {i : Nat} (hi : i < 65536) (k : IntKind) : A.idxS 1 (tv t) (.int k (i : Int)) = some (.pointer (some ⟨t, i, none⟩)) := by
  have := idxS_eq 1 t 0 65536 131073 i k hi
  rw [Nat.zero_add, Nat.mul_one] at this
  exact this
theorem Tk.load {h : H} {t : Nat} {S : List Nat} {T : List Bool} (v : Tk h t S T) {i : Nat} (hi : i < 65536) : A.load false 1 (.pointer (some ⟨t, i, none⟩)) h = some (.bool (decide (i ∈ S))) := by
  rw [load1_eq, v.hT]
  show (T.map Value.bool)[i]? = _
  rw [List.getElem?_map, v.eT i hi]; rfl
theorem Tk.store {h : H} {t : Nat} {S : List Nat} {T : List Bool} (v : Tk h t S T) {i : Nat} (hi : i < 65536) (c : Bool) :
    A.store 1 (.pointer (some ⟨t, i, none⟩)) (.bool c) h = some (h.put t (.cells ((T.set i c).map Value.bool) (some 1))) := by
  have e : splice (T.map Value.bool) i [.bool c] = (T.set i c).map Value.bool := by
    rw [splice_one (by rw [List.length_map, v.lT]; exact hi), List.map_set]
  have hle : i + 1 ≤ T.length := by rw [v.lT]; omega
  simp [v.hT, e, hle]
theorem Tk.set {h : H} {t : Nat} {S : List Nat} {T : List Bool} (v : Tk h t S T) (h' : H) {i : Nat} (hi : i < 65536) {c : Bool} {S' : List Nat} (he : ∀ j, j < 65536 → decide (j ∈ S') = if j = i then c else decide (j ∈ S)) :
    Tk (h'.put t (.cells ((T.set i c).map Value.bool) (some 1))) t S' (T.set i c) := by
  refine ⟨by rw [H.get_put, if_pos rfl], by rw [List.length_set, v.lT], fun j hj => ?_⟩
  rw [List.getElem?_set, he j hj, v.lT]
  by_cases e : i = j
  · rw [if_pos e, if_pos (by omega), if_pos e.symm]
  · rw [if_neg e, v.eT j hj, if_neg (Ne.symm e)]

/-- The row that is handed in. -/
def InL (h0 : H) (x0 : Value) (l : List Nat) : Prop := SliceE 1 h0 x0 (l.map fun (x : Nat) => [Value.int .u16 (x : Int)]) ∧ ∀ x ∈ l, x < 65536

theorem InL.at {h0 : H} {x0 : Value} {l : List Nat} (s : InL h0 x0 l) {i : Nat} (hi : i < l.length) :
    ∃ a, A.idxS 1 x0 (.int .i64 (i : Int)) = some (.pointer (some a)) ∧ ∀ h, Ext h0 h → A.load false 1 (.pointer (some a)) h = some (.int .u16 (l[i] : Int)) := by
  obtain ⟨id, off, cells, own, g1, g2, g3, g4, g5, g6⟩ := s.1.at (i := i) (e := [.int .u16 (l[i] : Int)]) (by rw [List.getElem?_map, List.getElem?_eq_getElem hi]; rfl) .i64
  refine ⟨⟨id, off, none⟩, g1, fun h x => ?_⟩
  rw [load1_eq, x.get id g2, g3]
  exact g6 0 (by omega)

/-- What the law keeps, round by round. -/
structure Inv (h0 h : H) (p b t : Nat) (S : List Nat) (T : List Bool) : Prop where
  pool : PoolS h p b S
  tk : Tk h t S T
  tp : t ≠ p
  tb : t ≠ b
  np : h0.next ≤ p
  nb : h0.next ≤ b
  nT : h0.next ≤ t
  lt : t < h.next
  x : Ext h0 h
  z : 0 < h0.next

theorem ext_two {h0 h h' : H} {p b : Nat} (x : Ext h0 h) (y : ExtBut (Two p b) h h') (hp : h0.next ≤ p) (hb : h0.next ≤ b) : Ext h0 h' :=
  ⟨Nat.le_trans x.next y.next, fun id hid => by
    rw [y.get id (Nat.lt_of_lt_of_le hid x.next) (fun e => by rcases e with e | e <;> omega)]; exact x.get id hid⟩

theorem Inv.step {h0 h h' : H} {p b t : Nat} {S S' : List Nat} {T : List Bool} (v : Inv h0 h p b t S T) (r : PoolS h' p b S') (y : ExtBut (Two p b) h h') {i : Nat} (hi : i < 65536) {c : Bool}
    (he : ∀ j, j < 65536 → decide (j ∈ S') = if j = i then c else decide (j ∈ S)) : Inv h0 (h'.put t (.cells ((T.set i c).map Value.bool) (some 1))) p b t S' (T.set i c) := by
  have hz := v.z
  have hnT := v.nT
  refine ⟨?_, v.tk.set h' hi he, v.tp, v.tb, v.np, v.nb, v.nT, Nat.lt_of_lt_of_le v.lt y.next, (ext_two v.x y v.np v.nb).put _ _ v.nT, v.z⟩
  refine r.extBut (P := fun i => i = t) (ExtBut.put ⟨Nat.le_refl _, fun _ _ _ => rfl⟩ t _ rfl) ?_ ?_ ?_
  · intro e; omega
  · exact fun e => v.tp e.symm
  · exact fun e => v.tb e.symm

theorem free5 (k L : Nat) {β : Type} {h0 h : H} {p b t : Nat} {S : List Nat} {T : List Bool} {x0 : Value} {l : List Nat} (v : Inv h0 h p b t S T) (s : InL h0 x0 l) {i : Nat} (hi : i < l.length) (hz : l[i] ≠ 0)
    (hS : S.length ≤ 400) (kx1 : Value → Value → Value → Value → Value → H → Option β) (kr : Value → H → Option β) (kn : Value → Value → Value → Value → Value → H → Option β) :
    ∃ h' T', p5arrrrrlrborlbl (callB Tryd.prog 1 [] (k + 1026)) L (.int .i64 (S.length : Int)) (.int .i64 (i : Int)) (tv t) x0 (ptrV p) h kx1 kr kn =
        kx1 (.int .i64 (i : Int)) (tv t) x0 (ptrV p) (.int .i64 ((S.erase l[i]).length : Int)) h' ∧ Inv h0 h' p b t (S.erase l[i]) T' := by
  obtain ⟨a, g1, g2⟩ := s.at hi
  have hid : l[i] < 65536 := s.2 _ (List.getElem_mem hi)
  have e0 := g2 h v.x
  have hnz : decide ((l[i] : Int) = 0) = false := by rw [decide_eq_false_iff_not]; omega
  have ix := tv_idx t hid .u16
  have l0 := v.tk.load hid
  by_cases hin : l[i] ∈ S
  · obtain ⟨h1, e12, r1, y1, n1⟩ := T12 (k + 1023) v.pool hid hin
    have x1 := ext_two v.x y1 v.np v.nb
    have e1 := g2 h1 x1
    have t1 : Tk h1 t S T := ⟨by rw [y1.get t v.lt (fun e => by rcases e with e | e; exact v.tp e; exact v.tb e)]; exact v.tk.hT, v.tk.lT, v.tk.eT⟩
    have l1 := t1.load hid
    have st := t1.store hid false
    have v' := v.step r1 y1 hid (c := false) (fun j hj => by
      by_cases e : j = l[i]
      · rw [if_pos e, decide_eq_false_iff_not, v.pool.nd.mem_erase_iff]; exact fun h => h.1 e
      · rw [if_neg e, decide_eq_decide, v.pool.nd.mem_erase_iff]; exact ⟨fun h => h.2, fun h => ⟨e, h⟩⟩)
    have hpos : 0 < S.length := List.length_pos_of_mem hin
    have hw : IntKind.i64.wrap ((S.length : Int) - 1) = ((S.erase l[i]).length : Int) := by rw [wrap64 (by omega) (by omega), List.length_erase_of_mem hin]; omega
    refine ⟨_, _, ?_, v'⟩
    simp only [p5arrrrrlrborlbl, p5arrrrrlrborlbll, g1, bnd_some, e0, bin_neq, hnz, Bool.not_false, toBK_bool, p5arrrrrlrborlblr, condV_bool, cond_true, p5arrrrrlrborlblrt, p5arrrrrlrborlblrtl, e12, bnd2_some, e1, ix, l0, l1, hin, decide_true,
      bin_bool_neq Tryd.underlying4, Bool.not_true, cond_false, p5arrrrrlrborlblrtr, bin_sub, hw, st, chk, same]
    simp
  · have e12 := T12n (k + 1023) v.pool hid hin
    have st := v.tk.store hid false
    have he : S.erase l[i] = S := List.erase_of_not_mem hin
    have v' := v.step v.pool ⟨Nat.le_refl _, fun _ _ _ => rfl⟩ hid (c := false) (fun j hj => by
      by_cases e : j = l[i]
      · rw [if_pos e, decide_eq_false_iff_not, e]; exact hin
      · rw [if_neg e])
    rw [he]
    refine ⟨_, _, ?_, v'⟩
    simp only [p5arrrrrlrborlbl, p5arrrrrlrborlbll, g1, bnd_some, e0, bin_neq, hnz, Bool.not_false, toBK_bool, p5arrrrrlrborlblr, condV_bool, cond_true, p5arrrrrlrborlblrt, p5arrrrrlrborlblrtl, e12, bnd2_some, ix, l0, hin, decide_false,
      bin_bool_neq Tryd.underlying4, cond_false, p5arrrrrlrborlblrtr, st, chk, same]
    simp

/-- All lesser ones are looked at. -/
theorem loop5 (C : CF) (L : Nat) {β : Type} (kr : Value → H → Option β) (kx2 : Value → Value → Value → Value → Value → Value → H → Option β) (x5 x6 x0 x3 : Value) {h : H} {t : Nat} {S : List Nat} {T : List Bool} (v : Tk h t S T) {i0 : Nat} (h0 : i0 < 65536) :
    ∀ (d c m : Nat), c + d = i0 → d < m → (∀ i, c ≤ i → i < i0 → i ∈ S) →
      p5arrrrrlrborlbrrrlrbw C L kr kx2 m (.int .u16 (c : Int)) (.int .u16 (i0 : Int)) x5 x6 (tv t) x0 x3 h = kx2 (.int .u16 (i0 : Int)) x5 x6 (tv t) x0 x3 h := by
  intro d
  induction d with
  | zero =>
    intro c m hc hm hin
    obtain ⟨m, rfl⟩ : ∃ q, m = q + 1 := ⟨m - 1, by omega⟩
    have hd : decide ((c : Int) < (i0 : Int)) = false := by rw [decide_eq_false_iff_not]; omega
    simp only [p5arrrrrlrborlbrrrlrbw, p5arrrrrlrborlbrrrlrbo, bin_lss, bnd_some, hd, toBK_bool, cond_false]
  | succ d ih =>
    intro c m hc hm hin
    obtain ⟨m, rfl⟩ : ∃ q, m = q + 1 := ⟨m - 1, by omega⟩
    have hd : decide ((c : Int) < (i0 : Int)) = true := by rw [decide_eq_true_iff]; omega
    have ix := tv_idx t (i := c) (by omega) .u16
    have l0 := v.load (i := c) (by omega)
    have hw : IntKind.u16.wrap ((c : Int) + 1) = ((c + 1 : Nat) : Int) := by rw [IntWalk.u16_in _ ⟨by omega, by omega⟩]; omega
    simp only [p5arrrrrlrborlbrrrlrbw, p5arrrrrlrborlbrrrlrbo, bin_lss, bnd_some, hd, toBK_bool, cond_true, ix, l0, hin c (Nat.le_refl _) (by omega), decide_true, un_not, Bool.not_true, cond_false, bin_add, hw]
    exact ih (c + 1) m (by omega) (by omega) fun i h1 h2 => hin i (by omega) h2

theorem take5 (k L : Nat) (hL : 500 < L) {β : Type} {h0 h : H} {p b t : Nat} {S : List Nat} {T : List Bool} {x0 : Value} {l : List Nat} (v : Inv h0 h p b t S T) (s : InL h0 x0 l) {i : Nat} (hi : i < l.length) (hz : l[i] = 0)
    (hS : S.length ≤ 400) (kn : Value → Value → Value → Value → Value → H → Option β) (kr : Value → H → Option β) (kx1 : Value → Value → Value → Value → Value → H → Option β) :
    ∃ i0 h' T', p5arrrrrlrborlb (callB Tryd.prog 1 [] (k + 1026)) L (.int .i64 (S.length : Int)) (.int .i64 (i : Int)) (tv t) x0 (ptrV p) h kn kr kx1 =
        kn (.int .i64 (i : Int)) (tv t) x0 (ptrV p) (.int .i64 ((i0 :: S).length : Int)) h' ∧ Inv h0 h' p b t (i0 :: S) T' := by
  obtain ⟨a, g1, g2⟩ := s.at hi
  have e0 := g2 h v.x
  rw [hz] at e0
  obtain ⟨i0, h1, b1, b2, b3, b4, e10, r1, y1, n1⟩ := T10 k v.pool (by omega)
  have t1 : Tk h1 t S T := ⟨by rw [y1.get t v.lt (fun e => by rcases e with e | e; exact v.tp e; exact v.tb e)]; exact v.tk.hT, v.tk.lT, v.tk.eT⟩
  have hi0 : i0 < 65536 := by omega
  have ix := tv_idx t hi0 .u16
  have l1 := t1.load hi0
  have st := t1.store hi0 true
  have v' := v.step r1 y1 hi0 (c := true) (fun j hj => by
    by_cases e : j = i0
    · rw [if_pos e, e]; simp
    · rw [if_neg e, decide_eq_decide, List.mem_cons]; exact ⟨fun h => h.resolve_left e, .inr⟩)
  have d1 : decide ((i0 : Int) < 1) = false := by rw [decide_eq_false_iff_not]; omega
  have d2 : decide (((S.length + 1 : Nat) : Int) < (i0 : Int)) = false := by rw [decide_eq_false_iff_not]; omega
  have ec : A.conv Tryd.prog 25 3 (.int .u16 (i0 : Int)) = some (.int .i64 (i0 : Int)) := by
    have : A.conv Tryd.prog 25 3 (.int .u16 (i0 : Int)) = some (.int .i64 (IntKind.i64.wrap (i0 : Int))) := rfl
    rw [this, wrap_nat (by omega)]
  have hw := wrap_succ (n := S.length) (by omega)
  have lp := loop5 (callB Tryd.prog 1 [] (k + 1026)) L kr (fun x7 x5 x6 x4 x0 x3 h => p5arrrrrlrborlbrrrr (callB Tryd.prog 1 [] (k + 1026)) L x7 x5 x6 x4 x0 x3 h kn) (.int .i64 (S.length : Int)) (.int .i64 (i : Int)) x0 (ptrV p) t1 hi0
    (i0 - 1) 1 L (by omega) (by omega) (fun j h1 h2 => b4 j h1 h2)
  have ex0 : A.extract 0 (.tuple ⟨[.int .u16 (i0 : Int), .int .i64 0]⟩) = some (.int .u16 (i0 : Int)) := rfl
  have ex1 : A.extract 1 (.tuple ⟨[.int .u16 (i0 : Int), .int .i64 0]⟩) = some (.int .i64 0) := rfl
  have dz' : decide (((0 : Nat) : Int) = 0) = true := rfl
  refine ⟨i0, _, _, ?_, v'⟩
  simp only [p5arrrrrlrborlb, p5arrrrrlrborlbl, p5arrrrrlrborlbll, g1, bnd_some, e0, bin_neq, dz', Bool.not_true, toBK_bool, p5arrrrrlrborlblr, condV_bool, cond_false, p5arrrrrlrborlblrf, p5arrrrrlrborlbr, p5arrrrrlrborlbrl, e10, bnd2_some, ex0, ex1,
    p5arrrrrlrborlbrr, p5arrrrrlrborlbrrl, p5arrrrrlrborlbrrll, bin_lss, d1, ec, bin_add, hw, bin_gtr, d2, ix, l1, b3, decide_false, p5arrrrrlrborlbrrlr, p5arrrrrlrborlbrrr, p5arrrrrlrborlbrrrl, p5arrrrrlrborlbrrrll, p5arrrrrlrborlbrrrlr, p5arrrrrlrborlbrrrlrb]
  rw [show (Value.int .u16 1) = Value.int .u16 ((1 : Nat) : Int) from rfl, lp]
  simp only [p5arrrrrlrborlbrrrr, ix, bnd_some, st, bin_add, hw]
  rfl

/-- All rounds. -/
theorem main5 (k L : Nat) (hL : 500 < L) {β : Type} {h0 : H} {p b t : Nat} {x0 : Value} {l : List Nat} (s : InL h0 x0 l) (h400 : l.length ≤ 400) (kr : Value → H → Option β) (kx0 : Value → Value → H → Option β) :
    ∀ (d m i : Nat) (h : H) (S : List Nat) (T : List Bool), Inv h0 h p b t S T → i + d = l.length → d < m → S.length ≤ i →
      ∃ S' h' T', p5arrrrrlrbw (callB Tryd.prog 1 [] (k + 1026)) L kr kx0 m (.int .i64 (i : Int)) (tv t) x0 (ptrV p) (.int .i64 (S.length : Int)) h = kx0 (ptrV p) (.int .i64 (S'.length : Int)) h' ∧ Inv h0 h' p b t S' T' := by
  have hlen : A.lenS x0 = some (.int .i64 (l.length : Int)) := by
    have := s.1.len.1
    rw [List.length_map] at this
    exact this
  intro d
  induction d with
  | zero =>
    intro m i h S T v hi hm hS
    obtain ⟨m, rfl⟩ : ∃ q, m = q + 1 := ⟨m - 1, by omega⟩
    have hd : decide ((i : Int) < (l.length : Int)) = false := by rw [decide_eq_false_iff_not]; omega
    refine ⟨S, h, T, ?_, v⟩
    simp only [p5arrrrrlrbw, p5arrrrrlrbo, p5arrrrrlrbol, hlen, bnd_some, bin_lss, hd, toBK_bool, cond_false]
  | succ d ih =>
    intro m i h S T v hi hm hS
    obtain ⟨m, rfl⟩ : ∃ q, m = q + 1 := ⟨m - 1, by omega⟩
    have hd : decide ((i : Int) < (l.length : Int)) = true := by rw [decide_eq_true_iff]; omega
    have hil : i < l.length := by omega
    have hw := wrap_succ (n := i) (by omega)
    by_cases hz : l[i] = 0
    · obtain ⟨i0, h1, T1, e1, v1⟩ := take5 (β := β) k L hL v s hil hz (by omega)
        (fun x6 x4 x0 x3 x5 h => p5arrrrrlrborr (callB Tryd.prog 1 [] (k + 1026)) L x6 x4 x0 x3 x5 h (fun x6 x4 x0 x3 x5 h => p5arrrrrlrbw (callB Tryd.prog 1 [] (k + 1026)) L kr kx0 m x6 x4 x0 x3 x5 h)) kr
        (fun x6 x4 x0 x3 x5 h => p5arrrrrlrborr (callB Tryd.prog 1 [] (k + 1026)) L x6 x4 x0 x3 x5 h (fun x6 x4 x0 x3 x5 h => p5arrrrrlrbw (callB Tryd.prog 1 [] (k + 1026)) L kr kx0 m x6 x4 x0 x3 x5 h))
      obtain ⟨S', h', T', e2, v2⟩ := ih m (i + 1) h1 _ T1 v1 (by omega) (by omega) (by simp; omega)
      refine ⟨S', h', T', ?_, v2⟩
      simp only [p5arrrrrlrbw, p5arrrrrlrbo, p5arrrrrlrbol, hlen, bnd_some, bin_lss, hd, toBK_bool, cond_true, p5arrrrrlrbor, p5arrrrrlrborl]
      rw [e1]
      simp only [p5arrrrrlrborr, bin_add, bnd_some, hw]
      exact e2
    · obtain ⟨h1, T1, e1, v1⟩ := free5 (β := β) k L v s hil hz (by omega)
        (fun x6 x4 x0 x3 x5 h => p5arrrrrlrborr (callB Tryd.prog 1 [] (k + 1026)) L x6 x4 x0 x3 x5 h (fun x6 x4 x0 x3 x5 h => p5arrrrrlrbw (callB Tryd.prog 1 [] (k + 1026)) L kr kx0 m x6 x4 x0 x3 x5 h)) kr
        (fun x5 x6 x4 x0 x3 h => p5arrrrrlrborlbr (callB Tryd.prog 1 [] (k + 1026)) L x5 x6 x4 x0 x3 h
          (fun x6 x4 x0 x3 x5 h => p5arrrrrlrborr (callB Tryd.prog 1 [] (k + 1026)) L x6 x4 x0 x3 x5 h (fun x6 x4 x0 x3 x5 h => p5arrrrrlrbw (callB Tryd.prog 1 [] (k + 1026)) L kr kx0 m x6 x4 x0 x3 x5 h)) kr)
      obtain ⟨S', h', T', e2, v2⟩ := ih m (i + 1) h1 _ T1 v1 (by omega) (by omega) (by have := List.length_erase_le (a := l[i]) (l := S); omega)
      refine ⟨S', h', T', ?_, v2⟩
      simp only [p5arrrrrlrbw, p5arrrrrlrbo, p5arrrrrlrbol, hlen, bnd_some, bin_lss, hd, toBK_bool, cond_true, p5arrrrrlrbor, p5arrrrrlrborl, p5arrrrrlrborlb]
      rw [e1]
      simp only [p5arrrrrlrborr, bin_add, bnd_some, hw]
      exact e2

/-- The law, awake taken as told. -/
theorem law5 (k : Nat) {h0 : H} {x0 : Value} {l : List Nat} (s : InL h0 x0 l) (ht : TabAt h0) (hz : 0 < h0.next)
    (awake : ∀ h, TabAt h → 0 < h.next → ∃ h', callB Tryd.prog 1 [] (k + 1026) 15 [] h = some (.bool true, h')) :
    ∃ h', callB Tryd.prog 1 [] (k + 1027) 5 [x0] h0 = some (.bool true, h') := by
  have hlen : A.lenS x0 = some (.int .i64 (l.length : Int)) := by
    have := s.1.len.1
    rw [List.length_map] at this
    exact this
  rw [F5eq [] rfl]
  by_cases h4 : 400 < l.length
  · obtain ⟨h', e⟩ := awake h0 ht hz
    have hd : decide ((400 : Int) < (l.length : Int)) = true := by rw [decide_eq_true_iff]; omega
    refine ⟨h', ?_⟩
    simp only [F5, p5a, p5al, p5ar, p5arl, hlen, bnd_some, bin_gtr, hd, toBK_bool, cond_true, e, bnd2_some]
  · have hd : decide ((400 : Int) < (l.length : Int)) = false := by rw [decide_eq_false_iff_not]; omega
    obtain ⟨h1, e8, r1, x1, n1⟩ := T8 (k + 1025) ht hz
    have em : A.makeSlice 1 1 IdsF5.Z4L (.int .i64 65536) (.int .i64 65536) h1 = some (tv h1.next, h1.push (.cells (A.zeros IdsF5.Z4L 65536) (some 1))) := rfl
    have ez : A.zeros IdsF5.Z4L 65536 = (List.replicate 65536 false).map Value.bool := by
      rw [show IdsF5.Z4L = [Value.bool false] from rfl, zeros_one, List.map_replicate]
    rw [ez] at em
    obtain ⟨h2, hh2⟩ : ∃ h2, h2 = h1.push (.cells ((List.replicate 65536 false).map Value.bool) (some 1)) := ⟨_, rfl⟩
    rw [← hh2] at em
    have v : Inv h0 h2 (h0.next + 1) h0.next h1.next [] (List.replicate 65536 false) := by
      have xp : Ext h1 h2 := hh2 ▸ Ext.push h1 _
      refine ⟨r1.ext xp, ⟨by rw [hh2, H.get_push, if_pos rfl], List.length_replicate .., fun i hi => ?_⟩, by omega, by omega, by omega, by omega, by omega, ?_, x1.trans xp, hz⟩
      · rw [List.getElem?_replicate, if_pos hi]; simp
      · rw [hh2]; exact Nat.lt_succ_self _
    obtain ⟨S', h', T', e, v'⟩ := main5 k (k + 1026) (by omega) s (by omega) (fun x2 h => some (x2, h))
      (fun x3 x5 h => p5arrrrrr (callB Tryd.prog 1 [] (k + 1026)) (k + 1026) x3 x5 h (fun x2 h => some (x2, h))) l.length (k + 1026) 0 h2 [] _ v (by omega) (by omega) (by simp)
    obtain ⟨_, _, rp⟩ := v'.pool.pool
    obtain ⟨h'', e15⟩ := awake h' rp.tb (Nat.lt_of_lt_of_le hz v'.x.next)
    have e11 := T11 (k + 1024) v'.pool
    refine ⟨h'', ?_⟩
    simp only [F5, p5a, p5al, p5ar, p5arl, hlen, bnd_some, bin_gtr, hd, toBK_bool, cond_false, p5arr, p5arrl, e8, bnd2_some, p5arrr, p5arrrl, em, p5arrrr, p5arrrrl, p5arrrrr, p5arrrrrl, p5arrrrrll, p5arrrrrlr, p5arrrrrlrb]
    have e' := e
    simp only [List.length_nil] at e'
    rw [show (Value.int .i64 0) = Value.int .i64 ((0 : Nat) : Int) from rfl, e']
    simp only [p5arrrrrr, e11, bnd2_some, bin_eql, bnd_some, decide_true, toBK_bool, cond_true, e15]
end Go.Proofs.YtlhppeikbgolbaaDoor.IdsD
