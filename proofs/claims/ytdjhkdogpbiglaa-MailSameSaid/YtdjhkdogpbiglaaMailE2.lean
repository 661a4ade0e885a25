/-
  Mail: whether packets, messages, texts are the same: both texts of each function tell it.
-/
import Derived.Test.YtdjhkdogpbiglaaMailE1
namespace Go.Proofs.Ytdjhkdogpbiglaa.MailD
open Go Go.AM

theorem or_step {α : Type} {p q : Prop} [Decidable p] [Decidable q] {F : Bool → α} {rest : α} (hr : rest = F (!decide q)) : (bif !decide p then F true else rest) = F (!decide (p ∧ q)) := by
  subst hr
  by_cases hp : p <;> simp [hp]
theorem and_step {α : Type} {p q : Prop} [Decidable p] [Decidable q] {F : Bool → α} {rest : α} (hr : rest = F (decide q)) : (bif decide p then rest else F false) = F (decide (p ∧ q)) := by
  subst hr
  by_cases hp : p <;> simp [hp]

theorem load_of {h : H} {id off n : Nat} {cells e : List Value} {own : Option Nat} (e3 : h.get id = some (.cells cells own)) (e4 : off + n ≤ cells.length) (e5 : (cells.drop off).take n = e) : A.load true n (.pointer (some ⟨id, off, none⟩)) h = some (.agg ⟨e⟩) := by
  rw [loadN_eq, e3]
  have : Nat.ble (off + n) cells.length = true := by rw [ble_dec, decide_eq_true_iff]; exact e4
  simp only [this, cond_true, e5]

theorem all2_drop {α : Type} {R : α → α → Prop} {x y : List α} {i : Nat} {u v : α} (hx : x[i]? = some u) (hy : y[i]? = some v) : All2 R (x.drop i) (y.drop i) ↔ R u v ∧ All2 R (x.drop (i + 1)) (y.drop (i + 1)) := by
  have h1 : x.drop i = u :: x.drop (i + 1) := by
    obtain ⟨h, rfl⟩ := List.getElem?_eq_some_iff.1 hx
    exact List.drop_eq_getElem_cons h
  have h2 : y.drop i = v :: y.drop (i + 1) := by
    obtain ⟨h, rfl⟩ := List.getElem?_eq_some_iff.1 hy
    exact List.drop_eq_getElem_cons h
  rw [h1, h2]
  constructor
  · intro h
    exact ⟨h.2 0 _ _ rfl rfl, ⟨by have := h.1; simpa using this, fun j a b ha hb => h.2 (j + 1) a b (by simpa using ha) (by simpa using hb)⟩⟩
  · rintro ⟨h, t⟩
    exact .cons h t
theorem all2_eq {α : Type} {x y : List α} : All2 Eq x y ↔ x = y := by
  constructor
  · intro h
    apply List.ext_getElem?
    intro i
    by_cases hi : i < x.length
    · have hy : i < y.length := by have := h.1; omega
      rw [List.getElem?_eq_getElem hi, List.getElem?_eq_getElem hy]
      exact congrArg some (h.2 i _ _ (List.getElem?_eq_getElem hi) (List.getElem?_eq_getElem hy))
    · have hy : ¬ i < y.length := by have := h.1; omega
      rw [List.getElem?_eq_none_iff.2 (by omega), List.getElem?_eq_none_iff.2 (by omega)]
  · rintro rfl
    exact All2.refl (fun _ => rfl) x

theorem int_beq (a b : Int) : (a == b) = decide (a = b) := rfl
theorem bool_beq (a b : Bool) : (a == b) = decide (a = b) := by cases a <;> cases b <;> rfl

theorem msg_eqv (a b a' b' : ByteArray) (c c' : Int) (d d' : Bool) : A.eqV Try.prog 20 63 (.agg ⟨[.string a, .string b, .int .u8 c, .bool d]⟩) (.agg ⟨[.string a', .string b', .int .u8 c', .bool d']⟩) =
    some (decide (a = a' ∧ b = b' ∧ c = c' ∧ d = d')) := by
  have e : A.eqV Try.prog 20 63 (.agg ⟨[.string a, .string b, .int .u8 c, .bool d]⟩) (.agg ⟨[.string a', .string b', .int .u8 c', .bool d']⟩) =
    (bif (a.data.toList == a'.data.toList) then (bif (b.data.toList == b'.data.toList) then (bif (c == c') then (bif (d == d') then some true else some false) else some false) else some false) else some false) := by kernel_rfl
  rw [e]
  simp only [bytes_beq, int_beq, bool_beq]
  refine and_step (F := some) (and_step (F := some) (and_step (F := some) ?_))
  cases decide (d = d') <;> rfl
theorem msg_conj (m m' : MsD) : (m.t = m'.t ∧ m.p = m'.p ∧ m.q = m'.q ∧ m.r = m'.r) ↔ m = m' := by
  cases m; cases m'; simp
theorem msg_neq (m m' : MsD) : A.bin Try.prog .neq 63 (.agg ⟨m.cells⟩) (.agg ⟨m'.cells⟩) = some (.bool (!decide (m = m'))) := by
  rw [show decide (m = m') = decide (m.t = m'.t ∧ m.p = m'.p ∧ m.q = m'.q ∧ m.r = m'.r) from decide_eq_decide.2 (msg_conj m m').symm]
  exact bin_agg_neq rfl rfl (by kernel_rfl) (msg_eqv ..)
theorem msg_eql (m m' : MsD) : A.bin Try.prog .eql 63 (.agg ⟨m.cells⟩) (.agg ⟨m'.cells⟩) = some (.bool (decide (m = m'))) := by
  rw [show decide (m = m') = decide (m.t = m'.t ∧ m.p = m'.p ∧ m.q = m'.q ∧ m.r = m'.r) from decide_eq_decide.2 (msg_conj m m').symm]
  exact bin_agg_eql rfl rfl (by kernel_rfl) (msg_eqv ..)
theorem msg4_neq (a b a' b' : ByteArray) (c c' : Int) (d d' : Bool) : A.bin Try.prog .neq 63 (.agg ⟨[.string a, .string b, .int .u8 c, .bool d]⟩) (.agg ⟨[.string a', .string b', .int .u8 c', .bool d']⟩) = some (.bool (!decide (a = a' ∧ b = b' ∧ c = c' ∧ d = d'))) :=
  bin_agg_neq rfl rfl (by kernel_rfl) (msg_eqv ..)
theorem sub_neq (m m' : SbD) : A.bin Try.prog .neq 75 (.agg ⟨sbC m⟩) (.agg ⟨sbC m'⟩) = some (.bool (!decide (m = m'))) := by
  have e : A.eqV Try.prog 20 75 (.agg ⟨sbC m⟩) (.agg ⟨sbC m'⟩) = (bif (m.1.data.toList == m'.1.data.toList) then (bif (m.2 == m'.2) then some true else some false) else some false) := by kernel_rfl
  refine bin_agg_neq rfl rfl (by kernel_rfl) ?_
  rw [e]
  simp only [bytes_beq, int_beq]
  rw [show decide (m = m') = decide (m.1 = m'.1 ∧ m.2 = m'.2) from decide_eq_decide.2 (by obtain ⟨a, b⟩ := m; obtain ⟨c, d⟩ := m'; simp)]
  refine and_step (F := some) ?_
  cases decide (m.2 = m'.2) <;> rfl

/-- Two packets are the same but for their notes. -/
def EqP (f g : PkF) : Prop := f.i 0 = g.i 0 ∧ f.b 1 = g.b 1 ∧ f.i 2 = g.i 2 ∧ f.b 3 = g.b 3 ∧ f.i 4 = g.i 4 ∧ f.s 5 = g.s 5 ∧ f.s 6 = g.s 6 ∧ f.i 7 = g.i 7 ∧ f.b 8 = g.b 8 ∧ f.i 9 = g.i 9 ∧ f.s 10 = g.s 10 ∧ f.b 11 = g.b 11 ∧ f.s 12 = g.s 12 ∧ f.s 13 = g.s 13 ∧ f.i 14 = g.i 14 ∧ f.b 15 = g.b 15 ∧ f.b 16 = g.b 16 ∧ f.b 17 = g.b 17 ∧ f.s 18 = g.s 18 ∧ f.s 19 = g.s 19 ∧ f.b 20 = g.b 20 ∧ f.i 21 = g.i 21 ∧ f.s 23 = g.s 23
instance (f g : PkF) : Decidable (EqP f g) := by unfold EqP; infer_instance
theorem sameP_iff (p q : PkD) : SameP p q ↔ EqP p.f q.f ∧ p.subs = q.subs := Iff.rfl

theorem ld_pk {h : H} {t : Nat} {f : PkF} {o : Option Nat} (hg : h.get t = some (.cells f.cells o)) {i : Nat} {v : Value} (hv : f.cells[i]? = some v) : A.load false 1 (.pointer (some ⟨t, i, none⟩)) h = some v := by
  rw [load1_eq, hg]; exact hv
theorem ld_will {h : H} {t : Nat} {f : PkF} {o : Option Nat} (hg : h.get t = some (.cells f.cells o)) : A.load true 4 (.pointer (some ⟨t, 12, none⟩)) h = some (.agg ⟨[.string (f.s 12), .string (f.s 13), .int .u8 (f.i 14), .bool (f.b 15)]⟩) := by
  rw [loadN_eq, hg]; rfl
theorem ld_all {h : H} {t : Nat} {f : PkF} {o : Option Nat} (hg : h.get t = some (.cells f.cells o)) : A.load true 24 (.pointer (some ⟨t, 0, none⟩)) h = some (.agg ⟨f.cells⟩) := by
  rw [loadN_eq, hg]; rfl
theorem H47a (C : CF) (L : Nat) {β : Type} {h : H} {t2 t3 : Nat} {f g : PkF} {o2 o3 : Option Nat} (h2 : h.get t2 = some (.cells f.cells o2)) (h3 : h.get t3 = some (.cells g.cells o3)) (kn : Value → Value → Value → H → Option β) : MailD7.p47arll C L (ptrV t3) (ptrV t2) h kn = kn (.bool (!decide (f.i 0 = g.i 0 ∧ f.b 1 = g.b 1 ∧ f.i 2 = g.i 2 ∧ f.b 3 = g.b 3 ∧ f.i 4 = g.i 4 ∧ f.s 5 = g.s 5 ∧ f.s 6 = g.s 6 ∧ f.i 7 = g.i 7 ∧ f.b 8 = g.b 8 ∧ f.i 9 = g.i 9 ∧ f.s 10 = g.s 10))) (ptrV t3) (ptrV t2) h := by
  have a0 := ld_pk h2 (i := 0) (v := .int .u8 (f.i 0)) rfl
  have b0 := ld_pk h3 (i := 0) (v := .int .u8 (g.i 0)) rfl
  have a1 := ld_pk h2 (i := 1) (v := .bool (f.b 1)) rfl
  have b1 := ld_pk h3 (i := 1) (v := .bool (g.b 1)) rfl
  have a2 := ld_pk h2 (i := 2) (v := .int .u8 (f.i 2)) rfl
  have b2 := ld_pk h3 (i := 2) (v := .int .u8 (g.i 2)) rfl
  have a3 := ld_pk h2 (i := 3) (v := .bool (f.b 3)) rfl
  have b3 := ld_pk h3 (i := 3) (v := .bool (g.b 3)) rfl
  have a4 := ld_pk h2 (i := 4) (v := .int .u16 (f.i 4)) rfl
  have b4 := ld_pk h3 (i := 4) (v := .int .u16 (g.i 4)) rfl
  have a5 := ld_pk h2 (i := 5) (v := .string (f.s 5)) rfl
  have b5 := ld_pk h3 (i := 5) (v := .string (g.s 5)) rfl
  have a6 := ld_pk h2 (i := 6) (v := .string (f.s 6)) rfl
  have b6 := ld_pk h3 (i := 6) (v := .string (g.s 6)) rfl
  have a7 := ld_pk h2 (i := 7) (v := .int .u8 (f.i 7)) rfl
  have b7 := ld_pk h3 (i := 7) (v := .int .u8 (g.i 7)) rfl
  have a8 := ld_pk h2 (i := 8) (v := .bool (f.b 8)) rfl
  have b8 := ld_pk h3 (i := 8) (v := .bool (g.b 8)) rfl
  have a9 := ld_pk h2 (i := 9) (v := .int .u16 (f.i 9)) rfl
  have b9 := ld_pk h3 (i := 9) (v := .int .u16 (g.i 9)) rfl
  have a10 := ld_pk h2 (i := 10) (v := .string (f.s 10)) rfl
  have b10 := ld_pk h3 (i := 10) (v := .string (g.s 10)) rfl
  simp only [MailD7.p47arll, fieldAddr_eq, Nat.zero_add, bnd_some, toBK_bool, bin_neq, bin_str_neq, bin_bool_neq Try.underlying4, a0, b0, a1, b1, a2, b2, a3, b3, a4, b4, a5, b5, a6, b6, a7, b7, a8, b8, a9, b9, a10, b10]
  exact or_step (F := fun b => kn (.bool b) (ptrV t3) (ptrV t2) h) (or_step (F := fun b => kn (.bool b) (ptrV t3) (ptrV t2) h) (or_step (F := fun b => kn (.bool b) (ptrV t3) (ptrV t2) h) (or_step (F := fun b => kn (.bool b) (ptrV t3) (ptrV t2) h) (or_step (F := fun b => kn (.bool b) (ptrV t3) (ptrV t2) h) (or_step (F := fun b => kn (.bool b) (ptrV t3) (ptrV t2) h) (or_step (F := fun b => kn (.bool b) (ptrV t3) (ptrV t2) h) (or_step (F := fun b => kn (.bool b) (ptrV t3) (ptrV t2) h) (or_step (F := fun b => kn (.bool b) (ptrV t3) (ptrV t2) h) (or_step (F := fun b => kn (.bool b) (ptrV t3) (ptrV t2) h) (rfl))))))))))
theorem H47b (C : CF) (L : Nat) {β : Type} {h : H} {t2 t3 : Nat} {f g : PkF} {o2 o3 : Option Nat} (h2 : h.get t2 = some (.cells f.cells o2)) (h3 : h.get t3 = some (.cells g.cells o3)) {ef eg : Nat} (lf : A.lenS f.w = some (.int .i64 (ef : Int))) (lg : A.lenS g.w = some (.int .i64 (eg : Int))) (kn : Value → Value → Value → H → Option β) : MailD7.p47arrll C L (ptrV t3) (ptrV t2) h kn = kn (.bool (!decide (f.b 11 = g.b 11 ∧ (f.s 12 = g.s 12 ∧ f.s 13 = g.s 13 ∧ f.i 14 = g.i 14 ∧ f.b 15 = g.b 15) ∧ f.b 16 = g.b 16 ∧ f.b 17 = g.b 17 ∧ f.s 18 = g.s 18 ∧ f.s 19 = g.s 19 ∧ f.b 20 = g.b 20 ∧ f.i 21 = g.i 21 ∧ f.s 23 = g.s 23 ∧ ((ef : Int) = (eg : Int))))) (ptrV t3) (ptrV t2) h := by
  have a11 := ld_pk h2 (i := 11) (v := .bool (f.b 11)) rfl
  have b11 := ld_pk h3 (i := 11) (v := .bool (g.b 11)) rfl
  have a16 := ld_pk h2 (i := 16) (v := .bool (f.b 16)) rfl
  have b16 := ld_pk h3 (i := 16) (v := .bool (g.b 16)) rfl
  have a17 := ld_pk h2 (i := 17) (v := .bool (f.b 17)) rfl
  have b17 := ld_pk h3 (i := 17) (v := .bool (g.b 17)) rfl
  have a18 := ld_pk h2 (i := 18) (v := .string (f.s 18)) rfl
  have b18 := ld_pk h3 (i := 18) (v := .string (g.s 18)) rfl
  have a19 := ld_pk h2 (i := 19) (v := .string (f.s 19)) rfl
  have b19 := ld_pk h3 (i := 19) (v := .string (g.s 19)) rfl
  have a20 := ld_pk h2 (i := 20) (v := .bool (f.b 20)) rfl
  have b20 := ld_pk h3 (i := 20) (v := .bool (g.b 20)) rfl
  have a21 := ld_pk h2 (i := 21) (v := .int .u8 (f.i 21)) rfl
  have b21 := ld_pk h3 (i := 21) (v := .int .u8 (g.i 21)) rfl
  have a23 := ld_pk h2 (i := 23) (v := .string (f.s 23)) rfl
  have b23 := ld_pk h3 (i := 23) (v := .string (g.s 23)) rfl
  have a22 := ld_pk h2 (i := 22) (v := f.w) rfl
  have b22 := ld_pk h3 (i := 22) (v := g.w) rfl
  have aw := ld_will h2
  have bw := ld_will h3
  simp only [MailD7.p47arrll, fieldAddr_eq, Nat.zero_add, bnd_some, toBK_bool, msg4_neq, lf, lg, aw, bw, bin_neq, bin_str_neq, bin_bool_neq Try.underlying4, a11, b11, a16, b16, a17, b17, a18, b18, a19, b19, a20, b20, a21, b21, a23, b23, a22, b22]
  exact or_step (F := fun b => kn (.bool b) (ptrV t3) (ptrV t2) h) (or_step (F := fun b => kn (.bool b) (ptrV t3) (ptrV t2) h) (or_step (F := fun b => kn (.bool b) (ptrV t3) (ptrV t2) h) (or_step (F := fun b => kn (.bool b) (ptrV t3) (ptrV t2) h) (or_step (F := fun b => kn (.bool b) (ptrV t3) (ptrV t2) h) (or_step (F := fun b => kn (.bool b) (ptrV t3) (ptrV t2) h) (or_step (F := fun b => kn (.bool b) (ptrV t3) (ptrV t2) h) (or_step (F := fun b => kn (.bool b) (ptrV t3) (ptrV t2) h) (or_step (F := fun b => kn (.bool b) (ptrV t3) (ptrV t2) h) (rfl)))))))))

theorem lp48 (C : CF) (L : Nat) {β : Type} (kr : Value → H → Option β) (kx : H → Option β) {h : H} {a b : Value} {x y : List (MsD)} (sa : SliceE 4 h a (x.map (MsD.cells))) (sb : SliceE 4 h b (y.map (MsD.cells))) (hl : x.length = y.length) (hx : x.length ≤ 1000) :
    ∀ (d i m : Nat), i + d = x.length → d < m → MailD7.p48arrlrbw C L kr kx m (.int .i64 (i : Int)) b a h = bif decide (All2 Eq (x.drop i) (y.drop i)) then kx h else kr (.bool false) h := by
  have hlen : A.lenS a = some (.int .i64 (x.length : Int)) := by have := sa.len.1; rwa [List.length_map] at this
  intro d
  induction d with
  | zero =>
    intro i m hi hm
    obtain ⟨m, rfl⟩ : ∃ q, m = q + 1 := ⟨m - 1, by omega⟩
    have hd : decide ((i : Int) < (x.length : Int)) = false := by rw [decide_eq_false_iff_not]; omega
    have ha : decide (All2 Eq (x.drop i) (y.drop i)) = true := by rw [decide_eq_true_iff, List.drop_eq_nil_of_le (by omega), List.drop_eq_nil_of_le (by omega)]; exact All2.nil
    simp only [MailD7.p48arrlrbw, MailD7.p48arrlrbo, hlen, bnd_some, bin_lss, hd, toBK_bool, condV_bool, cond_false, ha, cond_true]
  | succ d ih =>
    intro i m hi hm
    obtain ⟨m, rfl⟩ : ∃ q, m = q + 1 := ⟨m - 1, by omega⟩
    have hd : decide ((i : Int) < (x.length : Int)) = true := by rw [decide_eq_true_iff]; omega
    have hwr : IntKind.i64.wrap ((i : Int) + 1) = ((i + 1 : Nat) : Int) := wrap_succ (by omega)
    obtain ⟨u, hu⟩ : ∃ u, x[i]? = some u := ⟨_, List.getElem?_eq_getElem (by omega)⟩
    obtain ⟨v, hv⟩ : ∃ v, y[i]? = some v := ⟨_, List.getElem?_eq_getElem (by omega)⟩
    obtain ⟨id1, off1, cells1, own1, e11, _, e31, e41, e51, e61⟩ := sa.at (e := (MsD.cells) u) (by rw [List.getElem?_map, hu]; rfl) .i64
    have l1 : A.load true 4 (.pointer (some ⟨id1, off1, none⟩)) h = some (.agg ⟨MsD.cells u⟩) := load_of e31 e41 e51
    obtain ⟨id2, off2, cells2, own2, e12, _, e32, e42, e52, e62⟩ := sb.at (e := (MsD.cells) v) (by rw [List.getElem?_map, hv]; rfl) .i64
    have l2 : A.load true 4 (.pointer (some ⟨id2, off2, none⟩)) h = some (.agg ⟨MsD.cells v⟩) := load_of e32 e42 e52
    have hA := all2_drop (R := Eq) hu hv
    by_cases c : u = v
    · have hA2 : decide (All2 Eq (x.drop i) (y.drop i)) = decide (All2 Eq (x.drop (i + 1)) (y.drop (i + 1))) := decide_eq_decide.2 (by rw [hA]; simp [c])
      have c2 : (!decide (u = v)) = false := by simp [c]
      simp only [MailD7.p48arrlrbw, MailD7.p48arrlrbo, hlen, bnd_some, bin_lss, hd, toBK_bool, condV_bool, cond_true, cond_false, e11, e12, l1, l2, msg_neq, c2, bin_add, hwr, hA2]
      exact ih (i + 1) m (by omega) (by omega)
    · have hA2 : decide (All2 Eq (x.drop i) (y.drop i)) = false := by rw [decide_eq_false_iff_not, hA]; exact fun h => c h.1
      have c2 : (!decide (u = v)) = true := by simp [c]
      simp only [MailD7.p48arrlrbw, MailD7.p48arrlrbo, hlen, bnd_some, bin_lss, hd, toBK_bool, condV_bool, cond_true, cond_false, e11, e12, l1, l2, msg_neq, c2, hA2]

theorem lp51 (C : CF) (L : Nat) {β : Type} (kr : Value → H → Option β) (kx : H → Option β) {h : H} {a b : Value} {x y : List (MsD)} (sa : SliceE 4 h a (x.map (MsD.cells))) (sb : SliceE 4 h b (y.map (MsD.cells))) (hl : x.length = y.length) (hx : x.length ≤ 1000) :
    ∀ (d i m : Nat), i + d = x.length → d < m → MailD7.p51arrlrbw C L kr kx m (.int .i64 (x.length : Int)) (.int .i64 (i : Int)) b a h = bif decide (All2 Eq (x.drop i) (y.drop i)) then kx h else kr (.bool false) h := by
  have hlen : A.lenS a = some (.int .i64 (x.length : Int)) := by have := sa.len.1; rwa [List.length_map] at this
  intro d
  induction d with
  | zero =>
    intro i m hi hm
    obtain ⟨m, rfl⟩ : ∃ q, m = q + 1 := ⟨m - 1, by omega⟩
    have hd : decide ((i : Int) < (x.length : Int)) = false := by rw [decide_eq_false_iff_not]; omega
    have ha : decide (All2 Eq (x.drop i) (y.drop i)) = true := by rw [decide_eq_true_iff, List.drop_eq_nil_of_le (by omega), List.drop_eq_nil_of_le (by omega)]; exact All2.nil
    simp only [MailD7.p51arrlrbw, MailD7.p51arrlrbo, bnd_some, bin_lss, hd, toBK_bool, condV_bool, cond_false, ha, cond_true]
  | succ d ih =>
    intro i m hi hm
    obtain ⟨m, rfl⟩ : ∃ q, m = q + 1 := ⟨m - 1, by omega⟩
    have hd : decide ((i : Int) < (x.length : Int)) = true := by rw [decide_eq_true_iff]; omega
    have hwr : IntKind.i64.wrap ((i : Int) + 1) = ((i + 1 : Nat) : Int) := wrap_succ (by omega)
    obtain ⟨u, hu⟩ : ∃ u, x[i]? = some u := ⟨_, List.getElem?_eq_getElem (by omega)⟩
    obtain ⟨v, hv⟩ : ∃ v, y[i]? = some v := ⟨_, List.getElem?_eq_getElem (by omega)⟩
    obtain ⟨id1, off1, cells1, own1, e11, _, e31, e41, e51, e61⟩ := sa.at (e := (MsD.cells) u) (by rw [List.getElem?_map, hu]; rfl) .i64
    have l1 : A.load true 4 (.pointer (some ⟨id1, off1, none⟩)) h = some (.agg ⟨MsD.cells u⟩) := load_of e31 e41 e51
    obtain ⟨id2, off2, cells2, own2, e12, _, e32, e42, e52, e62⟩ := sb.at (e := (MsD.cells) v) (by rw [List.getElem?_map, hv]; rfl) .i64
    have l2 : A.load true 4 (.pointer (some ⟨id2, off2, none⟩)) h = some (.agg ⟨MsD.cells v⟩) := load_of e32 e42 e52
    have hA := all2_drop (R := Eq) hu hv
    by_cases c : u = v
    · have hA2 : decide (All2 Eq (x.drop i) (y.drop i)) = decide (All2 Eq (x.drop (i + 1)) (y.drop (i + 1))) := decide_eq_decide.2 (by rw [hA]; simp [c])
      have c2 : (!decide (u = v)) = false := by simp [c]
      simp only [MailD7.p51arrlrbw, MailD7.p51arrlrbo, bnd_some, bin_lss, hd, toBK_bool, condV_bool, cond_true, cond_false, e11, e12, l1, l2, msg_neq, c2, bin_add, hwr, hA2]
      exact ih (i + 1) m (by omega) (by omega)
    · have hA2 : decide (All2 Eq (x.drop i) (y.drop i)) = false := by rw [decide_eq_false_iff_not, hA]; exact fun h => c h.1
      have c2 : (!decide (u = v)) = true := by simp [c]
      simp only [MailD7.p51arrlrbw, MailD7.p51arrlrbo, bnd_some, bin_lss, hd, toBK_bool, condV_bool, cond_true, cond_false, e11, e12, l1, l2, msg_neq, c2, hA2]

theorem lp52 (C : CF) (L : Nat) {β : Type} (kr : Value → H → Option β) (kx : H → Option β) {h : H} {a b : Value} {x y : List (ByteArray)} (sa : SliceE 1 h a (x.map (txC))) (sb : SliceE 1 h b (y.map (txC))) (hl : x.length = y.length) (hx : x.length ≤ 1000) :
    ∀ (d i m : Nat), i + d = x.length → d < m → MailD7.p52arrlrbw C L kr kx m (.int .i64 (x.length : Int)) (.int .i64 (i : Int)) b a h = bif decide (All2 Eq (x.drop i) (y.drop i)) then kx h else kr (.bool false) h := by
  have hlen : A.lenS a = some (.int .i64 (x.length : Int)) := by have := sa.len.1; rwa [List.length_map] at this
  intro d
  induction d with
  | zero =>
    intro i m hi hm
    obtain ⟨m, rfl⟩ : ∃ q, m = q + 1 := ⟨m - 1, by omega⟩
    have hd : decide ((i : Int) < (x.length : Int)) = false := by rw [decide_eq_false_iff_not]; omega
    have ha : decide (All2 Eq (x.drop i) (y.drop i)) = true := by rw [decide_eq_true_iff, List.drop_eq_nil_of_le (by omega), List.drop_eq_nil_of_le (by omega)]; exact All2.nil
    simp only [MailD7.p52arrlrbw, MailD7.p52arrlrbo, bnd_some, bin_lss, hd, toBK_bool, condV_bool, cond_false, ha, cond_true]
  | succ d ih =>
    intro i m hi hm
    obtain ⟨m, rfl⟩ : ∃ q, m = q + 1 := ⟨m - 1, by omega⟩
    have hd : decide ((i : Int) < (x.length : Int)) = true := by rw [decide_eq_true_iff]; omega
    have hwr : IntKind.i64.wrap ((i : Int) + 1) = ((i + 1 : Nat) : Int) := wrap_succ (by omega)
    obtain ⟨u, hu⟩ : ∃ u, x[i]? = some u := ⟨_, List.getElem?_eq_getElem (by omega)⟩
    obtain ⟨v, hv⟩ : ∃ v, y[i]? = some v := ⟨_, List.getElem?_eq_getElem (by omega)⟩
    obtain ⟨id1, off1, cells1, own1, e11, _, e31, e41, e51, e61⟩ := sa.at (e := (txC) u) (by rw [List.getElem?_map, hu]; rfl) .i64
    have l1 : A.load false 1 (.pointer (some ⟨id1, off1, none⟩)) h = some (.string u) := by rw [load1_eq, e31]; exact e61 0 (by omega)
    obtain ⟨id2, off2, cells2, own2, e12, _, e32, e42, e52, e62⟩ := sb.at (e := (txC) v) (by rw [List.getElem?_map, hv]; rfl) .i64
    have l2 : A.load false 1 (.pointer (some ⟨id2, off2, none⟩)) h = some (.string v) := by rw [load1_eq, e32]; exact e62 0 (by omega)
    have hA := all2_drop (R := Eq) hu hv
    by_cases c : u = v
    · have hA2 : decide (All2 Eq (x.drop i) (y.drop i)) = decide (All2 Eq (x.drop (i + 1)) (y.drop (i + 1))) := decide_eq_decide.2 (by rw [hA]; simp [c])
      have c2 : (!decide (u = v)) = false := by simp [c]
      simp only [MailD7.p52arrlrbw, MailD7.p52arrlrbo, bnd_some, bin_lss, hd, toBK_bool, condV_bool, cond_true, cond_false, e11, e12, l1, l2, bin_str_neq, c2, bin_add, hwr, hA2]
      exact ih (i + 1) m (by omega) (by omega)
    · have hA2 : decide (All2 Eq (x.drop i) (y.drop i)) = false := by rw [decide_eq_false_iff_not, hA]; exact fun h => c h.1
      have c2 : (!decide (u = v)) = true := by simp [c]
      simp only [MailD7.p52arrlrbw, MailD7.p52arrlrbo, bnd_some, bin_lss, hd, toBK_bool, condV_bool, cond_true, cond_false, e11, e12, l1, l2, bin_str_neq, c2, hA2]

theorem lp47 (C : CF) (L : Nat) {β : Type} (kr : Value → H → Option β) (kx : H → Option β) {h : H} {t2 t3 : Nat} {a b : Value} (ga : A.load false 1 (.pointer (some ⟨t2, 22, none⟩)) h = some a) (gb : A.load false 1 (.pointer (some ⟨t3, 22, none⟩)) h = some b) {x y : List (SbD)} (sa : SliceE 2 h a (x.map (sbC))) (sb : SliceE 2 h b (y.map (sbC))) (hl : x.length = y.length) (hx : x.length ≤ 1000) :
    ∀ (d i m : Nat), i + d = x.length → d < m → MailD7.p47arrrlrbw C L kr kx m (.int .i64 (i : Int)) (ptrV t3) (ptrV t2) h = bif decide (All2 Eq (x.drop i) (y.drop i)) then kx h else kr (.bool false) h := by
  have hlen : A.lenS a = some (.int .i64 (x.length : Int)) := by have := sa.len.1; rwa [List.length_map] at this
  intro d
  induction d with
  | zero =>
    intro i m hi hm
    obtain ⟨m, rfl⟩ : ∃ q, m = q + 1 := ⟨m - 1, by omega⟩
    have hd : decide ((i : Int) < (x.length : Int)) = false := by rw [decide_eq_false_iff_not]; omega
    have ha : decide (All2 Eq (x.drop i) (y.drop i)) = true := by rw [decide_eq_true_iff, List.drop_eq_nil_of_le (by omega), List.drop_eq_nil_of_le (by omega)]; exact All2.nil
    simp only [MailD7.p47arrrlrbw, MailD7.p47arrrlrbo, fieldAddr_eq, Nat.zero_add, ga, gb, hlen, bnd_some, bin_lss, hd, toBK_bool, condV_bool, cond_false, ha, cond_true]
  | succ d ih =>
    intro i m hi hm
    obtain ⟨m, rfl⟩ : ∃ q, m = q + 1 := ⟨m - 1, by omega⟩
    have hd : decide ((i : Int) < (x.length : Int)) = true := by rw [decide_eq_true_iff]; omega
    have hwr : IntKind.i64.wrap ((i : Int) + 1) = ((i + 1 : Nat) : Int) := wrap_succ (by omega)
    obtain ⟨u, hu⟩ : ∃ u, x[i]? = some u := ⟨_, List.getElem?_eq_getElem (by omega)⟩
    obtain ⟨v, hv⟩ : ∃ v, y[i]? = some v := ⟨_, List.getElem?_eq_getElem (by omega)⟩
    obtain ⟨id1, off1, cells1, own1, e11, _, e31, e41, e51, e61⟩ := sa.at (e := (sbC) u) (by rw [List.getElem?_map, hu]; rfl) .i64
    have l1 : A.load true 2 (.pointer (some ⟨id1, off1, none⟩)) h = some (.agg ⟨sbC u⟩) := load_of e31 e41 e51
    obtain ⟨id2, off2, cells2, own2, e12, _, e32, e42, e52, e62⟩ := sb.at (e := (sbC) v) (by rw [List.getElem?_map, hv]; rfl) .i64
    have l2 : A.load true 2 (.pointer (some ⟨id2, off2, none⟩)) h = some (.agg ⟨sbC v⟩) := load_of e32 e42 e52
    have hA := all2_drop (R := Eq) hu hv
    by_cases c : u = v
    · have hA2 : decide (All2 Eq (x.drop i) (y.drop i)) = decide (All2 Eq (x.drop (i + 1)) (y.drop (i + 1))) := decide_eq_decide.2 (by rw [hA]; simp [c])
      have c2 : (!decide (u = v)) = false := by simp [c]
      simp only [MailD7.p47arrrlrbw, MailD7.p47arrrlrbo, fieldAddr_eq, Nat.zero_add, ga, gb, hlen, bnd_some, bin_lss, hd, toBK_bool, condV_bool, cond_true, cond_false, e11, e12, l1, l2, sub_neq, c2, bin_add, hwr, hA2]
      exact ih (i + 1) m (by omega) (by omega)
    · have hA2 : decide (All2 Eq (x.drop i) (y.drop i)) = false := by rw [decide_eq_false_iff_not, hA]; exact fun h => c h.1
      have c2 : (!decide (u = v)) = true := by simp [c]
      simp only [MailD7.p47arrrlrbw, MailD7.p47arrrlrbo, fieldAddr_eq, Nat.zero_add, ga, gb, hlen, bnd_some, bin_lss, hd, toBK_bool, condV_bool, cond_true, cond_false, e11, e12, l1, l2, sub_neq, c2, hA2]

theorem lp38 (C : CF) (L : Nat) {β : Type} (kr : Value → H → Option β) (kx : Value → Value → H → Option β) {h : H} {t2 t3 : Nat} {a b : Value} (ga : A.load false 1 (.pointer (some ⟨t2, 34, none⟩)) h = some a) (gb : A.load false 1 (.pointer (some ⟨t3, 34, none⟩)) h = some b) {x y : List (ByteArray)} (sa : SliceE 1 h a (x.map (txC))) (sb : SliceE 1 h b (y.map (txC))) (hl : x.length = y.length) (hx : x.length ≤ 1000) :
    ∀ (d i m : Nat), i + d = x.length → d < m → MailD7.p38arrlrbw C L kr kx m (.int .i64 (i : Int)) (ptrV t2) (ptrV t3) h = bif decide (All2 Eq (x.drop i) (y.drop i)) then kx (ptrV t2) (ptrV t3) h else kr (.bool false) h := by
  have hlen : A.lenS a = some (.int .i64 (x.length : Int)) := by have := sa.len.1; rwa [List.length_map] at this
  intro d
  induction d with
  | zero =>
    intro i m hi hm
    obtain ⟨m, rfl⟩ : ∃ q, m = q + 1 := ⟨m - 1, by omega⟩
    have hd : decide ((i : Int) < (x.length : Int)) = false := by rw [decide_eq_false_iff_not]; omega
    have ha : decide (All2 Eq (x.drop i) (y.drop i)) = true := by rw [decide_eq_true_iff, List.drop_eq_nil_of_le (by omega), List.drop_eq_nil_of_le (by omega)]; exact All2.nil
    simp only [MailD7.p38arrlrbw, MailD7.p38arrlrbo, fieldAddr_eq, Nat.zero_add, ga, gb, hlen, bnd_some, bin_lss, hd, toBK_bool, condV_bool, cond_false, ha, cond_true]
  | succ d ih =>
    intro i m hi hm
    obtain ⟨m, rfl⟩ : ∃ q, m = q + 1 := ⟨m - 1, by omega⟩
    have hd : decide ((i : Int) < (x.length : Int)) = true := by rw [decide_eq_true_iff]; omega
    have hwr : IntKind.i64.wrap ((i : Int) + 1) = ((i + 1 : Nat) : Int) := wrap_succ (by omega)
    obtain ⟨u, hu⟩ : ∃ u, x[i]? = some u := ⟨_, List.getElem?_eq_getElem (by omega)⟩
    obtain ⟨v, hv⟩ : ∃ v, y[i]? = some v := ⟨_, List.getElem?_eq_getElem (by omega)⟩
    obtain ⟨id1, off1, cells1, own1, e11, _, e31, e41, e51, e61⟩ := sa.at (e := (txC) u) (by rw [List.getElem?_map, hu]; rfl) .i64
    have l1 : A.load false 1 (.pointer (some ⟨id1, off1, none⟩)) h = some (.string u) := by rw [load1_eq, e31]; exact e61 0 (by omega)
    obtain ⟨id2, off2, cells2, own2, e12, _, e32, e42, e52, e62⟩ := sb.at (e := (txC) v) (by rw [List.getElem?_map, hv]; rfl) .i64
    have l2 : A.load false 1 (.pointer (some ⟨id2, off2, none⟩)) h = some (.string v) := by rw [load1_eq, e32]; exact e62 0 (by omega)
    have hA := all2_drop (R := Eq) hu hv
    by_cases c : u = v
    · have hA2 : decide (All2 Eq (x.drop i) (y.drop i)) = decide (All2 Eq (x.drop (i + 1)) (y.drop (i + 1))) := decide_eq_decide.2 (by rw [hA]; simp [c])
      have c2 : (!decide (u = v)) = false := by simp [c]
      simp only [MailD7.p38arrlrbw, MailD7.p38arrlrbo, fieldAddr_eq, Nat.zero_add, ga, gb, hlen, bnd_some, bin_lss, hd, toBK_bool, condV_bool, cond_true, cond_false, e11, e12, l1, l2, bin_str_neq, c2, bin_add, hwr, hA2]
      exact ih (i + 1) m (by omega) (by omega)
    · have hA2 : decide (All2 Eq (x.drop i) (y.drop i)) = false := by rw [decide_eq_false_iff_not, hA]; exact fun h => c h.1
      have c2 : (!decide (u = v)) = true := by simp [c]
      simp only [MailD7.p38arrlrbw, MailD7.p38arrlrbo, fieldAddr_eq, Nat.zero_add, ga, gb, hlen, bnd_some, bin_lss, hd, toBK_bool, condV_bool, cond_true, cond_false, e11, e12, l1, l2, bin_str_neq, c2, hA2]

theorem T48 (k : Nat) {h : H} {a b : Value} {x y : List (MsD)} (sa : SliceE 4 h a (x.map (MsD.cells))) (sb : SliceE 4 h b (y.map (MsD.cells))) (hx : x.length ≤ 100) : callB Try.prog 0 [9] (k + 200) 48 [a, b] h = some (.bool (decide (x = y)), h) := by
  have la : A.lenS a = some (.int .i64 (x.length : Int)) := by have := sa.len.1; rwa [List.length_map] at this
  have lb : A.lenS b = some (.int .i64 (y.length : Int)) := by have := sb.len.1; rwa [List.length_map] at this
  rw [MailD7.F48eq [9] rfl]
  by_cases hl : x.length = y.length
  · have c : (!decide ((x.length : Int) = (y.length : Int))) = false := by simp [hl]
    have e := lp48 (callB Try.prog 0 [9] (k + 199)) (k + 199) (fun x4 h => some (x4, h)) (fun h => MailD7.p48arrr (callB Try.prog 0 [9] (k + 199)) (k + 199) h (fun x4 h => some (x4, h))) sa sb hl (by omega) x.length 0 (k + 199) (by omega) (by omega)
    have e' : MailD7.p48arrlrbw (callB Try.prog 0 [9] (k + 199)) (k + 199) (fun x4 h => some (x4, h)) (fun h => MailD7.p48arrr (callB Try.prog 0 [9] (k + 199)) (k + 199) h (fun x4 h => some (x4, h))) (k + 199) (.int .i64 0) b a h = _ := e
    have ee : decide (All2 Eq (x.drop 0) (y.drop 0)) = decide (x = y) := decide_eq_decide.2 (by simp [all2_eq])
    rw [ee] at e'
    simp only [MailD7.F48, MailD7.p48a, MailD7.p48al, MailD7.p48ar, MailD7.p48arl, la, lb, bnd_some, bin_neq, c, toBK_bool, cond_false, MailD7.p48arr, MailD7.p48arrl, MailD7.p48arrll, MailD7.p48arrlr, MailD7.p48arrlrb]
    rw [e']
    by_cases hxy : x = y
    · simp only [decide_eq_true hxy, cond_true, MailD7.p48arrr]
    · simp only [decide_eq_false hxy, cond_false]
  · have c : (!decide ((x.length : Int) = (y.length : Int))) = true := by simp; omega
    have hxy : ¬ x = y := fun e => hl (by rw [e])
    simp only [MailD7.F48, MailD7.p48a, MailD7.p48al, MailD7.p48ar, MailD7.p48arl, la, lb, bnd_some, bin_neq, c, toBK_bool, cond_true, decide_eq_false hxy]

theorem T51 (k : Nat) {h : H} {a b : Value} {x y : List (MsD)} (sa : SliceE 4 h a (x.map (MsD.cells))) (sb : SliceE 4 h b (y.map (MsD.cells))) (hx : x.length ≤ 100) : callB Try.prog 0 [9] (k + 200) 51 [a, b] h = some (.bool (decide (x = y)), h) := by
  have la : A.lenS a = some (.int .i64 (x.length : Int)) := by have := sa.len.1; rwa [List.length_map] at this
  have lb : A.lenS b = some (.int .i64 (y.length : Int)) := by have := sb.len.1; rwa [List.length_map] at this
  rw [MailD7.F51eq [9] rfl]
  by_cases hl : x.length = y.length
  · have c : (!decide ((x.length : Int) = (y.length : Int))) = false := by simp [hl]
    have e := lp51 (callB Try.prog 0 [9] (k + 199)) (k + 199) (fun x4 h => some (x4, h)) (fun h => MailD7.p51arrr (callB Try.prog 0 [9] (k + 199)) (k + 199) h (fun x4 h => some (x4, h))) sa sb hl (by omega) x.length 0 (k + 199) (by omega) (by omega)
    have e' : MailD7.p51arrlrbw (callB Try.prog 0 [9] (k + 199)) (k + 199) (fun x4 h => some (x4, h)) (fun h => MailD7.p51arrr (callB Try.prog 0 [9] (k + 199)) (k + 199) h (fun x4 h => some (x4, h))) (k + 199) (.int .i64 (x.length : Int)) (.int .i64 0) b a h = _ := e
    have ee : decide (All2 Eq (x.drop 0) (y.drop 0)) = decide (x = y) := decide_eq_decide.2 (by simp [all2_eq])
    rw [ee] at e'
    simp only [MailD7.F51, MailD7.p51a, MailD7.p51al, MailD7.p51ar, MailD7.p51arl, la, lb, bnd_some, bin_neq, c, toBK_bool, cond_false, MailD7.p51arr, MailD7.p51arrl, MailD7.p51arrll, MailD7.p51arrlr, MailD7.p51arrlrb]
    rw [e']
    by_cases hxy : x = y
    · simp only [decide_eq_true hxy, cond_true, MailD7.p51arrr]
    · simp only [decide_eq_false hxy, cond_false]
  · have c : (!decide ((x.length : Int) = (y.length : Int))) = true := by simp; omega
    have hxy : ¬ x = y := fun e => hl (by rw [e])
    simp only [MailD7.F51, MailD7.p51a, MailD7.p51al, MailD7.p51ar, MailD7.p51arl, la, lb, bnd_some, bin_neq, c, toBK_bool, cond_true, decide_eq_false hxy]

theorem T52 (k : Nat) {h : H} {a b : Value} {x y : List (ByteArray)} (sa : SliceE 1 h a (x.map (txC))) (sb : SliceE 1 h b (y.map (txC))) (hx : x.length ≤ 100) : callB Try.prog 0 [9] (k + 200) 52 [a, b] h = some (.bool (decide (x = y)), h) := by
  have la : A.lenS a = some (.int .i64 (x.length : Int)) := by have := sa.len.1; rwa [List.length_map] at this
  have lb : A.lenS b = some (.int .i64 (y.length : Int)) := by have := sb.len.1; rwa [List.length_map] at this
  rw [MailD7.F52eq [9] rfl]
  by_cases hl : x.length = y.length
  · have c : (!decide ((x.length : Int) = (y.length : Int))) = false := by simp [hl]
    have e := lp52 (callB Try.prog 0 [9] (k + 199)) (k + 199) (fun x4 h => some (x4, h)) (fun h => MailD7.p52arrr (callB Try.prog 0 [9] (k + 199)) (k + 199) h (fun x4 h => some (x4, h))) sa sb hl (by omega) x.length 0 (k + 199) (by omega) (by omega)
    have e' : MailD7.p52arrlrbw (callB Try.prog 0 [9] (k + 199)) (k + 199) (fun x4 h => some (x4, h)) (fun h => MailD7.p52arrr (callB Try.prog 0 [9] (k + 199)) (k + 199) h (fun x4 h => some (x4, h))) (k + 199) (.int .i64 (x.length : Int)) (.int .i64 0) b a h = _ := e
    have ee : decide (All2 Eq (x.drop 0) (y.drop 0)) = decide (x = y) := decide_eq_decide.2 (by simp [all2_eq])
    rw [ee] at e'
    simp only [MailD7.F52, MailD7.p52a, MailD7.p52al, MailD7.p52ar, MailD7.p52arl, la, lb, bnd_some, bin_neq, c, toBK_bool, cond_false, MailD7.p52arr, MailD7.p52arrl, MailD7.p52arrll, MailD7.p52arrlr, MailD7.p52arrlrb]
    rw [e']
    by_cases hxy : x = y
    · simp only [decide_eq_true hxy, cond_true, MailD7.p52arrr]
    · simp only [decide_eq_false hxy, cond_false]
  · have c : (!decide ((x.length : Int) = (y.length : Int))) = true := by simp; omega
    have hxy : ¬ x = y := fun e => hl (by rw [e])
    simp only [MailD7.F52, MailD7.p52a, MailD7.p52al, MailD7.p52ar, MailD7.p52arl, la, lb, bnd_some, bin_neq, c, toBK_bool, cond_true, decide_eq_false hxy]
end Go.Proofs.Ytdjhkdogpbiglaa.MailD
