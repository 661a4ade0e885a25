/-
  MailRoom: the law, awake known.
-/
import Derived.Test.YtdjhkdogpbiglaaMailRm1
namespace Go.Proofs.Ytdjhkdogpbiglaa.MailD
open Go Go.AM Go.Proofs.Ytdjhkdogpbiglaa.MailF5

theorem neqb5 (a b : Bool) : A.bin Try.prog .neq 4 (.bool a) (.bool b) = some (.bool (!decide (a = b))) := bin_bool_neq Try.underlying4 a b
theorem eqlb5 (a b : Bool) : A.bin Try.prog .eql 4 (.bool a) (.bool b) = some (.bool (decide (a = b))) := bin_bool_eql Try.underlying4 a b

theorem roomB_spec {s : St} {f l : Nat} (h : roomB s f l = true) : ∀ j, j < 7 - l → s.fu (f * 7 + l + j) ≤ 0 := by
  intro j hj
  unfold roomB at h
  rw [List.all_eq_true] at h
  exact of_decide_eq_true (h j (by rw [List.mem_range'_1]; omega))

section
variable {h0 h : H} {g B F : Nat} {bs : List Value} {os : List Nat} {s : St} {w m n : Nat}

/-- One call. -/
theorem stepA (k L : Nat) {β : Type} (kn : Value → Value → Value → Value → Value → Value → Value → H → Option β) (v : Rm h0 h g B F bs os s w m n) (hn : n ≤ 1000) {x2 : Value} {l : List (List Value)} (sl : SliceE 5 h0 x2 l) {i : Nat} (hi : i < l.length) (hc : ActB h0 l[i]) (x4 x3 x1 x0 : Value) :
    ∃ h' bs' os' s', Rm h0 h' g B F bs' os' s' w m (n + 1) ∧ p5arrrrlrborlb (callB Try.prog 0 [9] (k + 300)) L (.int .i64 (i : Int)) x2 x4 (ptrV g) x3 x1 x0 h kn = kn (.int .i64 (i : Int)) x2 x4 (ptrV g) x3 x1 x0 h' := by
  obtain ⟨kd, Fr, To, Lx, cv, its, R, hil, hb⟩ := hc
  have hel : l[i]? = some [.int .u8 (kd : Int), .int .i64 Fr, .int .i64 To, .int .i64 Lx, cv] := by rw [List.getElem?_eq_getElem hi, R.eq]
  obtain ⟨id, off, cells, own, e1, _, e3, e4, e5, e6⟩ := (sl.ext v.x).at hel .i64
  have f0 : A.load false 1 (.pointer (some ⟨id, off, none⟩)) h = some (.int .u8 (kd : Int)) := by rw [load1_eq, e3]; exact e6 0 (by omega)
  have f1 : A.load false 1 (.pointer (some ⟨id, off + 1, none⟩)) h = some (.int .i64 Fr) := by rw [load1_eq, e3]; exact e6 1 (by omega)
  have f2 : A.load false 1 (.pointer (some ⟨id, off + 2, none⟩)) h = some (.int .i64 To) := by rw [load1_eq, e3]; exact e6 2 (by omega)
  have f3 : A.load false 1 (.pointer (some ⟨id, off + 3, none⟩)) h = some (.int .i64 Lx) := by rw [load1_eq, e3]; exact e6 3 (by omega)
  have f4 : A.load false 1 (.pointer (some ⟨id, off + 4, none⟩)) h = some cv := by rw [load1_eq, e3]; exact e6 4 (by omega)
  have hrem : A.bin Try.prog .rem 5 (.int .u8 (kd : Int)) (.int .u8 8) = some (.int .u8 ((kd : Int).tmod 8)) := bin_rem Try.prog 5 .u8 _ _ (by omega)
  by_cases hk : (kd : Int).tmod 8 < 5
  · have hd := decide_eq_true hk
    obtain ⟨b, h', bs', os', s', e17, v'⟩ := putAny k v hn (Fr := Fr) (To := To) (Lx := Lx) R.sl hb hil
    refine ⟨h', bs', os', s', v', ?_⟩
    simp only [p5arrrrlrborlb, p5arrrrlrborlbl, e1, bnd_some, fieldAddr_eq, Nat.add_zero, f0, hrem, bin_lss, hd, toBK_bool, p5arrrrlrborlbr, condV_bool, cond_true, p5arrrrlrborlbrt, f1, f2, f3, f4, e17, bnd2_some]
  · have hd := decide_eq_false hk
    obtain ⟨r, h', bs', os', s', e12, v'⟩ := takeAny k v hn Fr To Lx
    refine ⟨h', bs', os', s', v', ?_⟩
    simp only [p5arrrrlrborlb, p5arrrrlrborlbl, e1, bnd_some, fieldAddr_eq, Nat.add_zero, f0, hrem, bin_lss, hd, toBK_bool, p5arrrrlrborlbr, condV_bool, cond_false, p5arrrrlrborlbrf, f1, f2, f3, e12, bnd2_some]
end

/-- All calls. -/
theorem callsA (k L : Nat) {β : Type} (kx : Value → Value → Value → Value → Value → H → Option β) {h0 : H} {g B F w m : Nat} {x2 : Value} {l : List (List Value)} (sl : SliceE 5 h0 x2 l) (hl : l.length ≤ 300) (hc : ∀ x ∈ l, ActB h0 x) (x4 x3 x1 x0 : Value) :
    ∀ (d i r : Nat) (h : H) (bs : List Value) (os : List Nat) (s : St), i + d = l.length → d < r → Rm h0 h g B F bs os s w m i →
      ∃ h' bs' os' s', Rm h0 h' g B F bs' os' s' w m l.length ∧ p5arrrrlrbw (callB Try.prog 0 [9] (k + 300)) L kx r (.int .i64 (i : Int)) x2 x4 (ptrV g) x3 x1 x0 h = kx x4 (ptrV g) x3 x1 x0 h' := by
  have hlen : A.lenS x2 = some (.int .i64 (l.length : Int)) := sl.len.1
  intro d
  induction d with
  | zero =>
    intro i r h bs os s hi hr v
    obtain ⟨r, rfl⟩ : ∃ q, r = q + 1 := ⟨r - 1, by omega⟩
    obtain rfl : i = l.length := by omega
    have hd : decide ((l.length : Int) < (l.length : Int)) = false := by rw [decide_eq_false_iff_not]; omega
    refine ⟨h, bs, os, s, v, ?_⟩
    simp only [p5arrrrlrbw, p5arrrrlrbo, p5arrrrlrbol, hlen, bnd_some, bin_lss, hd, toBK_bool, cond_false]
  | succ d ih =>
    intro i r h bs os s hi hr v
    obtain ⟨r, rfl⟩ : ∃ q, r = q + 1 := ⟨r - 1, by omega⟩
    have hd : decide ((i : Int) < (l.length : Int)) = true := by rw [decide_eq_true_iff]; omega
    have hil : i < l.length := by omega
    have hwr : IntKind.i64.wrap ((i : Int) + 1) = ((i + 1 : Nat) : Int) := wrap_succ (by omega)
    obtain ⟨h1, bs1, os1, s1, v1, e⟩ := stepA k L (fun x12 x2 x4 x11 x3 x1 x0 h => p5arrrrlrborr (callB Try.prog 0 [9] (k + 300)) L x12 x2 x4 x11 x3 x1 x0 h (fun x12 x2 x4 x11 x3 x1 x0 h => p5arrrrlrbw (callB Try.prog 0 [9] (k + 300)) L kx r x12 x2 x4 x11 x3 x1 x0 h)) v (by omega) sl hil (hc _ (List.getElem_mem hil)) x4 x3 x1 x0
    obtain ⟨h', bs', os', s', v', e'⟩ := ih (i + 1) r h1 bs1 os1 s1 (by omega) (by omega) v1
    refine ⟨h', bs', os', s', v', ?_⟩
    simp only [p5arrrrlrbw, p5arrrrlrbo, p5arrrrlrbol, hlen, bnd_some, bin_lss, hd, toBK_bool, cond_true, p5arrrrlrbor, p5arrrrlrborl]
    refine Eq.trans e ?_
    simp only [p5arrrrlrborr, bin_add, bnd_some, hwr]
    exact e'

/-- Room above a lane is room above each greater one. -/
theorem loopB (k L : Nat) {β : Type} (kr : Value → H → Option β) (kx : Value → Value → Value → Value → Value → Value → H → Option β) {h : H} {g B F : Nat} {bs : List Value} {os : List Nat} {s : St} (r : GridR h g B F bs os s) {f l : Nat} (hf : f < s.w) (x1 x0 : Value) :
    ∀ (d j q : Nat), j + d = 8 → d < q → l ≤ j → p5arrrrrrrlrbw (callB Try.prog 0 [9] (k + 20)) L kr kx q (.int .i64 (j : Int)) (.int .i64 (l : Int)) (ptrV g) (.int .i64 (f : Int)) x1 x0 (.bool (roomB s f l)) h = kx (.int .i64 (l : Int)) (ptrV g) (.int .i64 (f : Int)) x1 x0 (.bool (roomB s f l)) h := by
  intro d
  induction d with
  | zero =>
    intro j q hj hq _
    obtain ⟨q, rfl⟩ : ∃ q', q = q' + 1 := ⟨q - 1, by omega⟩
    have hd : decide ((j : Int) ≤ 7) = false := by rw [decide_eq_false_iff_not]; omega
    simp only [p5arrrrrrrlrbw, p5arrrrrrrlrbo, p5arrrrrrrlrbol, bin_leq, hd, bnd_some, toBK_bool, cond_false]
  | succ d ih =>
    intro j q hj hq hlj
    obtain ⟨q, rfl⟩ : ∃ q', q = q' + 1 := ⟨q - 1, by omega⟩
    have hd : decide ((j : Int) ≤ 7) = true := by rw [decide_eq_true_iff]; omega
    have hwr : IntKind.i64.wrap ((j : Int) + 1) = ((j + 1 : Nat) : Int) := wrap_succ (by omega)
    have ih' := ih (j + 1) q (by omega) (by omega) (by omega)
    cases hr : roomB s f l with
    | false =>
      rw [hr] at ih'
      simp only [p5arrrrrrrlrbw, p5arrrrrrrlrbo, p5arrrrrrrlrbol, bin_leq, hd, bnd_some, toBK_bool, cond_true, p5arrrrrrrlrbor, p5arrrrrrrlrborl, p5arrrrrrrlrborlb, cond_false, p5arrrrrrrlrborr, bin_add, hwr]
      exact ih'
    | true =>
      rw [hr] at ih'
      have e21 := T21 k r (f := f) (l := j) hf (by omega)
      rw [roomB_true (fun jj hjj => by
        have := roomB_spec hr (j - l + jj) (by omega)
        rw [show f * 7 + l + (j - l + jj) = f * 7 + j + jj by omega] at this
        exact this)] at e21
      simp only [p5arrrrrrrlrbw, p5arrrrrrrlrbo, p5arrrrrrrlrbol, bin_leq, hd, bnd_some, toBK_bool, cond_true, p5arrrrrrrlrbor, p5arrrrrrrlrborl, p5arrrrrrrlrborlb, e21, bnd2_some, un_not, Bool.not_true, cond_false, p5arrrrrrrlrborr, bin_add, hwr]
      exact ih'

/-- Not gone through yet: as it was. -/
def Rest (s0 s : St) (w f k t : Nat) : Prop := ∀ k' t', 1 ≤ k' → k' ≤ 7 → t' < w → (k < k' ∨ (k' = k ∧ t ≤ t')) → (s.bx (pl w f t' k')).length = (s0.bx (pl w f t' k')).length

theorem putOne (k : Nat) {h0 h : H} {g B F : Nat} {bs : List Value} {os : List Nat} {s s0 : St} {w m n : Nat} (v : Rm h0 h g B F bs os s w m n) (hn : n ≤ 1000) {f l t : Nat} (hf : f < w) (ht : t < w) (hl : 1 ≤ l) (hl' : l ≤ 7) (hr : Rest s0 s w f l t) (hm0 : s0.m = m) (hw0 : s0.w = w) :
    ∃ c h1 h' bs' os' s', callB Try.prog 0 [9] (k + 300) 23 [ptrV g, .int .i64 (f : Int), .int .i64 (t : Int), .int .i64 (l : Int)] h = some (.int .i64 ((s.bx (pl w f t l)).length : Int), h) ∧ callB Try.prog 0 [9] (k + 300) 29 [.int .i64 (l : Int)] h = some (c, h1) ∧
      callB Try.prog 0 [9] (k + 300) 17 [ptrV g, .int .i64 (f : Int), .int .i64 (t : Int), .int .i64 (l : Int), c] h1 = some (.bool (!fullB s0 f l t), h') ∧ decide (((s.bx (pl w f t l)).length : Int) < (m : Int)) = !fullB s0 f l t ∧
      Rm h0 h' g B F bs' os' s' w m (n + 1) ∧ Rest s0 s' w f l (t + 1) := by
  have hf' : f < s.w := by rw [v.sw]; exact hf
  have ht' : t < s.w := by rw [v.sw]; exact ht
  have e23 := T23 (k + 298) v.gr hf' ht' hl hl'
  rw [v.sw] at e23
  obtain ⟨c, h1, e29, cm, x1⟩ := T29 (k + 299) h (l : Int)
  have v1 := v.ext x1
  have hsame := hr l t hl hl' ht (.inr ⟨rfl, Nat.le_refl _⟩)
  have hle := v.gr.lm (pl s.w f t l)
  rw [v.sw, v.sm] at hle
  have hfull : fullB s0 f l t = decide ((s.bx (pl w f t l)).length = m) := by unfold fullB; rw [hw0, hm0, hsame]
  by_cases hfl : (s.bx (pl w f t l)).length = m
  · have e17 := T17f (k + 298) v1.gr hf' ht' hl hl' (n := 1) (by omega) cm.len (by rw [v.sw, v.sm]; exact hfl)
    refine ⟨c, h1, h1, bs, os, s, e23, e29, by rw [hfull, decide_eq_true hfl]; exact e17, by rw [hfull, decide_eq_true hfl, Bool.not_true, decide_eq_false_iff_not]; omega, v1.weak, fun k' t' a1 a2 a3 a4 => hr k' t' a1 a2 a3 (by omega)⟩
  · obtain ⟨c2, h2, e32, cm2, x2, _⟩ := T32one (k + 296) cm
    obtain ⟨h', bs', os', e17, r', y, ho'⟩ := T17 (k + 298) v1.gr hf' ht' hl hl' (n := 1) (by omega) cm.len (by rw [v.sw, v.sm]; omega) e32 x2 cm2.cells (by have := v.cb; omega) (fun i => by have := v.fb i; omega)
    refine ⟨c, h1, h', bs', os', _, e23, e29, by rw [hfull, decide_eq_false hfl]; exact e17, by rw [hfull, decide_eq_false hfl]; show _ = true; rw [decide_eq_true_iff]; omega, v1.put hf ht hl hl' (by omega) x2 r' y ho', fun k' t' a1 a2 a3 a4 => ?_⟩
    show (if pl w f t' k' = pl s.w f t l then s.bx (pl s.w f t l) ++ [c2] else s.bx (pl w f t' k')).length = _
    rw [v.sw, if_neg (fun e => by
      obtain ⟨_, e2, e3⟩ := pl_inj a3 a1 a2 ht hl hl' e
      omega)]
    exact hr k' t' a1 a2 a3 (by omega)

/-- A lane's mailboxes. -/
theorem loopC (k L : Nat) {β : Type} (kr : Value → H → Option β) (kx : Value → Value → Value → Value → Value → Value → Value → H → Option β) {h0 : H} {g B F : Nat} {s0 : St} {w m f l : Nat} (hf : f < w) (hl : 1 ≤ l) (hl' : l ≤ 7) (hm0 : s0.m = m) (hw0 : s0.w = w) (base : Nat) (hbase : base ≤ 10000) (hw64 : w ≤ 64) (x13 : Value) :
    ∀ (d t q n : Nat) (h : H) (bs : List Value) (os : List Nat) (s : St), t + d = w → d < q → n + d ≤ 1000 → Rm h0 h g B F bs os s w m n → Rest s0 s w f l t →
      ∃ h' bs' os' s', p5arrrrrrrrrlrborlbrbw (callB Try.prog 0 [9] (k + 300)) L kr kx q (.int .i64 (t : Int)) (.int .i64 (l : Int)) (ptrV g) (.int .i64 (f : Int)) (.int .i64 (m : Int)) (.int .i64 (w : Int)) (.int .i64 ((base + ((List.range t).filter (fullB s0 f l)).length : Nat) : Int)) x13 h =
          kx (.int .i64 (l : Int)) (ptrV g) (.int .i64 (f : Int)) (.int .i64 (m : Int)) (.int .i64 (w : Int)) (.int .i64 ((base + cntFull s0 f l : Nat) : Int)) x13 h' ∧ Rm h0 h' g B F bs' os' s' w m (n + d) ∧ Rest s0 s' w f l w := by
  intro d
  induction d with
  | zero =>
    intro t q n h bs os s ht hq hn v hr
    obtain ⟨q, rfl⟩ : ∃ q', q = q' + 1 := ⟨q - 1, by omega⟩
    obtain rfl : t = w := by omega
    have hd : decide ((t : Int) < (t : Int)) = false := by rw [decide_eq_false_iff_not]; omega
    have hc : ((List.range t).filter (fullB s0 f l)).length = cntFull s0 f l := by unfold cntFull; rw [hw0]
    rw [hc]
    refine ⟨h, bs, os, s, ?_, v, hr⟩
    simp only [p5arrrrrrrrrlrborlbrbw, p5arrrrrrrrrlrborlbrbo, p5arrrrrrrrrlrborlbrbol, bin_lss, hd, bnd_some, toBK_bool, cond_false]
  | succ d ih =>
    intro t q n h bs os s ht hq hn v hr
    obtain ⟨q, rfl⟩ : ∃ q', q = q' + 1 := ⟨q - 1, by omega⟩
    have hd : decide ((t : Int) < (w : Int)) = true := by rw [decide_eq_true_iff]; omega
    have hwr : IntKind.i64.wrap ((t : Int) + 1) = ((t + 1 : Nat) : Int) := wrap_succ (by omega)
    obtain ⟨c, h1, h2, bs2, os2, s2, e23, e29, e17, elt, v2, r2⟩ := putOne k v (by omega) hf (by omega : t < w) hl hl' hr hm0 hw0
    obtain ⟨h', bs', os', s', e, v', r'⟩ := ih (t + 1) q (n + 1) h2 bs2 os2 s2 (by omega) (by omega) (by omega) v2 r2
    have hlen : ((List.range t).filter (fullB s0 f l)).length ≤ t := by
      have := List.length_filter_le (fullB s0 f l) (List.range t)
      rwa [List.length_range] at this
    rw [List.range_succ, List.filter_append] at e
    refine ⟨h', bs', os', s', ?_, by rw [show n + (d + 1) = n + 1 + d by omega]; exact v', r'⟩
    simp only [p5arrrrrrrrrlrborlbrbw, p5arrrrrrrrrlrborlbrbo, p5arrrrrrrrrlrborlbrbol, bin_lss, hd, bnd_some, toBK_bool, cond_true, p5arrrrrrrrrlrborlbrbor, e23, bnd2_some, e29, e17, elt, neqb5, decide_true, Bool.not_true, cond_false, un_not, Bool.not_not]
    cases hfb : fullB s0 f l t with
    | true =>
      have hw2 : IntKind.i64.wrap (((base + ((List.range t).filter (fullB s0 f l)).length : Nat) : Int) + 1) = ((base + ((List.range t).filter (fullB s0 f l)).length + 1 : Nat) : Int) := wrap_succ (by omega)
      simp only [List.filter_cons, hfb, if_true, List.filter_nil, List.length_append, List.length_cons, List.length_nil] at e
      simp only [cond_true, bin_add, hw2, bnd_some, hwr]
      exact e
    | false =>
      simp only [List.filter_cons, hfb, Bool.false_eq_true, if_false, List.filter_nil, List.append_nil] at e
      simp only [cond_false, bin_add, bnd_some, hwr]
      exact e

/-- A sum. -/
def sumF (a : Nat → Nat) (b : Nat) : Nat → Nat
  | 0 => 0
  | d + 1 => a b + sumF a (b + 1) d
theorem sumF_zero {a : Nat → Nat} : ∀ {d b : Nat}, sumF a b d = 0 ↔ ∀ j, j < d → a (b + j) = 0
  | 0, b => by simp [sumF]
  | d + 1, b => by
    simp only [sumF]
    have ih := sumF_zero (a := a) (d := d) (b := b + 1)
    constructor
    · intro h j hj
      have h1 : a b = 0 := by omega
      have h2 : sumF a (b + 1) d = 0 := by omega
      cases j with
      | zero => exact h1
      | succ j => have := ih.1 h2 j (by omega); rwa [show b + 1 + j = b + (j + 1) by omega] at this
    · intro h
      have h1 := h 0 (by omega)
      have h2 := ih.2 fun j hj => by have := h (j + 1) (by omega); rwa [show b + (j + 1) = b + 1 + j by omega] at this
      rw [Nat.add_zero] at h1
      omega

/-- All lanes above. -/
theorem loopD (k L : Nat) (hL : 100 ≤ L) {β : Type} (kr : Value → H → Option β) (kx : Value → Value → H → Option β) {h0 : H} {g B F : Nat} {s0 : St} {w m f : Nat} (hf : f < w) (hm0 : s0.m = m) (hw0 : s0.w = w) (hw64 : w ≤ 64) (x13 : Value) :
    ∀ (d l q n base : Nat) (h : H) (bs : List Value) (os : List Nat) (s : St), l + d = 8 → d < q → 1 ≤ l → n + d * 64 ≤ 1000 → base + d * 64 ≤ 10000 → Rm h0 h g B F bs os s w m n → Rest s0 s w f l 0 →
      ∃ h', p5arrrrrrrrrlrbw (callB Try.prog 0 [9] (k + 300)) L kr kx q (.int .i64 (l : Int)) (ptrV g) (.int .i64 (f : Int)) (.int .i64 (m : Int)) (.int .i64 (w : Int)) (.int .i64 (base : Int)) x13 h = kx (.int .i64 ((base + sumF (cntFull s0 f) l d : Nat) : Int)) x13 h' := by
  intro d
  induction d with
  | zero =>
    intro l q n base h bs os s hld hq _ _ _ v hr
    obtain ⟨q, rfl⟩ : ∃ q', q = q' + 1 := ⟨q - 1, by omega⟩
    have hd : decide ((l : Int) ≤ 7) = false := by rw [decide_eq_false_iff_not]; omega
    refine ⟨h, ?_⟩
    simp only [p5arrrrrrrrrlrbw, p5arrrrrrrrrlrbo, p5arrrrrrrrrlrbol, bin_leq, hd, bnd_some, toBK_bool, cond_false, sumF, Nat.add_zero]
  | succ d ih =>
    intro l q n base h bs os s hld hq hl1 hn hb v hr
    obtain ⟨q, rfl⟩ : ∃ q', q = q' + 1 := ⟨q - 1, by omega⟩
    have hd : decide ((l : Int) ≤ 7) = true := by rw [decide_eq_true_iff]; omega
    have hwr : IntKind.i64.wrap ((l : Int) + 1) = ((l + 1 : Nat) : Int) := wrap_succ (by omega)
    obtain ⟨h1, bs1, os1, s1, e, v1, r1⟩ := loopC k L kr (fun x16 x11 x3 x1 x0 x15 x13 h => p5arrrrrrrrrlrborr (callB Try.prog 0 [9] (k + 300)) L x16 x11 x3 x1 x0 x15 x13 h (fun x16 x11 x3 x1 x0 x15 x13 h => p5arrrrrrrrrlrbw (callB Try.prog 0 [9] (k + 300)) L kr kx q x16 x11 x3 x1 x0 x15 x13 h)) hf hl1 (by omega) hm0 hw0 base (by omega) hw64 x13 w 0 L n h bs os s (by omega) (by omega) (by omega) v hr
    have hcw : cntFull s0 f l ≤ w := by
      have := List.length_filter_le (fullB s0 f l) (List.range s0.w)
      rw [List.length_range, hw0] at this
      unfold cntFull
      rw [hw0]; exact this
    have v1' : Rm h0 h1 g B F bs1 os1 s1 w m (n + 64) := { v1 with fb := fun i => by have := v1.fb i; omega, cb := by have := v1.cb; omega }
    obtain ⟨h', e'⟩ := ih (l + 1) q (n + 64) (base + cntFull s0 f l) h1 bs1 os1 s1 (by omega) (by omega) (by omega) (by omega) (by omega) v1' (fun k' t' a1 a2 a3 a4 => r1 k' t' a1 a2 a3 (by omega))
    refine ⟨h', ?_⟩
    have e0 : p5arrrrrrrrrlrborlbrbw (callB Try.prog 0 [9] (k + 300)) L kr (fun x16 x11 x3 x1 x0 x15 x13 h => p5arrrrrrrrrlrborr (callB Try.prog 0 [9] (k + 300)) L x16 x11 x3 x1 x0 x15 x13 h (fun x16 x11 x3 x1 x0 x15 x13 h => p5arrrrrrrrrlrbw (callB Try.prog 0 [9] (k + 300)) L kr kx q x16 x11 x3 x1 x0 x15 x13 h)) L (.int .i64 0) (.int .i64 (l : Int)) (ptrV g) (.int .i64 (f : Int)) (.int .i64 (m : Int)) (.int .i64 (w : Int)) (.int .i64 (base : Int)) x13 h = _ := e
    simp only [p5arrrrrrrrrlrbw, p5arrrrrrrrrlrbo, p5arrrrrrrrrlrbol, bin_leq, hd, bnd_some, toBK_bool, cond_true, p5arrrrrrrrrlrbor, p5arrrrrrrrrlrborl, p5arrrrrrrrrlrborlb, p5arrrrrrrrrlrborlbl, p5arrrrrrrrrlrborlbr, p5arrrrrrrrrlrborlbrb]
    refine Eq.trans e0 ?_
    simp only [p5arrrrrrrrrlrborr, bin_add, bnd_some, hwr, sumF]
    rw [← Nat.add_assoc]
    exact e'

/-- Behind the calls. -/
theorem fin5 (k : Nat) {h0 h : H} {g B F : Nat} {bs : List Value} {os : List Nat} {s : St} {w m n : Nat} (v : Rm h0 h g B F bs os s w m n) (hn : n ≤ 300) (fr la : Int) :
    ∃ h', p5arrrrr (callB Try.prog 0 [9] (k + 500)) (k + 500) (.int .i64 la) (ptrV g) (.int .i64 fr) (.int .i64 (m : Int)) (.int .i64 (w : Int)) h (fun x10 h => some (x10, h)) = some (.bool true, h') := by
  have aw : ∀ h, callB Try.prog 0 [9] (k + 500) 9 [] h = some (.bool true, h) := fun h => by kernel_rfl
  obtain ⟨kr, hkr⟩ : ∃ kr : Value → H → Option (Value × H), kr = fun x10 h => some (x10, h) := ⟨_, rfl⟩
  rw [← hkr]
  by_cases hok : 0 ≤ fr ∧ fr < w ∧ 0 ≤ la ∧ la ≤ 7
  · obtain ⟨f, rfl⟩ : ∃ f : Nat, fr = f := ⟨fr.toNat, by omega⟩
    obtain ⟨l, rfl⟩ : ∃ l : Nat, la = l := ⟨la.toNat, by omega⟩
    have hf : f < w := by omega
    have hl : l ≤ 7 := by omega
    have hw64 := v.gr.hw
    rw [v.sw] at hw64
    have e21 := T21 (k + 480) v.gr (f := f) (l := l) (by rw [v.sw]; exact hf) hl
    have d1 : decide ((f : Int) < 0) = false := by rw [decide_eq_false_iff_not]; omega
    have d2 : decide ((w : Int) ≤ (f : Int)) = false := by rw [decide_eq_false_iff_not]; omega
    have d3 : decide ((l : Int) < 0) = false := by rw [decide_eq_false_iff_not]; omega
    have d4 : decide ((7 : Int) < (l : Int)) = false := by rw [decide_eq_false_iff_not]; omega
    have eB := loopB (k + 480) (k + 500) kr (fun x4 x11 x3 x1 x0 x13 h => p5arrrrrrrr (callB Try.prog 0 [9] (k + 500)) (k + 500) x4 x11 x3 x1 x0 x13 h kr) v.gr (f := f) (l := l) (by rw [v.sw]; exact hf) (.int .i64 (m : Int)) (.int .i64 (w : Int)) (8 - l) l (k + 500) (by omega) (by omega) (Nat.le_refl _)
    have hwr : IntKind.i64.wrap ((l : Int) + 1) = ((l + 1 : Nat) : Int) := wrap_succ (by omega)
    obtain ⟨h', eD⟩ := loopD (k + 200) (k + 500) (by omega) kr (fun x15 x13 h => p5arrrrrrrrrr (callB Try.prog 0 [9] (k + 500)) (k + 500) x15 x13 h kr) (s0 := s) hf v.sm v.sw hw64.2 (.bool (roomB s f l)) (7 - l) (l + 1) (k + 500) n 0 h bs os s (by omega) (by omega) (by omega) (by omega) (by omega) v (fun _ _ _ _ _ _ => rfl)
    have hroom : decide (((0 + sumF (cntFull s f) (l + 1) (7 - l) : Nat) : Int) = 0) = roomB s f l := by
      rw [Bool.eq_iff_iff, decide_eq_true_iff]
      have hz : ((0 + sumF (cntFull s f) (l + 1) (7 - l) : Nat) : Int) = 0 ↔ sumF (cntFull s f) (l + 1) (7 - l) = 0 := by omega
      rw [hz, sumF_zero]
      have ht : ∀ j, j < 7 - l → s.fu (f * 7 + l + j) = (cntFull s f (l + 1 + j) : Int) := fun j hj => by
        have := v.ti f (l + 1 + j) (by rw [v.sw]; exact hf) (by omega) (by omega)
        rwa [show f * 7 + (l + 1 + j) - 1 = f * 7 + l + j by omega] at this
      constructor
      · intro h
        exact roomB_true fun j hj => by rw [ht j hj, h j hj]; simp
      · intro h j hj
        have := roomB_spec h j hj
        rw [ht j hj] at this
        omega
    refine ⟨h', ?_⟩
    have eB' : p5arrrrrrrlrbw (callB Try.prog 0 [9] (k + 500)) (k + 500) kr (fun x4 x11 x3 x1 x0 x13 h => p5arrrrrrrr (callB Try.prog 0 [9] (k + 500)) (k + 500) x4 x11 x3 x1 x0 x13 h kr) (k + 500) (.int .i64 (l : Int)) (.int .i64 (l : Int)) (ptrV g) (.int .i64 (f : Int)) (.int .i64 (m : Int)) (.int .i64 (w : Int)) (.bool (roomB s f l)) h = _ := eB
    have eD' : p5arrrrrrrrrlrbw (callB Try.prog 0 [9] (k + 500)) (k + 500) kr (fun x15 x13 h => p5arrrrrrrrrr (callB Try.prog 0 [9] (k + 500)) (k + 500) x15 x13 h kr) (k + 500) (.int .i64 ((l + 1 : Nat) : Int)) (ptrV g) (.int .i64 (f : Int)) (.int .i64 (m : Int)) (.int .i64 (w : Int)) (.int .i64 0) (.bool (roomB s f l)) h = _ := eD
    simp only [p5arrrrr, p5arrrrrl, e21, bnd2_some, toBK_bool, p5arrrrrr, p5arrrrrrl, p5arrrrrrll, bin_lss, d1, bnd_some, cond_false, bin_geq, d2, d3, bin_gtr, d4, p5arrrrrrlr, condV_bool, p5arrrrrrr, p5arrrrrrrl, p5arrrrrrrll, p5arrrrrrrlr, p5arrrrrrrlrb]
    refine Eq.trans eB' ?_
    simp only [p5arrrrrrrr, p5arrrrrrrrl, p5arrrrrrrrr, p5arrrrrrrrrl, p5arrrrrrrrrll, bin_add, hwr, bnd_some, p5arrrrrrrrrlr, p5arrrrrrrrrlrb]
    refine Eq.trans eD' ?_
    simp only [p5arrrrrrrrrr, bin_eql, hroom, bnd_some, toBK_bool, eqlb5, decide_true, cond_true, aw, bnd2_some]
    rw [hkr]
  · have e21 := T21n (k + 499) v.gr (f := fr) (l := la) (by rw [v.sw]; exact hok)
    refine ⟨h, ?_⟩
    have key : p5arrrrrrll (callB Try.prog 0 [9] (k + 500)) (k + 500) (.int .i64 la) (ptrV g) (.int .i64 fr) (.int .i64 (m : Int)) (.int .i64 (w : Int)) (.bool false) h (fun x99 x4 x11 x3 x1 x0 x13 h => p5arrrrrrlr (callB Try.prog 0 [9] (k + 500)) (k + 500) x99 x4 x11 x3 x1 x0 x13 h kr (fun x4 x11 x3 x1 x0 x13 h => p5arrrrrrr (callB Try.prog 0 [9] (k + 500)) (k + 500) x4 x11 x3 x1 x0 x13 h kr)) =
        p5arrrrrrlr (callB Try.prog 0 [9] (k + 500)) (k + 500) (.bool true) (.int .i64 la) (ptrV g) (.int .i64 fr) (.int .i64 (m : Int)) (.int .i64 (w : Int)) (.bool false) h kr (fun x4 x11 x3 x1 x0 x13 h => p5arrrrrrr (callB Try.prog 0 [9] (k + 500)) (k + 500) x4 x11 x3 x1 x0 x13 h kr) := by
      simp only [p5arrrrrrll, bin_lss, bnd_some, toBK_bool, bin_geq, bin_gtr]
      by_cases c1 : fr < 0
      · simp only [decide_eq_true c1, cond_true]
      by_cases c2 : (w : Int) ≤ fr
      · simp only [decide_eq_false c1, cond_false, decide_eq_true c2, cond_true]
      by_cases c3 : la < 0
      · simp only [decide_eq_false c1, cond_false, decide_eq_false c2, decide_eq_true c3, cond_true]
      have c4 : 7 < la := by omega
      simp only [decide_eq_false c1, cond_false, decide_eq_false c2, decide_eq_false c3, decide_eq_true c4]
    simp only [p5arrrrr, p5arrrrrl, e21, bnd2_some, toBK_bool, p5arrrrrr, p5arrrrrrl]
    refine Eq.trans key ?_
    simp only [p5arrrrrrlr, condV_bool, cond_true, toBK_bool, un_not, Bool.not_false, bnd_some, aw, bnd2_some]
    rw [hkr]

theorem law5 (k : Nat) {h0 : H} {w m fr la : Int} {x2 : Value} {l : List (List Value)} (sl : SliceE 5 h0 x2 l) (hc : ∀ x ∈ l, ActC h0 x) : ∃ h', callB Try.prog 0 [9] (k + 501) 5 [.int .i64 w, .int .i64 m, x2, .int .i64 fr, .int .i64 la] h0 = some (.bool true, h') := by
  rw [F5eq [9] rfl]
  have aw : ∀ h, callB Try.prog 0 [9] (k + 500) 9 [] h = some (.bool true, h) := fun h => by kernel_rfl
  obtain ⟨b, h1, e8, x1, hb⟩ := T8b (k + 198) sl hc
  have e8' : callB Try.prog 0 [9] (k + 500) 8 [x2] h0 = some (.bool b, h1) := e8
  cases b with
  | true =>
    refine ⟨h1, ?_⟩
    simp only [F5, p5a, p5al, p5ar, p5arl, e8', bnd2_some, toBK_bool, cond_true, aw]
  | false =>
    obtain ⟨hl, hact⟩ := hb rfl
    by_cases hok : 1 ≤ w ∧ w ≤ 64 ∧ 1 ≤ m ∧ m ≤ 64
    · obtain ⟨wn, rfl⟩ : ∃ wn : Nat, w = wn := ⟨w.toNat, by omega⟩
      obtain ⟨mn, rfl⟩ : ∃ mn : Nat, m = mn := ⟨m.toNat, by omega⟩
      obtain ⟨h2, g, B, F, bs, os, e10, r2, x2', ho⟩ := T10 (k + 499) h1 (w := wn) (m := mn) (by omega) (by omega)
      have v : Rm h0 h2 g B F bs os (newS wn mn) wn mn 0 := by
        refine ⟨r2, rfl, rfl, fun f l _ _ _ => ?_, fun i => ⟨by simp [newS], by simp [newS]⟩, ⟨by simp [newS], by simp [newS]⟩, x1.trans x2', fun q hq => ?_⟩
        · show (0 : Int) = _
          have : (List.range wn).filter (fullB (newS wn mn) f l) = [] := List.filter_eq_nil_iff.2 fun t _ => by
            unfold fullB
            rw [show ((newS wn mn).bx (pl (newS wn mn).w f t l)).length = 0 from rfl, show (newS wn mn).m = mn from rfl, decide_eq_true_iff]
            omega
          unfold cntFull
          rw [show (newS wn mn).w = wn from rfl, this]; rfl
        · have := ho q hq
          have := x1.next
          omega
      obtain ⟨h3, bs3, os3, s3, v3, e3⟩ := callsA (k + 200) (k + 500) (fun x4 x11 x3 x1 x0 h => p5arrrrr (callB Try.prog 0 [9] (k + 500)) (k + 500) x4 x11 x3 x1 x0 h (fun x10 h => some (x10, h))) sl hl hact (.int .i64 la) (.int .i64 fr) (.int .i64 (mn : Int)) (.int .i64 (wn : Int)) l.length 0 (k + 500) h2 bs os (newS wn mn) (by omega) (by omega) v
      have e3' : p5arrrrlrbw (callB Try.prog 0 [9] (k + 500)) (k + 500) (fun x4 x11 x3 x1 x0 h => p5arrrrr (callB Try.prog 0 [9] (k + 500)) (k + 500) x4 x11 x3 x1 x0 h (fun x10 h => some (x10, h))) (k + 500) (.int .i64 0) x2 (.int .i64 la) (ptrV g) (.int .i64 fr) (.int .i64 (mn : Int)) (.int .i64 (wn : Int)) h2 = _ := e3
      obtain ⟨h', e5⟩ := fin5 k v3 hl fr la
      have hne : A.bin Try.prog .eql 25 (ptrV g) (.pointer none) = some (.bool false) := bin_ptr_nil Try.underlying25 _
      refine ⟨h', ?_⟩
      simp only [F5, p5a, p5al, p5ar, p5arl, e8', bnd2_some, toBK_bool, cond_false, p5arr, p5arrl, e10, p5arrr, p5arrrl, hne, bnd_some, p5arrrr, p5arrrrl, p5arrrrll, p5arrrrlr, p5arrrrlrb]
      refine Eq.trans e3' ?_
      exact e5
    · have e10 := T10n (k + 499) h1 hok
      have hne : A.bin Try.prog .eql 25 (.pointer none) (.pointer none) = some (.bool true) := by kernel_rfl
      refine ⟨h1, ?_⟩
      simp only [F5, p5a, p5al, p5ar, p5arl, e8', bnd2_some, toBK_bool, cond_false, p5arr, p5arrl, e10, p5arrr, p5arrrl, hne, bnd_some, cond_true, aw]
end Go.Proofs.Ytdjhkdogpbiglaa.MailD
