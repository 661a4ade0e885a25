/-
  Mail: a command is written over: it ends, and nothing but the command's own blocks is another.
-/
import Derived.Test.YtdjhkdogpbiglaaMailE7
namespace Go.Proofs.Ytdjhkdogpbiglaa.MailD
open Go Go.AM

/-- What stays where a command is written over. -/
def Kp (m i : Nat) : Prop := (m = 38 ∧ i % 38 ≠ 1) ∨ (m = 24 ∧ i % 24 ≠ 4)
/-- Blocks of S may be written over. -/
def Sp (S : Nat → Prop) (h h' : H) : Prop := h.next ≤ h'.next ∧ ∀ id, id < h.next → h'.get id = h.get id ∨ (S id ∧ ∃ cs cs' m, h.get id = some (.cells cs (some m)) ∧ h'.get id = some (.cells cs' (some m)) ∧ cs'.length = cs.length ∧ ∀ i, Kp m i → cs'[i]? = cs[i]?)

theorem Sp.refl (S : Nat → Prop) (h : H) : Sp S h h := ⟨Nat.le_refl _, fun _ _ => .inl rfl⟩
theorem Sp.but {S : Nat → Prop} {h h' : H} (s : Sp S h h') : ExtBut S h h' := ⟨s.1, fun id hi hs => by
  rcases s.2 id hi with e | ⟨h1, _⟩
  · exact e
  · exact absurd h1 hs⟩
theorem Sp.ext {S : Nat → Prop} {h0 h h' : H} (s : Sp S h0 h) (x : Ext h h') : Sp S h0 h' := ⟨Nat.le_trans s.1 x.next, fun id hi => by
  rw [x.get id (Nat.lt_of_lt_of_le hi s.1)]
  exact s.2 id hi⟩

theorem Sp.at {S : Nat → Prop} {n : Nat} {h0 h : H} {v : Value} {els : List (List Value)} (own : OwnW S n h0 v els) (sp : Sp S h0 h) {j : Nat} (hj : j < els.length) : ∃ q cs, A.idxS n v (.int .i64 (j : Int)) = some (.pointer (some ⟨q, j * n, none⟩)) ∧ S q ∧ q < h0.next ∧ h.get q = some (.cells cs (some n)) ∧ cs.length = els.length * n ∧ (∀ i, Kp n i → cs[i]? = els.flatten[i]?) ∧ (j + 1) * n ≤ els.length * n := by
  obtain ⟨q, ix, hS, hq, hsq, hg, _, _⟩ := own.at hj
  have hfl := flatten_len own.1.1
  have hle : (j + 1) * n ≤ els.length * n := Nat.mul_le_mul_right n hj
  rcases sp.2 q hq with e | ⟨_, cs, cs', m, h1, h2, h3, h4⟩
  · exact ⟨q, els.flatten, ix, hS, hq, by rw [e]; exact hg, hfl, fun _ _ => rfl, hle⟩
  · rw [hg] at h1
    injection h1 with h1; injection h1 with h5 h6; injection h6 with h6
    subst h5; subst h6
    exact ⟨q, cs', ix, hS, hq, h2, by rw [h3]; exact hfl, h4, hle⟩
theorem Sp.store {S : Nat → Prop} {n : Nat} {h0 h : H} (sp : Sp S h0 h) {q o : Nat} {cs : List Value} (hS : S q) (hq : q < h0.next) (hg : h.get q = some (.cells cs (some n))) (ho : o < cs.length) (hk : ¬ Kp n o) {v : Value} (hv : cellsL v = some [v]) :
    ∃ h', A.store 1 (.pointer (some ⟨q, o, none⟩)) v h = some h' ∧ Sp S h0 h' ∧ ∀ id, h0.next ≤ id → h'.get id = h.get id := by
  refine ⟨h.put q (.cells (cs.set o v) (some n)), ?_, ⟨sp.1, fun id hid => ?_⟩, fun id hid => by rw [H.get_put, if_neg (by omega)]⟩
  · rw [store_eq, hg, hv]
    have c1 : Nat.beq [v].length 1 = true := rfl
    have c2 : Nat.ble (o + 1) cs.length = true := by rw [ble_dec, decide_eq_true_iff]; omega
    simp only [c1, c2, Bool.and_self, cond_true]
    rw [splice_one ho]
  · rw [H.get_put]
    by_cases e : id = q
    · subst e
      rw [if_pos rfl]
      have key : ∀ i, Kp n i → (cs.set o v)[i]? = cs[i]? := fun i hi => by
        rw [List.getElem?_set, if_neg (fun e => by subst e; exact hk hi)]
      rcases sp.2 id hid with e | ⟨_, c0, c1, m, h1, h2, h3, h4⟩
      · exact .inr ⟨hS, cs, cs.set o v, n, by rw [← e]; exact hg, rfl, by simp, key⟩
      · rw [hg] at h2
        injection h2 with h2; injection h2 with h5 h6; injection h6 with h6
        subst h5; subst h6
        exact .inr ⟨hS, c0, cs.set o v, n, h1, rfl, by simp [h3], fun i hi => (key i hi).trans (h4 i hi)⟩
    · rw [if_neg e]
      exact sp.2 id hid
theorem flat_at {n : Nat} {els : List (List Value)} (hn : ∀ e ∈ els, e.length = n) {j o : Nat} {e : List Value} (he : els[j]? = some e) (ho : o < n) : els.flatten[j * n + o]? = e[o]? := by
  rw [flatten_get hn j o ho, he]; rfl
theorem ldb {h : H} {t i : Nat} {bx : List Value} {v : Value} (hg : h.get t = some (.cells bx (some 0))) (hv : bx[i]? = some v) : A.load false 1 (.pointer (some ⟨t, i, none⟩)) h = some v := by
  rw [load1_eq, hg]; exact hv
noncomputable def spoilt : Value := .string ⟨⟨[115, 112, 111, 105, 108, 116]⟩⟩

theorem spA (C : CF) (L : Nat) {β : Type} (kx : Value → Value → Value → H → Option β) {S : Nat → Prop} {h0 : H} {w : Value} {els : List (List Value)} (own : OwnW S 4 h0 w els) (hl : els.length ≤ 1000) {t : Nat} (ht : h0.next ≤ t) {bx : List Value} (hbx : bx[33]? = some w) (x2 x0 : Value) :
    ∀ (d j m : Nat) (h : H), j + d = els.length → d < m → Sp S h0 h → h.get t = some (.cells bx (some 0)) → ∃ h', MailD7.p20arborlbrlrbw C L kx m (.int .i64 (j : Int)) (ptrV t) x2 x0 h = kx (ptrV t) x2 x0 h' ∧ Sp S h0 h' ∧ h'.get t = some (.cells bx (some 0)) := by
  have hlen : A.lenS w = some (.int .i64 (els.length : Int)) := own.slice.len.1
  intro d
  induction d with
  | zero =>
    intro j m h hj hm sp hg
    obtain ⟨m, rfl⟩ : ∃ q, m = q + 1 := ⟨m - 1, by omega⟩
    have hd : decide ((j : Int) < (els.length : Int)) = false := by rw [decide_eq_false_iff_not]; omega
    have lw := ldb hg hbx
    refine ⟨h, ?_, sp, hg⟩
    simp only [MailD7.p20arborlbrlrbw, MailD7.p20arborlbrlrbo, fieldAddr_eq, Nat.zero_add, Nat.add_zero, Nat.reduceAdd, bnd_some, lw, hlen, bin_lss, hd, toBK_bool, cond_false]
  | succ d ih =>
    intro j m h hj hm sp hg
    obtain ⟨m, rfl⟩ : ∃ q, m = q + 1 := ⟨m - 1, by omega⟩
    have hd : decide ((j : Int) < (els.length : Int)) = true := by rw [decide_eq_true_iff]; omega
    have hwr : IntKind.i64.wrap ((j : Int) + 1) = ((j + 1 : Nat) : Int) := wrap_succ (by omega)
    have lw := ldb hg hbx
    obtain ⟨q, cs, ix, hS, hq, hgq, hcl, _, hle⟩ := Sp.at own sp (j := j) (by omega)
    rw [Nat.succ_mul] at hle
    obtain ⟨h1, es, sp1, keep⟩ := sp.store hS hq hgq (o := j * 4) (by omega) (by simp [Kp]) (v := .string ⟨⟨[115, 112, 111, 105, 108, 116]⟩⟩) rfl
    obtain ⟨h', e, r⟩ := ih (j + 1) m h1 (by omega) (by omega) sp1 (by rw [keep t ht]; exact hg)
    refine ⟨h', ?_, r⟩
    simp only [MailD7.p20arborlbrlrbw, MailD7.p20arborlbrlrbo, fieldAddr_eq, Nat.zero_add, Nat.add_zero, Nat.reduceAdd, bnd_some, lw, hlen, bin_lss, hd, toBK_bool, cond_true, ix, es, bin_add, hwr]
    exact e

theorem spB (C : CF) (L : Nat) {β : Type} (kx : Value → Value → Value → H → Option β) {S : Nat → Prop} {h0 : H} {w : Value} {els : List (List Value)} (own : OwnW S 1 h0 w els) (hl : els.length ≤ 1000) {t : Nat} (ht : h0.next ≤ t) {bx : List Value} (hbx : bx[34]? = some w) (x2 x0 : Value) :
    ∀ (d j m : Nat) (h : H), j + d = els.length → d < m → Sp S h0 h → h.get t = some (.cells bx (some 0)) → ∃ h', MailD7.p20arborlbrrlrbw C L kx m (.int .i64 (j : Int)) (ptrV t) x2 x0 h = kx (ptrV t) x2 x0 h' ∧ Sp S h0 h' ∧ h'.get t = some (.cells bx (some 0)) := by
  have hlen : A.lenS w = some (.int .i64 (els.length : Int)) := own.slice.len.1
  intro d
  induction d with
  | zero =>
    intro j m h hj hm sp hg
    obtain ⟨m, rfl⟩ : ∃ q, m = q + 1 := ⟨m - 1, by omega⟩
    have hd : decide ((j : Int) < (els.length : Int)) = false := by rw [decide_eq_false_iff_not]; omega
    have lw := ldb hg hbx
    refine ⟨h, ?_, sp, hg⟩
    simp only [MailD7.p20arborlbrrlrbw, MailD7.p20arborlbrrlrbo, fieldAddr_eq, Nat.zero_add, Nat.add_zero, Nat.reduceAdd, bnd_some, lw, hlen, bin_lss, hd, toBK_bool, cond_false]
  | succ d ih =>
    intro j m h hj hm sp hg
    obtain ⟨m, rfl⟩ : ∃ q, m = q + 1 := ⟨m - 1, by omega⟩
    have hd : decide ((j : Int) < (els.length : Int)) = true := by rw [decide_eq_true_iff]; omega
    have hwr : IntKind.i64.wrap ((j : Int) + 1) = ((j + 1 : Nat) : Int) := wrap_succ (by omega)
    have lw := ldb hg hbx
    obtain ⟨q, cs, ix, hS, hq, hgq, hcl, _, hle⟩ := Sp.at own sp (j := j) (by omega)
    rw [Nat.succ_mul] at hle
    obtain ⟨h1, es, sp1, keep⟩ := sp.store hS hq hgq (o := j * 1) (by omega) (by simp [Kp]) (v := .string ⟨⟨[115, 112, 111, 105, 108, 116]⟩⟩) rfl
    obtain ⟨h', e, r⟩ := ih (j + 1) m h1 (by omega) (by omega) sp1 (by rw [keep t ht]; exact hg)
    refine ⟨h', ?_, r⟩
    simp only [MailD7.p20arborlbrrlrbw, MailD7.p20arborlbrrlrbo, fieldAddr_eq, Nat.zero_add, Nat.add_zero, Nat.reduceAdd, bnd_some, lw, hlen, bin_lss, hd, toBK_bool, cond_true, ix, es, bin_add, hwr]
    exact e

theorem spD (C : CF) (L : Nat) {β : Type} (kx : Value → Value → H → Option β) {S : Nat → Prop} {h0 : H} {w : Value} {els : List (List Value)} (own : OwnW S 2 h0 w els) (hl : els.length ≤ 1000) {t : Nat} (ht : h0.next ≤ t) {bx : List Value} (hbx : bx[27]? = some w) (x2 x0 : Value) :
    ∀ (d j m : Nat) (h : H), j + d = els.length → d < m → Sp S h0 h → h.get t = some (.cells bx (some 0)) → ∃ h', MailD7.p20arborlbrrrrlrbw C L kx m (.int .i64 (j : Int)) (ptrV t) x2 x0 h = kx x2 x0 h' ∧ Sp S h0 h' ∧ h'.get t = some (.cells bx (some 0)) := by
  have hlen : A.lenS w = some (.int .i64 (els.length : Int)) := own.slice.len.1
  intro d
  induction d with
  | zero =>
    intro j m h hj hm sp hg
    obtain ⟨m, rfl⟩ : ∃ q, m = q + 1 := ⟨m - 1, by omega⟩
    have hd : decide ((j : Int) < (els.length : Int)) = false := by rw [decide_eq_false_iff_not]; omega
    have lw := ldb hg hbx
    refine ⟨h, ?_, sp, hg⟩
    simp only [MailD7.p20arborlbrrrrlrbw, MailD7.p20arborlbrrrrlrbo, fieldAddr_eq, Nat.zero_add, Nat.add_zero, Nat.reduceAdd, bnd_some, lw, hlen, bin_lss, hd, toBK_bool, cond_false]
  | succ d ih =>
    intro j m h hj hm sp hg
    obtain ⟨m, rfl⟩ : ∃ q, m = q + 1 := ⟨m - 1, by omega⟩
    have hd : decide ((j : Int) < (els.length : Int)) = true := by rw [decide_eq_true_iff]; omega
    have hwr : IntKind.i64.wrap ((j : Int) + 1) = ((j + 1 : Nat) : Int) := wrap_succ (by omega)
    have lw := ldb hg hbx
    obtain ⟨q, cs, ix, hS, hq, hgq, hcl, _, hle⟩ := Sp.at own sp (j := j) (by omega)
    rw [Nat.succ_mul] at hle
    obtain ⟨h1, es, sp1, keep⟩ := sp.store hS hq hgq (o := j * 2) (by omega) (by simp [Kp]) (v := .string ⟨⟨[115, 112, 111, 105, 108, 116]⟩⟩) rfl
    obtain ⟨h', e, r⟩ := ih (j + 1) m h1 (by omega) (by omega) sp1 (by rw [keep t ht]; exact hg)
    refine ⟨h', ?_, r⟩
    simp only [MailD7.p20arborlbrrrrlrbw, MailD7.p20arborlbrrrrlrbo, fieldAddr_eq, Nat.zero_add, Nat.add_zero, Nat.reduceAdd, bnd_some, lw, hlen, bin_lss, hd, toBK_bool, cond_true, ix, es, bin_add, hwr]
    exact e

theorem spC2 (C : CF) (L : Nat) {β : Type} (kx : Value → Value → Value → Value → H → Option β) {S : Nat → Prop} {h0 : H} {w : Value} {els : List (List Value)} (own : OwnW S 24 h0 w els) (hl : els.length ≤ 1000) {t : Nat} (ht : h0.next ≤ t) {bx : List Value} (hbx : bx[35]? = some w) {k : Nat} {p : PkD} {wk : Value} (hk : els[k]? = some (p.cells wk)) (own2 : OwnW S 2 h0 wk (p.subs.map sbC)) (sm : p.Small) (x2 x0 : Value) :
    ∀ (d j m : Nat) (h : H), j + d = p.subs.length → d < m → Sp S h0 h → h.get t = some (.cells bx (some 0)) → ∃ h', MailD7.p20arborlbrrrlrborlblrbw C L kx m (.int .i64 (j : Int)) (.int .i64 (k : Int)) (ptrV t) x2 x0 h = kx (.int .i64 (k : Int)) (ptrV t) x2 x0 h' ∧ Sp S h0 h' ∧ h'.get t = some (.cells bx (some 0)) := by
  have hkl : k < els.length := (List.getElem?_eq_some_iff.1 hk).1
  have hlen : A.lenS wk = some (.int .i64 (p.subs.length : Int)) := by have := own2.slice.len.1; rwa [List.length_map] at this
  have sm : p.subs.length ≤ 100 := sm
  have hwk : ∀ {h : H}, Sp S h0 h → ∃ q, A.idxS 24 w (.int .i64 (k : Int)) = some (.pointer (some ⟨q, k * 24, none⟩)) ∧ A.load false 1 (.pointer (some ⟨q, k * 24 + 22, none⟩)) h = some wk := fun {h} sp => by
    obtain ⟨q, cs, ix, hS, hq, hgq, hcl, hkp, hle⟩ := Sp.at own sp hkl
    refine ⟨q, ix, ?_⟩
    rw [load1_eq, hgq]
    show cs[k * 24 + 22]? = some wk
    rw [hkp _ (.inr ⟨rfl, by omega⟩), flat_at own.1.1 hk (by omega)]
    rfl
  intro d
  induction d with
  | zero =>
    intro j m h hj hm sp hg
    obtain ⟨m, rfl⟩ : ∃ q, m = q + 1 := ⟨m - 1, by omega⟩
    have hd : decide ((j : Int) < (p.subs.length : Int)) = false := by rw [decide_eq_false_iff_not]; omega
    have lw := ldb hg hbx
    obtain ⟨q, ix, lk⟩ := hwk sp
    refine ⟨h, ?_, sp, hg⟩
    simp only [MailD7.p20arborlbrrrlrborlblrbw, MailD7.p20arborlbrrrlrborlblrbo, fieldAddr_eq, Nat.zero_add, Nat.add_zero, bnd_some, lw, ix, lk, hlen, bin_lss, hd, toBK_bool, cond_false]
  | succ d ih =>
    intro j m h hj hm sp hg
    obtain ⟨m, rfl⟩ : ∃ q, m = q + 1 := ⟨m - 1, by omega⟩
    have hd : decide ((j : Int) < (p.subs.length : Int)) = true := by rw [decide_eq_true_iff]; omega
    have hwr : IntKind.i64.wrap ((j : Int) + 1) = ((j + 1 : Nat) : Int) := wrap_succ (by omega)
    have lw := ldb hg hbx
    obtain ⟨q0, ix, lk⟩ := hwk sp
    obtain ⟨q, cs, ix2, hS, hq, hgq, hcl, _, hle⟩ := Sp.at own2 sp (j := j) (by rw [List.length_map]; omega)
    rw [Nat.succ_mul] at hle
    obtain ⟨h1, es, sp1, keep⟩ := sp.store hS hq hgq (o := j * 2) (by omega) (by simp [Kp]) (v := .string ⟨⟨[115, 112, 111, 105, 108, 116]⟩⟩) rfl
    obtain ⟨h', e, r⟩ := ih (j + 1) m h1 (by omega) (by omega) sp1 (by rw [keep t ht]; exact hg)
    refine ⟨h', ?_, r⟩
    simp only [MailD7.p20arborlbrrrlrborlblrbw, MailD7.p20arborlbrrrlrborlblrbo, fieldAddr_eq, Nat.zero_add, Nat.add_zero, bnd_some, lw, ix, lk, hlen, bin_lss, hd, toBK_bool, cond_true, ix2, es, bin_add, hwr]
    exact e

theorem spC (C : CF) (L : Nat) (hL : 200 ≤ L) {β : Type} (kx : Value → Value → Value → H → Option β) {S : Nat → Prop} {h0 : H} {w : Value} {els : List (List Value)} {pks : List PkD} (own : OwnW S 24 h0 w els) (ap : All2 (PkIn (OwnW S) h0) els pks) (hl : els.length ≤ 20) (hsm : ∀ p ∈ pks, p.Small) {t : Nat} (ht : h0.next ≤ t) {bx : List Value} (hbx : bx[35]? = some w) (x2 x0 : Value) :
    ∀ (d j m : Nat) (h : H), j + d = els.length → d < m → Sp S h0 h → h.get t = some (.cells bx (some 0)) → ∃ h', MailD7.p20arborlbrrrlrbw C L kx m (.int .i64 (j : Int)) (ptrV t) x2 x0 h = kx (ptrV t) x2 x0 h' ∧ Sp S h0 h' ∧ h'.get t = some (.cells bx (some 0)) := by
  have hlen : A.lenS w = some (.int .i64 (els.length : Int)) := own.slice.len.1
  intro d
  induction d with
  | zero =>
    intro j m h hj hm sp hg
    obtain ⟨m, rfl⟩ : ∃ q, m = q + 1 := ⟨m - 1, by omega⟩
    have hd : decide ((j : Int) < (els.length : Int)) = false := by rw [decide_eq_false_iff_not]; omega
    have lw := ldb hg hbx
    refine ⟨h, ?_, sp, hg⟩
    simp only [MailD7.p20arborlbrrrlrbw, MailD7.p20arborlbrrrlrbo, MailD7.p20arborlbrrrlrbol, fieldAddr_eq, Nat.zero_add, bnd_some, lw, hlen, bin_lss, hd, toBK_bool, cond_false]
  | succ d ih =>
    intro j m h hj hm sp hg
    obtain ⟨m, rfl⟩ : ∃ q, m = q + 1 := ⟨m - 1, by omega⟩
    have hd : decide ((j : Int) < (els.length : Int)) = true := by rw [decide_eq_true_iff]; omega
    have hwr : IntKind.i64.wrap ((j : Int) + 1) = ((j + 1 : Nat) : Int) := wrap_succ (by omega)
    have lw := ldb hg hbx
    obtain ⟨cs0, hcs⟩ : ∃ u, els[j]? = some u := ⟨_, List.getElem?_eq_getElem (by omega)⟩
    obtain ⟨p, hp, wk, rfl, own2⟩ := ap.at hcs
    have sm := hsm p (List.mem_of_getElem? hp)
    obtain ⟨h1, e1, sp1, hg1⟩ := spC2 C L (fun x6 x3 x2 x0 h => MailD7.p20arborlbrrrlrborlbr C L x6 x3 x2 x0 h (fun x6 x3 x2 x0 h => MailD7.p20arborlbrrrlrborr C L x6 x3 x2 x0 h (fun x6 x3 x2 x0 h => MailD7.p20arborlbrrrlrbw C L kx m x6 x3 x2 x0 h))) own (by omega) ht hbx hcs own2 sm x2 x0 p.subs.length 0 L h (by omega) (by unfold PkD.Small at sm; omega) sp hg
    have e1' : MailD7.p20arborlbrrrlrborlblrbw C L (fun x6 x3 x2 x0 h => MailD7.p20arborlbrrrlrborlbr C L x6 x3 x2 x0 h (fun x6 x3 x2 x0 h => MailD7.p20arborlbrrrlrborr C L x6 x3 x2 x0 h (fun x6 x3 x2 x0 h => MailD7.p20arborlbrrrlrbw C L kx m x6 x3 x2 x0 h))) L (.int .i64 0) (.int .i64 (j : Int)) (ptrV t) x2 x0 h = _ := e1
    have lw1 := ldb hg1 hbx
    obtain ⟨q, cs, ix, hS, hq, hgq, hcl, _, hle⟩ := Sp.at own sp1 (j := j) (by omega)
    rw [Nat.succ_mul] at hle
    obtain ⟨h2, es, sp2, keep⟩ := sp1.store hS hq hgq (o := j * 24 + 4) (by omega) (by unfold Kp; omega) (v := .int .u16 9999) rfl
    obtain ⟨h', e, r⟩ := ih (j + 1) m h2 (by omega) (by omega) sp2 (by rw [keep t ht]; exact hg1)
    refine ⟨h', ?_, r⟩
    simp only [MailD7.p20arborlbrrrlrbw, MailD7.p20arborlbrrrlrbo, MailD7.p20arborlbrrrlrbol, fieldAddr_eq, Nat.zero_add, bnd_some, lw, hlen, bin_lss, hd, toBK_bool, cond_true, MailD7.p20arborlbrrrlrbor, MailD7.p20arborlbrrrlrborl, MailD7.p20arborlbrrrlrborlb, MailD7.p20arborlbrrrlrborlbl, MailD7.p20arborlbrrrlrborlbll, MailD7.p20arborlbrrrlrborlblr, MailD7.p20arborlbrrrlrborlblrb]
    refine Eq.trans e1' ?_
    simp only [MailD7.p20arborlbrrrlrborlbr, fieldAddr_eq, Nat.zero_add, bnd_some, lw1, ix, es, MailD7.p20arborlbrrrlrborr, bin_add, hwr]
    exact e

theorem sp_round (C : CF) (L : Nat) (hL : 200 ≤ L) {β : Type} (kn : Value → Value → H → Option β) {S : Nat → Prop} {h0 h : H} {x0 : Value} {els : List (List Value)} (own : OwnW S 38 h0 x0 els) {i : Nat} {cs0 : List Value} (hi : els[i]? = some cs0) {T : ItD} (it : ItIn (OwnW S) h0 cs0 T) (sm : T.Small) (sp : Sp S h0 h) :
    ∃ h', MailD7.p20arborlb C L (.int .i64 (i : Int)) x0 h kn = kn (.int .i64 (i : Int)) x0 h' ∧ Sp S h0 h' := by
  obtain ⟨p22, p33, p34, p35, pe, rfl, s22, s33, s34, s35, ap⟩ := it
  have hil : i < els.length := (List.getElem?_eq_some_iff.1 hi).1
  obtain ⟨q, cs, ix, hS, hq, hgq, hcl, hkp, hle⟩ := Sp.at own sp hil
  rw [Nat.succ_mul] at hle
  obtain ⟨bx, hbx⟩ : ∃ bx, bx = (cs.drop (i * 38)).take 38 := ⟨_, rfl⟩
  have bl : bx.length = 38 := by rw [hbx, List.length_take, List.length_drop]; omega
  have ld : A.load true 38 (.pointer (some ⟨q, i * 38, none⟩)) h = some (.agg ⟨bx⟩) := load_of hgq (by omega) hbx.symm
  have hb : ∀ o v, o < 38 → o ≠ 1 → (T.cells p22 p33 p34 p35)[o]? = some v → bx[o]? = some v := fun o v ho h1 hv => by
    rw [hbx, List.getElem?_take, if_pos ho, List.getElem?_drop, hkp _ (.inl ⟨rfl, by omega⟩), flat_at own.1.1 hi ho]
    exact hv
  obtain ⟨g1, h2, eb, est, gt2, x2, n2⟩ := box_put (n := 38) (z := MailD7.Z71) (zl := MailD7.Z71L) (vs := bx) (h := h) rfl rfl bl
  obtain ⟨t, ht⟩ : ∃ t, t = h.next := ⟨_, rfl⟩
  rw [← ht] at eb est gt2
  have ht0 : h0.next ≤ t := by have := sp.1; omega
  have sp2 := sp.ext x2
  obtain ⟨sm1, sm2, sm3, sm4, sm5⟩ := sm
  have sm1 : T.pk.subs.length ≤ 100 := sm1
  have l35 := ap.1
  obtain ⟨h3, e3, sp3, g3⟩ := spA C L (fun x3 x2 x0 h => MailD7.p20arborlbrr C L x3 x2 x0 h kn) s33 (by rw [List.length_map]; omega) ht0 (hb 33 p33 (by omega) (by omega) rfl) (.int .i64 (i : Int)) x0 (T.mss.map MsD.cells).length 0 L h2 (by omega) (by rw [List.length_map]; omega) sp2 gt2
  have e3' : MailD7.p20arborlbrlrbw C L (fun x3 x2 x0 h => MailD7.p20arborlbrr C L x3 x2 x0 h kn) L (.int .i64 0) (ptrV t) (.int .i64 (i : Int)) x0 h2 = _ := e3
  obtain ⟨h4, e4, sp4, g4⟩ := spB C L (fun x3 x2 x0 h => MailD7.p20arborlbrrr C L x3 x2 x0 h kn) s34 (by rw [List.length_map]; omega) ht0 (hb 34 p34 (by omega) (by omega) rfl) (.int .i64 (i : Int)) x0 (T.cls.map txC).length 0 L h3 (by omega) (by rw [List.length_map]; omega) sp3 g3
  have e4' : MailD7.p20arborlbrrlrbw C L (fun x3 x2 x0 h => MailD7.p20arborlbrrr C L x3 x2 x0 h kn) L (.int .i64 0) (ptrV t) (.int .i64 (i : Int)) x0 h3 = _ := e4
  obtain ⟨h5, e5, sp5, g5⟩ := spC C L hL (fun x3 x2 x0 h => MailD7.p20arborlbrrrr C L x3 x2 x0 h kn) s35 ap (by omega) sm5 ht0 (hb 35 p35 (by omega) (by omega) rfl) (.int .i64 (i : Int)) x0 pe.length 0 L h4 (by omega) (by omega) sp4 g4
  have e5' : MailD7.p20arborlbrrrlrbw C L (fun x3 x2 x0 h => MailD7.p20arborlbrrrr C L x3 x2 x0 h kn) L (.int .i64 0) (ptrV t) (.int .i64 (i : Int)) x0 h4 = _ := e5
  obtain ⟨h6, e6, sp6, g6⟩ := spD C L (fun x2 x0 h => MailD7.p20arborlbrrrrr C L x2 x0 h kn) s22 (by rw [List.length_map]; omega) ht0 (hb 27 p22 (by omega) (by omega) rfl) (.int .i64 (i : Int)) x0 (T.pk.subs.map sbC).length 0 L h5 (by omega) (by rw [List.length_map]; omega) sp5 g5
  have e6' : MailD7.p20arborlbrrrrlrbw C L (fun x2 x0 h => MailD7.p20arborlbrrrrr C L x2 x0 h kn) L (.int .i64 0) (ptrV t) (.int .i64 (i : Int)) x0 h5 = _ := e6
  obtain ⟨q', cs', ix', hS', hq', hgq', hcl', _, hle'⟩ := Sp.at own sp6 hil
  rw [Nat.succ_mul] at hle'
  obtain ⟨h7, es, sp7, _⟩ := sp6.store hS' hq' hgq' (o := i * 38 + 1) (by omega) (by unfold Kp; omega) (v := .int .i64 (-99)) rfl
  refine ⟨h7, ?_, sp7⟩
  simp only [MailD7.p20arborlb, MailD7.p20arborlbl, ix, bnd_some, ld, eb, bnd2_some, est, MailD7.p20arborlbr, MailD7.p20arborlbrl, MailD7.p20arborlbrll, MailD7.p20arborlbrlr, MailD7.p20arborlbrlrb]
  refine Eq.trans e3' ?_
  simp only [MailD7.p20arborlbrr, MailD7.p20arborlbrrl, MailD7.p20arborlbrrll, MailD7.p20arborlbrrlr, MailD7.p20arborlbrrlrb]
  refine Eq.trans e4' ?_
  simp only [MailD7.p20arborlbrrr, MailD7.p20arborlbrrrl, MailD7.p20arborlbrrrll, MailD7.p20arborlbrrrlr, MailD7.p20arborlbrrrlrb]
  refine Eq.trans e5' ?_
  simp only [MailD7.p20arborlbrrrr, MailD7.p20arborlbrrrrl, MailD7.p20arborlbrrrrll, MailD7.p20arborlbrrrrlr, MailD7.p20arborlbrrrrlrb]
  refine Eq.trans e6' ?_
  simp only [MailD7.p20arborlbrrrrr, ix', bnd_some, fieldAddr_eq, es]

theorem sp_all (C : CF) (L : Nat) (hL : 200 ≤ L) {β : Type} (kx : H → Option β) {S : Nat → Prop} {h0 : H} {x0 : Value} {els : List (List Value)} {c : List ItD} (own : OwnW S 38 h0 x0 els) (ac : All2 (ItIn (OwnW S) h0) els c) (sm : SmallC c) :
    ∀ (d i m : Nat) (h : H), i + d = c.length → d < m → Sp S h0 h → ∃ h', MailD7.p20arbw C L kx m (.int .i64 (i : Int)) x0 h = kx h' ∧ Sp S h0 h' := by
  have hlen : A.lenS x0 = some (.int .i64 (c.length : Int)) := by have := own.slice.len.1; rwa [ac.1] at this
  have h20 := sm.1
  intro d
  induction d with
  | zero =>
    intro i m h hi hm sp
    obtain ⟨m, rfl⟩ : ∃ q, m = q + 1 := ⟨m - 1, by omega⟩
    have hd : decide ((i : Int) < (c.length : Int)) = false := by rw [decide_eq_false_iff_not]; omega
    refine ⟨h, ?_, sp⟩
    simp only [MailD7.p20arbw, MailD7.p20arbo, MailD7.p20arbol, hlen, bnd_some, bin_lss, hd, toBK_bool, cond_false]
  | succ d ih =>
    intro i m h hi hm sp
    obtain ⟨m, rfl⟩ : ∃ q, m = q + 1 := ⟨m - 1, by omega⟩
    have hd : decide ((i : Int) < (c.length : Int)) = true := by rw [decide_eq_true_iff]; omega
    have hwr : IntKind.i64.wrap ((i : Int) + 1) = ((i + 1 : Nat) : Int) := wrap_succ (by omega)
    obtain ⟨T, hT⟩ : ∃ T, c[i]? = some T := ⟨_, List.getElem?_eq_getElem (by omega)⟩
    obtain ⟨cs, hcs, it⟩ := ac.at2 hT
    obtain ⟨h1, e1, sp1⟩ := sp_round C L hL (fun x2 x0 h => MailD7.p20arborr C L x2 x0 h (fun x2 x0 h => MailD7.p20arbw C L kx m x2 x0 h)) own hcs it (sm.2 T (List.mem_of_getElem? hT)) sp
    obtain ⟨h', e2, r⟩ := ih (i + 1) m h1 (by omega) (by omega) sp1
    refine ⟨h', ?_, r⟩
    simp only [MailD7.p20arbw, MailD7.p20arbo, MailD7.p20arbol, hlen, bnd_some, bin_lss, hd, toBK_bool, cond_true, MailD7.p20arbor, MailD7.p20arborl]
    refine Eq.trans e1 ?_
    simp only [MailD7.p20arborr, bin_add, bnd_some, hwr]
    exact e2

/-- spoil. -/
theorem S20 (k : Nat) {S : Nat → Prop} {h : H} {v : Value} {c : List ItD} (ci : CmdIn (OwnW S) h v c) (sm : SmallC c) : ∃ h', callB Try.prog 0 [9] (k + 301) 20 [v] h = some (.tuple ⟨[]⟩, h') ∧ Sp S h h' := by
  obtain ⟨els, own, ac⟩ := ci
  rw [MailD7.F20eq [9] rfl]
  obtain ⟨h', e, sp⟩ := sp_all (callB Try.prog 0 [9] (k + 300)) (k + 300) (by omega) (fun h => some (Value.tuple ⟨[]⟩, h)) own ac sm c.length 0 (k + 300) h (by omega) (by have := sm.1; omega) (Sp.refl S h)
  have e' : MailD7.p20arbw (callB Try.prog 0 [9] (k + 300)) (k + 300) (fun h => some (Value.tuple ⟨[]⟩, h)) (k + 300) (.int .i64 0) v h = _ := e
  refine ⟨h', ?_, sp⟩
  simp only [MailD7.F20, MailD7.p20a, MailD7.p20al, MailD7.p20ar, MailD7.p20arb]
  exact e'
end Go.Proofs.Ytdjhkdogpbiglaa.MailD
