/-
  Mail: what moves only the call's own blocks of a kind; a packet is copied, by both texts; rows are copied.
-/
import Derived.Test.YtdjhkdogpbiglaaMailE4
namespace Go.Proofs.Ytdjhkdogpbiglaa.MailD
open Go Go.AM

/-- Only blocks from b on, of these kinds, may be other ones. -/
def Mv (b : Nat) (tags : List Nat) (h h' : H) : Prop := ExtBut (fun i => b ≤ i ∧ ∃ cs m, h.get i = some (.cells cs (some m)) ∧ m ∈ tags) h h'

theorem Mv.ofExt {b : Nat} {tags : List Nat} {h h' : H} (x : Ext h h') : Mv b tags h h' := x.but
theorem Mv.refl (b : Nat) (tags : List Nat) (h : H) : Mv b tags h h := (Ext.refl h).but
theorem Mv.trans {b : Nat} {tags : List Nat} {h h1 h2 : H} (x : Mv b tags h h1) (y : Mv b tags h1 h2) : Mv b tags h h2 :=
  ⟨Nat.le_trans x.next y.next, fun id hi hs => by
    have e := x.get id hi hs
    rw [y.get id (Nat.lt_of_lt_of_le hi x.next) (fun ⟨hb, cs, m, hg, hm⟩ => hs ⟨hb, cs, m, by rw [← e]; exact hg, hm⟩), e]⟩
theorem Mv.mono {b : Nat} {tags tags' : List Nat} {h h' : H} (x : Mv b tags h h') (ht : ∀ m ∈ tags, m ∈ tags') : Mv b tags' h h' :=
  ⟨x.next, fun id hi hs => x.get id hi fun ⟨hb, cs, m, hg, hm⟩ => hs ⟨hb, cs, m, hg, ht m hm⟩⟩
theorem Mv.put {b : Nat} {tags : List Nat} {h : H} {q m : Nat} {cs : List Value} (hb : b ≤ q) (hg : h.get q = some (.cells cs (some m))) (hm : m ∈ tags) (k : Blk) : Mv b tags h (h.put q k) :=
  ExtBut.put ⟨Nat.le_refl _, fun _ _ _ => rfl⟩ q k ⟨hb, cs, m, hg, hm⟩
theorem Mv.ext {b : Nat} {tags : List Nat} {h0 h h' : H} (x : Ext h0 h) (y : Mv b tags h h') (hb : h0.next ≤ b) : Ext h0 h' :=
  ⟨Nat.le_trans x.next y.next, fun id hi => by rw [y.get id (Nat.lt_of_lt_of_le hi x.next) (fun ⟨h1, _⟩ => by omega)]; exact x.get id hi⟩
theorem Mv.vec {b : Nat} {n : Nat} {h h' : H} {v : Value} {es : List (List Value)} (x : Vec n h v es) (hb : ∀ i, sid v = some i → b ≤ i) (y : ExtBut (fun i => sid v = some i) h h') : Mv b [n] h h' :=
  ⟨y.next, fun id hi hs => y.get id hi fun e => by
    rcases x.2 with ⟨rfl, _⟩ | ⟨q, rfl, _, hg⟩
    · simp [sid] at e
    · have : q = id := by simpa [sid] using e
      subst this
      exact hs ⟨hb _ e, _, n, hg, by simp⟩⟩

theorem OwnW.mv {S : Nat → Prop} {b n : Nat} {tags : List Nat} {h h' : H} {v : Value} {els : List (List Value)} (x : OwnW S n h v els) (e : Mv b tags h h') (hn : n ∉ tags) : OwnW S n h' v els := by
  by_cases hne : els = []
  · subst hne
    refine ⟨⟨by simp, ?_⟩, x.2.1, fun h => absurd rfl h⟩
    rcases x.1.2 with hv | ⟨id, off, c, hv, hl, hi, _⟩
    · exact .inl hv
    · exact .inr ⟨id, off, c, hv, hl, Nat.lt_of_lt_of_le hi e.next, fun h => absurd rfl h⟩
  · obtain ⟨q, c, hv, hg⟩ := x.2.2 hne
    have hq : sid v = some q := by rw [hv]; rfl
    have hq2 := x.1.sid_lt q hq
    have e2 : h'.get q = h.get q := e.get q hq2 fun ⟨_, cs, m, hg', hm⟩ => by
      rw [hg] at hg'
      injection hg' with hg'; injection hg' with _ hg'; injection hg' with hg'
      subst hg'
      exact hn hm
    refine ⟨⟨x.1.1, ?_⟩, x.2.1, fun _ => ⟨q, c, hv, by rw [e2]; exact hg⟩⟩
    rcases x.1.2 with ⟨_, h0⟩ | ⟨id, off, c', hv', hl, hi, h3⟩
    · exact absurd h0 hne
    · have : id = q := by rw [hv'] at hq; simpa [sid] using hq
      subst this
      refine .inr ⟨id, off, c', hv', hl, Nat.lt_of_lt_of_le hi e.next, fun hh => ?_⟩
      obtain ⟨cells, own, hg3, h4, h5⟩ := h3 hh
      exact ⟨cells, own, by rw [e2]; exact hg3, h4, h5⟩
theorem Vec.mv {b n : Nat} {tags : List Nat} {h h' : H} {v : Value} {es : List (List Value)} (x : Vec n h v es) (e : Mv b tags h h') (hn : n ∉ tags) : Vec n h' v es := by
  refine ⟨x.1, ?_⟩
  rcases x.2 with hv | ⟨q, hv, hq, hg⟩
  · exact .inl hv
  · refine .inr ⟨q, hv, Nat.lt_of_lt_of_le hq e.next, ?_⟩
    rw [e.get q hq fun ⟨_, cs, m, hg', hm⟩ => by
      rw [hg] at hg'
      injection hg' with hg'; injection hg' with _ hg'; injection hg' with hg'
      subst hg'
      exact hn hm]
    exact hg
theorem PkIn.mv {S : Nat → Prop} {b : Nat} {tags : List Nat} {h h' : H} {x : List Value} {p : PkD} (i : PkIn (OwnW S) h x p) (e : Mv b tags h h') (h2 : 2 ∉ tags) : PkIn (OwnW S) h' x p := by
  obtain ⟨w, hx, s⟩ := i
  exact ⟨w, hx, s.mv e h2⟩
theorem ItIn.mv {S : Nat → Prop} {b : Nat} {tags : List Nat} {h h' : H} {x : List Value} {p : ItD} (i : ItIn (OwnW S) h x p) (e : Mv b tags h h') (h1 : 1 ∉ tags) (h2 : 2 ∉ tags) (h4 : 4 ∉ tags) (h24 : 24 ∉ tags) : ItIn (OwnW S) h' x p := by
  obtain ⟨a, b, c, d, es, hx, s22, s33, s34, s35, al⟩ := i
  exact ⟨a, b, c, d, es, hx, s22.mv e h2, s33.mv e h4, s34.mv e h1, s35.mv e h24, al.mono fun _ _ i => i.mv e h2⟩
theorem PkIn.own {S T : Nat → Prop} (hs : ∀ i, S i → T i) {h : H} {x : List Value} {p : PkD} (i : PkIn (OwnW S) h x p) : PkIn (OwnW T) h x p := i.map fun _ _ _ s => s.mono hs

/-- append to nil. -/
theorem app_nilD {n bs : Nat} {h : H} {v : Value} {els : List (List Value)} (s : SliceE n h v els) (hb : els.length * bs ≤ 2 ^ 47) (hl : els.length ≤ 2 ^ 47) : ∃ v' h', A.append n bs (.slice none 0 0) v h = some (v', h') ∧ OwnW (fun i => h.next ≤ i) n h' v' els ∧ Ext h h' := by
  obtain ⟨_, hlen⟩ := s.len
  have hel := s.elems
  by_cases h0 : els.length = 0
  · have hz : els = [] := List.length_eq_zero_iff.1 h0
    subst hz
    refine ⟨.slice none 0 0, h, ?_, OwnW.nil _ _ _, Ext.refl h⟩
    have e0 : Nat.beq ([] : List (List Value)).length 0 = true := rfl
    simp only [A.append, hel, hlen, e0, cond_true]
  · have e0 : Nat.beq els.length 0 = false := by rw [T.beq_dec]; simpa using h0
    have e2 : Nat.ble (els.length * bs) (2 ^ 47) = true := ble_iff.2 hb
    have e3 : Nat.ble els.length (2 ^ 47) = true := ble_iff.2 hl
    have hfl : els.flatten.length = els.length * n := flatten_len s.1
    have hg : (h.push (.cells els.flatten (some n))).get h.next = some (.cells els.flatten (some n)) := by rw [H.get_push, if_pos rfl]
    refine ⟨.slice (some ⟨h.next, 0, none⟩) els.length (2 * els.length), h.push (.cells els.flatten (some n)), ?_, ⟨⟨s.1, .inr ⟨h.next, 0, _, rfl, by omega, Nat.lt_succ_self _, fun _ => ⟨_, _, hg, by omega, by rw [List.drop_zero, List.take_of_length_le (by omega)]⟩⟩⟩, fun i hi => ?_, fun _ => ⟨h.next, _, rfl, hg⟩⟩, Ext.push h _⟩
    · simp only [A.append, hel, hlen, e0, cond_false, e2, e3, Bool.and_self, cond_true]
    · have : h.next = i := by simpa [sid] using hi
      omega

/-- slices.Clone's append. -/
theorem clone_appD {n bs : Nat} {h : H} {v : Value} {els : List (List Value)} (s : SliceE n h v els) (z : List Value) (hb : els.length * bs ≤ 2 ^ 47) (hl : els.length ≤ 2 ^ 47) :
    ∃ h1 v' h', A.buildSlice n 0 z [] h = some (.slice (some ⟨h.next, 0, none⟩) 0 1, h1) ∧ A.append n bs (.slice (some ⟨h.next, 0, none⟩) 0 1) v h1 = some (v', h') ∧ OwnW (fun i => h.next ≤ i) n h' v' els ∧ Ext h h' := by
  obtain ⟨h1, hh1⟩ : ∃ h1, h1 = h.push (.cells [] (some n)) := ⟨_, rfl⟩
  have x1 : Ext h h1 := hh1 ▸ Ext.push h _
  have n1 : h1.next = h.next + 1 := by rw [hh1]; rfl
  have gt : h1.get h.next = some (.cells [] (some n)) := by rw [hh1, H.get_push, if_pos rfl]
  have s1 := s.ext x1
  obtain ⟨_, hlen⟩ := s1.len
  have hel := s1.elems
  have bsl : A.buildSlice n 0 z [] h = some (.slice (some ⟨h.next, 0, none⟩) 0 1, h1) := by rw [hh1]; rfl
  by_cases h0 : els = []
  · subst h0
    refine ⟨h1, .slice (some ⟨h.next, 0, none⟩) 0 1, h1, bsl, ?_, ⟨⟨by simp, .inr ⟨h.next, 0, 1, rfl, by simp, by omega, fun h => absurd rfl h⟩⟩, fun i hi => ?_, fun h => absurd rfl h⟩, x1⟩
    · simp only [A.append, hel, hlen]; rfl
    · have e : h.next = i := (by simpa [AM.sid] using hi)
      omega
  · have hpos : 0 < els.length := List.length_pos_iff.2 h0
    have hfl : els.flatten.length = els.length * n := flatten_len s.1
    have hg : (h1.push (.cells els.flatten (some n))).get h1.next = some (.cells els.flatten (some n)) := by rw [H.get_push, if_pos rfl]
    refine ⟨h1, .slice (some ⟨h1.next, 0, none⟩) els.length (2 * els.length), h1.push (.cells els.flatten (some n)), bsl, ?_, ⟨⟨s.1, .inr ⟨h1.next, 0, _, rfl, by omega, Nat.lt_succ_self _, fun _ => ⟨_, _, hg, by omega, by rw [List.drop_zero, List.take_of_length_le (by omega)]⟩⟩⟩, fun i hi => ?_, fun _ => ⟨h1.next, _, rfl, hg⟩⟩, x1.pushed _⟩
    · simp only [A.append, hel, hlen, gt]
      have e0 : Nat.beq els.length 0 = false := by rw [T.beq_dec]; simp; omega
      have e1 : Nat.ble (0 + els.length) (1 / 2) = false := by rw [ble_dec, decide_eq_false_iff_not]; omega
      have e2 : Nat.ble ((0 + els.length) * bs) (2 ^ 47) = true := ble_iff.2 (by simpa using hb)
      have e3 : Nat.ble (0 + els.length) (2 ^ 47) = true := ble_iff.2 (by simpa using hl)
      have e4 : Nat.ble (0 + 0 * n) ([] : List Value).length = true := ble_iff.2 (by simp)
      rw [e0, e1, e2, e3, e4]
      simp
    · have : h1.next = i := by simpa [sid] using hi
      omega

theorem T41D (k : Nat) {h : H} {v : Value} {els : List (List Value)} (s : SliceE 38 h v els) (hl : els.length ≤ 100) : ∃ v' h', callB Try.prog 0 [9] (k + 1) 41 [v] h = some (v', h') ∧ OwnW (fun i => h.next ≤ i) 38 h' v' els ∧ Ext h h' := by
  rw [F41eq [9] rfl]
  rcases s.nil_or with ⟨rfl, rfl⟩ | ⟨a, c, rfl⟩
  · have e : A.bin Try.prog .eql 29 (.slice none 0 0) (.slice none 0 0) = some (.bool true) := by kernel_rfl
    exact ⟨_, h, by simp only [F41, p41a, e, bnd_some, toBK_bool, cond_true], OwnW.nil _ 38 h, Ext.refl h⟩
  · obtain ⟨h1, v', h', e1, e2, c', x'⟩ := clone_appD (bs := 384) s Z71L (by omega) (by omega)
    exact ⟨v', h', by simp only [F41, p41a, bin_slice_nil Try.underlying29, bnd_some, toBK_bool, cond_false, e1, bnd2_some, e2], c', x'⟩
theorem T43D (k : Nat) {h : H} {v : Value} {els : List (List Value)} (s : SliceE 4 h v els) (hl : els.length ≤ 100) : ∃ v' h', callB Try.prog 0 [9] (k + 1) 43 [v] h = some (v', h') ∧ OwnW (fun i => h.next ≤ i) 4 h' v' els ∧ Ext h h' := by
  rw [F43eq [9] rfl]
  rcases s.nil_or with ⟨rfl, rfl⟩ | ⟨a, c, rfl⟩
  · have e : A.bin Try.prog .eql 67 (.slice none 0 0) (.slice none 0 0) = some (.bool true) := by kernel_rfl
    exact ⟨_, h, by simp only [F43, p43a, e, bnd_some, toBK_bool, cond_true], OwnW.nil _ 4 h, Ext.refl h⟩
  · obtain ⟨h1, v', h', e1, e2, c', x'⟩ := clone_appD (bs := 40) s Z63L (by omega) (by omega)
    exact ⟨v', h', by simp only [F43, p43a, bin_slice_nil Try.underlying67, bnd_some, toBK_bool, cond_false, e1, bnd2_some, e2], c', x'⟩
theorem T44D (k : Nat) {h : H} {v : Value} {els : List (List Value)} (s : SliceE 1 h v els) (hl : els.length ≤ 100) : ∃ v' h', callB Try.prog 0 [9] (k + 1) 44 [v] h = some (v', h') ∧ OwnW (fun i => h.next ≤ i) 1 h' v' els ∧ Ext h h' := by
  rw [F44eq [9] rfl]
  rcases s.nil_or with ⟨rfl, rfl⟩ | ⟨a, c, rfl⟩
  · have e : A.bin Try.prog .eql 68 (.slice none 0 0) (.slice none 0 0) = some (.bool true) := by kernel_rfl
    exact ⟨_, h, by simp only [F44, p44a, e, bnd_some, toBK_bool, cond_true], OwnW.nil _ 1 h, Ext.refl h⟩
  · obtain ⟨h1, v', h', e1, e2, c', x'⟩ := clone_appD (bs := 16) s Z9L (by omega) (by omega)
    exact ⟨v', h', by simp only [F44, p44a, bin_slice_nil Try.underlying68, bnd_some, toBK_bool, cond_false, e1, bnd2_some, e2], c', x'⟩
theorem T45D (k : Nat) {h : H} {v : Value} {els : List (List Value)} (s : SliceE 24 h v els) (hl : els.length ≤ 100) : ∃ v' h', callB Try.prog 0 [9] (k + 1) 45 [v] h = some (v', h') ∧ OwnW (fun i => h.next ≤ i) 24 h' v' els ∧ Ext h h' := by
  rw [F45eq [9] rfl]
  rcases s.nil_or with ⟨rfl, rfl⟩ | ⟨a, c, rfl⟩
  · have e : A.bin Try.prog .eql 69 (.slice none 0 0) (.slice none 0 0) = some (.bool true) := by kernel_rfl
    exact ⟨_, h, by simp only [F45, p45a, e, bnd_some, toBK_bool, cond_true], OwnW.nil _ 24 h, Ext.refl h⟩
  · obtain ⟨h1, v', h', e1, e2, c', x'⟩ := clone_appD (bs := 200) s Z66L (by omega) (by omega)
    exact ⟨v', h', by simp only [F45, p45a, bin_slice_nil Try.underlying69, bnd_some, toBK_bool, cond_false, e1, bnd2_some, e2], c', x'⟩

/-- What both texts' Copy of a packet do. -/
theorem copyP {h : H} {x : List Value} {p : PkD} (px : PkIn SliceE h x p) (hp : p.Small) (z : Value) (hz : cellsL z = some Z66L) : ∃ h1 h2 w v' h3 h4 h5 cs, A.box 24 (.agg ⟨x⟩) h = some (ptrV h.next, h1) ∧ A.box 24 z h1 = some (ptrV h1.next, h2) ∧ A.load false 1 (.pointer (some ⟨h.next, 22, none⟩)) h2 = some w ∧
    A.append 2 24 (.slice none 0 0) w h2 = some (v', h3) ∧ A.store 1 (.pointer (some ⟨h.next, 22, none⟩)) v' h3 = some h4 ∧ A.load true 24 (ptrV h.next) h4 = some (.agg ⟨cs⟩) ∧ A.store 24 (ptrV h1.next) (.agg ⟨cs⟩) h4 = some h5 ∧ A.load true 24 (ptrV h1.next) h5 = some (.agg ⟨cs⟩) ∧
    PkIn (OwnW (fun i => h.next ≤ i)) h5 cs p ∧ Ext h h5 := by
  obtain ⟨w, rfl, s⟩ := px
  obtain ⟨h1, hh1⟩ : ∃ h1, h1 = h.push (.cells (p.cells w) (some 0)) := ⟨_, rfl⟩
  have b1 : A.box 24 (.agg ⟨p.cells w⟩) h = some (ptrV h.next, h1) := by rw [hh1]; rfl
  have n1 : h1.next = h.next + 1 := by rw [hh1]; rfl
  have x1 : Ext h h1 := hh1 ▸ Ext.push h _
  have g1 : h1.get h.next = some (.cells (p.cells w) (some 0)) := by rw [hh1, H.get_push, if_pos rfl]
  obtain ⟨h2, hh2⟩ : ∃ h2, h2 = h1.push (.cells Z66L (some 0)) := ⟨_, rfl⟩
  have b2 : A.box 24 z h1 = some (ptrV h1.next, h2) := by rw [box_eq, hz, hh2]; rfl
  have n2 : h2.next = h1.next + 1 := by rw [hh2]; rfl
  have x2 : Ext h1 h2 := hh2 ▸ Ext.push h1 _
  have g2a : h2.get h.next = some (.cells (p.cells w) (some 0)) := by rw [x2.get _ (by omega)]; exact g1
  have g2b : h2.get h1.next = some (.cells Z66L (some 0)) := by rw [hh2, H.get_push, if_pos rfl]
  have l22 : A.load false 1 (.pointer (some ⟨h.next, 22, none⟩)) h2 = some w := by rw [load1_eq, g2a]; rfl
  have hl : (p.subs.map sbC).length ≤ 100 := by rw [List.length_map]; exact hp
  obtain ⟨v', h3, ap, own, x3⟩ := app_nilD (bs := 24) ((s.ext x1).ext x2) (by omega) (by omega)
  have nx3 := x3.next
  have g3a : h3.get h.next = some (.cells (p.cells w) (some 0)) := by rw [x3.get _ (by omega)]; exact g2a
  have g3b : h3.get h1.next = some (.cells Z66L (some 0)) := by rw [x3.get _ (by omega)]; exact g2b
  obtain ⟨h4, hh4⟩ : ∃ h4, h4 = h3.put h.next (.cells (p.cells v') (some 0)) := ⟨_, rfl⟩
  have s1 : A.store 1 (.pointer (some ⟨h.next, 22, none⟩)) v' h3 = some h4 := by
    rw [store_eq, g3a, own.slice.cells, hh4]
    rfl
  have g4a : h4.get h.next = some (.cells (p.cells v') (some 0)) := by rw [hh4, H.get_put, if_pos rfl]
  have g4b : h4.get h1.next = some (.cells Z66L (some 0)) := by rw [hh4, H.get_put, if_neg (by omega)]; exact g3b
  have l4 : A.load true 24 (ptrV h.next) h4 = some (.agg ⟨p.cells v'⟩) := load_box g4a rfl
  obtain ⟨h5, hh5⟩ : ∃ h5, h5 = h4.put h1.next (.cells (p.cells v') (some 0)) := ⟨_, rfl⟩
  have s2 : A.store 24 (ptrV h1.next) (.agg ⟨p.cells v'⟩) h4 = some h5 := by
    rw [store_eq, g4b, hh5]
    rfl
  have g5 : h5.get h1.next = some (.cells (p.cells v') (some 0)) := by rw [hh5, H.get_put, if_pos rfl]
  have l5 : A.load true 24 (ptrV h1.next) h5 = some (.agg ⟨p.cells v'⟩) := load_box g5 rfl
  have m45 : Mv h.next [0] h3 h5 := by
    rw [hh5, hh4] at *
    exact (Mv.put (Nat.le_refl _) g3a (by simp) _).trans (Mv.put (by omega) g4b (by simp) _)
  refine ⟨h1, h2, w, v', h3, h4, h5, p.cells v', b1, b2, l22, ap, s1, l4, s2, l5, ⟨v', rfl, (own.mono (T := fun i => h.next ≤ i) fun i hi => by omega).mv m45 (by simp)⟩, Mv.ext (((x1.trans x2).trans x3)) m45 (Nat.le_refl _)⟩

theorem T42D (k : Nat) {h : H} {x : List Value} {p : PkD} (px : PkIn SliceE h x p) (hp : p.Small) : ∃ cs h', callB Try.prog 0 [9] (k + 1) 42 [.agg ⟨x⟩] h = some (.agg ⟨cs⟩, h') ∧ PkIn (OwnW (fun i => h.next ≤ i)) h' cs p ∧ Ext h h' := by
  rw [F42eq [9] rfl]
  obtain ⟨h1, h2, w, v', h3, h4, h5, cs, b1, b2, l22, ap, s1, l4, s2, l5, own, x5⟩ := copyP px hp Z66 rfl
  refine ⟨cs, h5, ?_, own, x5⟩
  simp only [F42, p42a, b1, bnd2_some, b2, fieldAddr_eq, Nat.zero_add, bnd_some, l22, ap, s1, l4, s2, l5]
  rfl
theorem T37D (k : Nat) {h : H} {x : List Value} {p : PkD} (px : PkIn SliceE h x p) (hp : p.Small) : ∃ cs h', callB Try.prog 0 [9] (k + 1) 37 [.agg ⟨x⟩] h = some (.agg ⟨cs⟩, h') ∧ PkIn (OwnW (fun i => h.next ≤ i)) h' cs p ∧ Ext h h' := by
  rw [MailD7.F37eq [9] rfl]
  obtain ⟨h1, h2, w, v', h3, h4, h5, cs, b1, b2, l22, ap, s1, l4, s2, l5, own, x5⟩ := copyP px hp MailD7.Z66 rfl
  refine ⟨cs, h5, ?_, own, x5⟩
  simp only [MailD7.F37, MailD7.p37a, b1, bnd2_some, b2, fieldAddr_eq, Nat.zero_add, bnd_some, l22, ap, s1, l4, s2, l5]
  rfl

/-- A place of a slice of the call's own. -/
theorem OwnW.at {S : Nat → Prop} {n : Nat} {h : H} {v : Value} {els : List (List Value)} (c : OwnW S n h v els) {i : Nat} (hi : i < els.length) : ∃ q, A.idxS n v (.int .i64 (i : Int)) = some (.pointer (some ⟨q, i * n, none⟩)) ∧ S q ∧ q < h.next ∧ AM.sid v = some q ∧ h.get q = some (.cells els.flatten (some n)) ∧
    A.load true n (.pointer (some ⟨q, i * n, none⟩)) h = some (.agg ⟨els[i]⟩) ∧
    ∀ (w : List Value) (g : H), w.length = n → g.get q = h.get q → h.next ≤ g.next → A.store n (.pointer (some ⟨q, i * n, none⟩)) (.agg ⟨w⟩) g = some (g.put q (.cells (els.set i w).flatten (some n))) ∧ OwnW S n (g.put q (.cells (els.set i w).flatten (some n))) v (els.set i w) := by
  have hne : els ≠ [] := fun e => by subst e; simp at hi
  obtain ⟨q, cc, hv, hg⟩ := c.2.2 hne
  have hsq : sid v = some q := by rw [hv]; rfl
  have hq := c.1.sid_lt q hsq
  have hS := c.2.1 q hsq
  have hfl := flatten_len c.1.1
  have hle : (i + 1) * n ≤ els.length * n := Nat.mul_le_mul_right n hi
  rw [Nat.succ_mul] at hle
  have ix := idxS_eq n q 0 els.length cc i .i64 hi
  rw [Nat.zero_add] at ix
  obtain ⟨id, off, cells, own, e1, _, e3, e4, e5, _⟩ := c.1.at (List.getElem?_eq_getElem hi) .i64
  rw [hv, ix] at e1
  have eid : q = id ∧ i * n = off := by
    injection e1 with e1; injection e1 with e1; injection e1 with e1; injection e1 with a b _
    exact ⟨a, b⟩
  obtain ⟨rfl, rfl⟩ := eid
  refine ⟨q, by rw [hv]; exact ix, hS, hq, hsq, hg, load_of e3 e4 e5, fun w g hw hgq hgn => ?_⟩
  rw [store_eq, hgq, hg]
  have c1 : Nat.beq w.length n = true := by rw [beq_dec', decide_eq_true_iff]; exact hw
  have c2 : Nat.ble (i * n + n) els.flatten.length = true := by rw [ble_dec, decide_eq_true_iff]; omega
  have hall : ∀ e ∈ els.set i w, e.length = n := fun e he => by
    rcases List.mem_or_eq_of_mem_set he with h1 | h1
    · exact c.1.1 e h1
    · rw [h1]; exact hw
  have hgg : (g.put q (.cells (els.set i w).flatten (some n))).get q = some (.cells (els.set i w).flatten (some n)) := by rw [H.get_put, if_pos rfl]
  have hfl2 := flatten_len hall
  rw [List.length_set] at hfl2
  have hcl : els.length ≤ cc / 2 := by
    rcases c.1.2 with ⟨_, h0⟩ | ⟨id, off, c', hv', hl, _⟩
    · exact absurd h0 hne
    · rw [hv] at hv'
      injection hv' with _ _ hc
      subst hc
      exact hl
  refine ⟨?_, ⟨hall, .inr ⟨q, 0, cc, by rw [List.length_set]; exact hv, by rw [List.length_set]; exact hcl, Nat.lt_of_lt_of_le hq hgn, fun _ => ⟨_, _, hgg, by rw [List.length_set]; omega, by rw [List.length_set, List.drop_zero, List.take_of_length_le (by omega)]⟩⟩⟩, c.2.1, fun _ => ⟨q, cc, by rw [List.length_set]; exact hv, hgg⟩⟩
  simp only [cellsL_agg, c1, c2, Bool.and_self, cond_true, flatten_splice els i c.1.1 hw hi]
end Go.Proofs.Ytdjhkdogpbiglaa.MailD
