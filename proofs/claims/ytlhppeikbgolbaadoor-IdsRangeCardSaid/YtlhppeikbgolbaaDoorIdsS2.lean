/-
  The functions of a pool of ids, over the abstract machine: what makes and turns a pool.
-/
import Derived.Test.YtlhppeikbgolbaaDoorIdsS1
namespace Go.Proofs.YtlhppeikbgolbaaDoor.IdsD
open Go Go.AM Go.IdsN

theorem zeros_one (v : Value) : ∀ n, A.zeros [v] n = List.replicate n v
  | 0 => rfl
  | n + 1 => by show v :: A.zeros [v] n = _; rw [zeros_one v n]; rfl

theorem map_set (W : List Nat) (j x : Nat) : (W.map fun (w : Nat) => Value.int .u64 (w : Int)).set j (.int .u64 (x : Int)) = (W.set j x).map fun (w : Nat) => Value.int .u64 (w : Int) := by
  rw [List.map_set]

/-- A word is written. -/
theorem store_word {h : H} {b : Nat} {W : List Nat} (hb : h.get b = some (.cells (W.map fun (w : Nat) => Value.int .u64 (w : Int)) (some 1))) {j : Nat} (hj : j < W.length) (x : Nat) :
    A.store 1 (.pointer (some ⟨b, j, none⟩)) (.int .u64 (x : Int)) h = some (h.put b (.cells ((W.set j x).map fun (w : Nat) => Value.int .u64 (w : Int)) (some 1))) := by
  have e : splice (W.map fun (w : Nat) => Value.int .u64 (w : Int)) j [.int .u64 (x : Int)] = (W.set j x).map fun (w : Nat) => Value.int .u64 (w : Int) := by
    rw [splice_one (by simpa using hj), map_set]
  have hle : j + 1 ≤ W.length := hj
  simp [hb, e, hle]

theorem S8 (k : Nat) {h : H} (ht : TabAt h) (h0 : 0 < h.next) : ∃ h', callB Tryd.prog 1 [] (k + 1) 8 [] h = some (ptrV (h.next + 1), h') ∧ Pool h' (h.next + 1) h.next (fun i => decide (i = 0)) 0 ∧ Ext h h' ∧ h'.next = h.next + 2 := by
  rw [F8eq [] rfl]
  have ez : A.zeros Z52L 1024 = (List.replicate 1024 0).map fun (w : Nat) => Value.int .u64 (w : Int) := by
    rw [show Z52L = [Value.int .u64 0] from rfl, zeros_one, List.map_replicate]; rfl
  have em : A.makeSlice 1 8 Z52L (.int .i64 1024) (.int .i64 1024) h = some (.slice (some ⟨h.next, 0, none⟩) 1024 2049, h.push (.cells ((List.replicate 1024 0).map fun (w : Nat) => Value.int .u64 (w : Int)) (some 1))) := by
    rw [← ez]; rfl
  obtain ⟨h1, hh1⟩ : ∃ h1, h1 = h.push (.cells ((List.replicate 1024 0).map fun (w : Nat) => Value.int .u64 (w : Int)) (some 1)) := ⟨_, rfl⟩
  rw [← hh1] at em
  have hn1 : h1.next = h.next + 1 := by rw [hh1]; rfl
  have eb : A.build Z34L [(0, 1, .slice (some ⟨h.next, 0, none⟩) 1024 2049)] = some (.agg ⟨[.slice (some ⟨h.next, 0, none⟩) 1024 2049, .int .i64 0, .int .i64 0]⟩) := rfl
  have g1 : (h1.push (.cells [.slice (some ⟨h.next, 0, none⟩) 1024 2049, .int .i64 0, .int .i64 0] (some 0))).get h.next = some (.cells ((List.replicate 1024 0).map fun (w : Nat) => Value.int .u64 (w : Int)) (some 1)) := by
    rw [H.get_push, if_neg (by omega), hh1, H.get_push, if_pos rfl]
  have g2 : (h1.push (.cells [.slice (some ⟨h.next, 0, none⟩) 1024 2049, .int .i64 0, .int .i64 0] (some 0))).get (h.next + 1) = some (.cells [.slice (some ⟨h.next, 0, none⟩) 1024 2049, .int .i64 0, .int .i64 0] (some 0)) := by
    rw [H.get_push, if_pos (by omega)]
  have es := store_word g1 (j := 0) (by rw [List.length_replicate]; omega) 1
  have ei : A.idxS 1 (.slice (some ⟨h.next, 0, none⟩) 1024 2049) (.int .i64 0) = some (.pointer (some ⟨h.next, 0, none⟩)) := rfl
  refine ⟨((h1.push (.cells [.slice (some ⟨h.next, 0, none⟩) 1024 2049, .int .i64 0, .int .i64 0] (some 0))).put h.next (.cells (((List.replicate 1024 0).set 0 1).map fun (w : Nat) => Value.int .u64 (w : Int)) (some 1))), ?_, ⟨0, (List.replicate 1024 0).set 0 1, ?_⟩, ?_, ?_⟩
  · simp only [F8, p8a, em, bnd2_some, eb, bnd_some, box_eq, cellsL_agg, List.length_cons, List.length_nil, hn1, Nat.zero_add]
    have hq : Nat.beq (0 + 1 + 1 + 1) 3 = true := rfl
    simp only [Nat.zero_add, Nat.reduceAdd] at hq ⊢
    simp only [hq, cond_true, bnd2_some, bnd_some, nilCheck_eq, fieldAddr_eq, Nat.add_zero, load1_eq, g2, List.getElem?_cons_zero, ei]
    rw [show (Value.int .u64 1) = Value.int .u64 ((1 : Nat) : Int) from rfl, es]
    simp only [bnd_some]
  · have hne : h.next + 1 ≠ h.next := by omega
    refine ⟨?_, ?_, hne, by omega, h0, ?_, ?_, by rw [List.length_set, List.length_replicate], ?_, ?_, by omega, by simp, by omega, ?_⟩
    · rw [H.get_put, if_neg hne, g2]; rfl
    · rw [H.get_put, if_pos rfl]
    · show h.next + 1 < h1.next + 1; omega
    · show h.next < h1.next + 1; omega
    · intro w hw
      rcases List.mem_or_eq_of_mem_set hw with h | h
      · have := List.eq_of_mem_replicate h; omega
      · omega
    · intro j w hw c hc
      rw [List.getElem?_set] at hw
      split at hw
      · rename_i hj; subst hj
        rw [List.length_replicate, if_pos (by omega)] at hw
        obtain rfl := Option.some.inj hw
        rw [show (1 : Nat) = 2 ^ 0 from rfl, Nat.testBit_two_pow]
        rw [Bool.eq_iff_iff]; simp; omega
      · rename_i hj
        rw [List.getElem?_replicate] at hw
        split at hw
        · simp at hw; subst hw
          rw [Nat.zero_testBit]
          have : ¬ (64 * j + c = 0) := by omega
          exact (decide_eq_false_iff_not.2 this).symm
        · simp at hw
    · unfold TabAt
      rw [H.get_put, if_neg (by omega), H.get_push, if_neg (by omega), hh1, H.get_push, if_neg (by omega)]
      exact ht
  · exact ((hh1 ▸ Ext.push h _ : Ext h h1).pushed _).put _ _ (Nat.le_refl _)
  · show h1.next + 1 = _; omega

theorem min_i64 (a b : Nat) : A.pureB Tryd.prog .min ⟨[3, 3]⟩ 3 [.int .i64 (a : Int), .int .i64 (b : Int)] = some (.int .i64 ((min a b : Nat) : Int)) := by
  have e : A.pureB Tryd.prog .min ⟨[3, 3]⟩ 3 [.int .i64 (a : Int), .int .i64 (b : Int)] = some (.int .i64 (if (b : Int) < (a : Int) then (b : Int) else (a : Int))) := rfl
  rw [e]
  congr 2
  split <;> omega

theorem set_word {W : List Nat} {tk tk' : Nat → Bool} (hl : ∀ w ∈ W, w < 2 ^ 64) (hb : ∀ j w, W[j]? = some w → ∀ c, c < 64 → w.testBit c = tk (64 * j + c)) {j x : Nat} (hx : x < 2 ^ 64)
    (h1 : ∀ c, c < 64 → x.testBit c = tk' (64 * j + c)) (h2 : ∀ i, i / 64 ≠ j → tk' i = tk i) :
    (∀ w ∈ W.set j x, w < 2 ^ 64) ∧ ∀ i w, (W.set j x)[i]? = some w → ∀ c, c < 64 → w.testBit c = tk' (64 * i + c) := by
  refine ⟨fun w hw => ?_, fun i w hw c hc => ?_⟩
  · rcases List.mem_or_eq_of_mem_set hw with h | h
    · exact hl w h
    · omega
  · rw [List.getElem?_set] at hw
    split at hw
    · rename_i hj; subst hj
      split at hw
      · simp only [Option.some.injEq] at hw; subst hw; exact h1 c hc
      · simp at hw
    · rename_i hj
      rw [hb i w hw c hc, h2]
      omega

theorem load3 {h : H} {p : Nat} {a b c : Value} {o : Option Nat} (hp : h.get p = some (.cells [a, b, c] o)) :
    A.load false 1 (.pointer (some ⟨p, 0, none⟩)) h = some a ∧ A.load false 1 (.pointer (some ⟨p, 1, none⟩)) h = some b ∧ A.load false 1 (.pointer (some ⟨p, 2, none⟩)) h = some c := by
  simp only [load1_eq, hp]
  exact ⟨rfl, rfl, rfl⟩
theorem store_cnt {h : H} {p : Nat} {a b c : Value} (hp : h.get p = some (.cells [a, b, c] (some 0))) (k : IntKind) (v : Int) :
    A.store 1 (.pointer (some ⟨p, 1, none⟩)) (.int k v) h = some (h.put p (.cells [a, .int k v, c] (some 0))) := by
  rw [store_eq, hp]; rfl
theorem store_low {h : H} {p : Nat} {a b c : Value} (hp : h.get p = some (.cells [a, b, c] (some 0))) (k : IntKind) (v : Int) :
    A.store 1 (.pointer (some ⟨p, 2, none⟩)) (.int k v) h = some (h.put p (.cells [a, b, .int k v] (some 0))) := by
  rw [store_eq, hp]; rfl
theorem load_word {h : H} {b : Nat} {W : List Nat} {o : Option Nat} (hb : h.get b = some (.cells (W.map fun (w : Nat) => Value.int .u64 (w : Int)) o)) {j w : Nat} (hw : W[j]? = some w) :
    A.load false 1 (.pointer (some ⟨b, j, none⟩)) h = some (.int .u64 (w : Int)) := by
  rw [load1_eq, hb]
  show (W.map fun (w : Nat) => Value.int .u64 (w : Int))[j]? = _
  rw [List.getElem?_map, hw]; rfl

theorem S12 (k : Nat) {h : H} {p b n : Nat} {tk : Nat → Bool} (r : Pool h p b tk n) {id : Nat} (hid : id < 65536) (hin : (decide (0 < id) && tk id) = true) (hn : 0 < n) :
    ∃ h', callB Tryd.prog 1 [] (k + 3) 12 [ptrV p, .int .u16 (id : Int)] h = some (.bool true, h') ∧ Pool h' p b (fun i => if i = id then false else tk i) (n - 1) ∧ ExtBut (Two p b) h h' ∧ h'.next = h.next := by
  have s13 := S13 k r hid
  rw [hin] at s13
  obtain ⟨low, W, r⟩ := r
  rw [F12eq [] rfl]
  simp only [Bool.and_eq_true, decide_eq_true_eq] at hin
  obtain ⟨hid0, htk⟩ := hin
  obtain ⟨w, hw, hlt, hm⟩ := r.word (j := id / 64) (by omega)
  have hjl : id / 64 < W.length := by rw [r.len]; omega
  have e1 := quo64 hid
  have e2 := rem64 (id := id)
  have e3 := shl1 Tryd.prog 52 (y := id % 64) .u16 (by omega)
  have e4 := andNotU Tryd.prog 52 (x := w) (y := 2 ^ (id % 64))
  have e5 := idxS_eq 1 b 0 1024 2049 (id / 64) .u16 (by omega)
  rw [Nat.zero_add, Nat.mul_one] at e5
  have e6 := store_word r.hb hjl (anU w (2 ^ (id % 64)))
  obtain ⟨h1, hh1⟩ : ∃ h1, h1 = h.put b (.cells ((W.set (id / 64) (anU w (2 ^ (id % 64)))).map fun (w : Nat) => Value.int .u64 (w : Int)) (some 1)) := ⟨_, rfl⟩
  rw [← hh1] at e6
  have g1 : h1.get p = some (.cells [.slice (some ⟨b, 0, none⟩) 1024 2049, .int .i64 (n : Int), .int .i64 (low : Int)] (some 0)) := by rw [hh1, H.get_put, if_neg r.ne]; exact r.hp
  have e7 : IntKind.i64.wrap ((n : Int) - 1) = ((n - 1 : Nat) : Int) := by rw [wrap64 (by omega) (by have := r.hn; omega)]; omega
  have e8 : A.conv Tryd.prog 25 3 (.int .u16 ((id / 64 : Nat) : Int)) = some (.int .i64 ((id / 64 : Nat) : Int)) := by
    have : A.conv Tryd.prog 25 3 (.int .u16 ((id / 64 : Nat) : Int)) = some (.int .i64 (IntKind.i64.wrap ((id / 64 : Nat) : Int))) := rfl
    rw [this, wrap_nat (by omega)]
  have e9 := min_i64 low (id / 64)
  obtain ⟨h2, hh2⟩ : ∃ h2, h2 = h1.put p (.cells [.slice (some ⟨b, 0, none⟩) 1024 2049, .int .i64 ((n - 1 : Nat) : Int), .int .i64 (low : Int)] (some 0)) := ⟨_, rfl⟩
  have ea := store_cnt g1 .i64 ((n - 1 : Nat) : Int)
  rw [← hh2] at ea
  have g2 : h2.get p = some (.cells [.slice (some ⟨b, 0, none⟩) 1024 2049, .int .i64 ((n - 1 : Nat) : Int), .int .i64 (low : Int)] (some 0)) := by rw [hh2, H.get_put, if_pos rfl]
  have eb := store_low g2 .i64 ((min low (id / 64) : Nat) : Int)
  have l0 := load3 r.hp
  have l1 := load3 g1
  have l2 := load3 g2
  have lw := load_word r.hb hw
  refine ⟨h2.put p (.cells [.slice (some ⟨b, 0, none⟩) 1024 2049, .int .i64 ((n - 1 : Nat) : Int), .int .i64 ((min low (id / 64) : Nat) : Int)] (some 0)), ?_, ?_, ?_, ?_⟩
  · simp only [F12, p12a, p12al, p12ar, s13, bnd2_some, toBK_bool, un_not, bnd_some, Bool.not_true, cond_false, nilCheck_eq, fieldAddr_eq, Nat.zero_add, l0.1, e1, e5, lw, e2, e3, e4, e6, l1.2.1, bin_sub, e7, ea, l2.2.2, e8, e9, eb]
  · have hw2 := set_word (tk' := fun i => if i = id then false else tk i) r.lt r.bits (j := id / 64) (anU_lt w (2 ^ (id % 64))) (fun c hc => by
      rw [anU_bit hlt, r.bits _ _ hw c hc, Nat.testBit_two_pow]
      by_cases e : c = id % 64
      · subst e
        have : 64 * (id / 64) + id % 64 = id := by omega
        simp [this]
      · have h1 : ¬ id % 64 = c := fun h => e h.symm
        have h2 : ¬ (64 * (id / 64) + c = id) := by omega
        simp [hc, h1, h2]) (fun i hi => by
      have : i ≠ id := fun e => hi (by rw [e])
      simp [this])
    refine ⟨min low (id / 64), W.set (id / 64) (anU w (2 ^ (id % 64))), ⟨by rw [H.get_put, if_pos rfl], ?_, r.ne, r.pp, r.pb, ?_, ?_, by rw [List.length_set]; exact r.len, hw2.1, hw2.2, fun j hj u hu => ?_, ?_, by have := r.hn; omega, ?_⟩⟩
    · rw [H.get_put, if_neg (Ne.symm r.ne), hh2, H.get_put, if_neg (Ne.symm r.ne), hh1, H.get_put, if_pos rfl]
    · rw [hh2, hh1]; exact r.lp
    · rw [hh2, hh1]; exact r.lb
    · rw [List.getElem?_set_ne (by omega)] at hu
      exact r.full j (by omega) u hu
    · have : ¬ (0 = id) := by omega
      simp only [this, if_false]; exact r.t0
    · have h0p : ¬ 0 = p := by have := r.pp; omega
      have h0b : ¬ 0 = b := by have := r.pb; omega
      unfold TabAt
      rw [H.get_put, if_neg h0p, hh2, H.get_put, if_neg h0p, hh1, H.get_put, if_neg h0b]
      exact r.tb
  · rw [hh2, hh1]
    exact ((ExtBut.put ⟨Nat.le_refl _, fun _ _ _ => rfl⟩ b _ (.inr rfl)).put p _ (.inl rfl)).put p _ (.inl rfl)
  · rw [hh2, hh1]; rfl

/-- What is not taken is not freed. -/
theorem S12n (k : Nat) {h : H} {p b n : Nat} {tk : Nat → Bool} (r : Pool h p b tk n) {id : Nat} (hid : id < 65536) (hin : (decide (0 < id) && tk id) = false) :
    callB Tryd.prog 1 [] (k + 3) 12 [ptrV p, .int .u16 (id : Int)] h = some (.bool false, h) := by
  have s13 := S13 k r hid
  rw [hin] at s13
  rw [F12eq [] rfl]
  simp [F12, p12a, p12al, p12ar, s13]
end Go.Proofs.YtlhppeikbgolbaaDoor.IdsD
