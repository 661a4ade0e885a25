/-
  IdsRange returns true: of any row of calls, how many are gone over at first, and an id; the card's listed variable is tied to the program's text. No condition.
-/
import Derived.Test.YtlhppeikbgolbaaDoorRows
import Derived.Test.YtlhppeikbgolbaaDoorTie
import Derived.Test.YtlhppeikbgolbaaDoorCards
import Derived.WalkKit
import Derived.ProofKit
import Derived.OpenShut
import Derived.LaidMore
import Derived.Lay
import Derived.Stop.Joined
import Derived.SevenTiedAt
import Derived.Test.YtlhppeikbgolbaaDoorAmDoor
import Derived.Test.YtlhppeikbgolbaaDoorIdsR5
namespace Go.Proofs.YtlhppeikbgolbaaDoor.IdsD
open Go Go.AM Go.IdsN

/-- A row of numbers that is handed in. -/
theorem row_in {h : H} {v : Value} (ty : TyV Tryd.prog h 30 v) : ∃ l, InL h v l := by
  cases ty with
  | agg hu _ => rw [Tryd.underlying30] at hu; simp at hu
  | one hu ty =>
    obtain ⟨v', els, hv, hs, _, he⟩ := ty.slice_inv Tryd.underlying30
    simp only [List.cons.injEq, and_true] at hv
    subst hv
    have hc : Tryd.prog.cellsOf 25 = 1 := by kernel_rfl
    rw [hc] at hs
    have key : ∀ els : List (List Value), (∀ x ∈ els, Ty Tryd.prog h 25 x) → ∃ l : List Nat, els = l.map (fun (x : Nat) => [Value.int .u16 (x : Int)]) ∧ ∀ x ∈ l, x < 65536 := by
      intro els
      induction els with
      | nil => intro _; exact ⟨[], rfl, by simp⟩
      | cons x els ih =>
        intro hx
        obtain ⟨l, h1, h2⟩ := ih fun y hy => hx y (by simp [hy])
        obtain ⟨n, h3, h4⟩ := (hx x (by simp)).int_inv Tryd.underlying25
        have hb : 0 ≤ n ∧ n < 65536 := by
          have hq : IntKind.u16.min ≤ n ∧ n ≤ IntKind.u16.max := by simpa [Lit.wf] using h4
          have e1 : IntKind.u16.min = 0 := rfl
          have e2 : IntKind.u16.max = 65535 := rfl
          omega
        refine ⟨n.toNat :: l, ?_, fun y hy => ?_⟩
        · rw [h1, h3, List.map_cons, Int.toNat_of_nonneg hb.1]
        · rcases List.mem_cons.1 hy with rfl | hy
          · omega
          · exact h2 y hy
    obtain ⟨l, h1, h2⟩ := key els he
    subst h1
    exact ⟨l, hs, h2⟩

theorem byte_in {h : H} {v : Value} (ty : TyV Tryd.prog h 5 v) : ∃ n : Nat, n < 256 ∧ v = .int .u8 (n : Int) := by
  cases ty with
  | agg hu _ => rw [Tryd.underlying5] at hu; simp at hu
  | one hu ty =>
    obtain ⟨n, h3, h4⟩ := ty.int_inv Tryd.underlying5
    simp only [List.cons.injEq, and_true] at h3
    have hb : 0 ≤ n ∧ n < 256 := by
      have hq : IntKind.u8.min ≤ n ∧ n ≤ IntKind.u8.max := by simpa [Lit.wf] using h4
      have e1 : IntKind.u8.min = 0 := rfl
      have e2 : IntKind.u8.max = 255 := rfl
      omega
    exact ⟨n.toNat, by omega, by rw [h3, Int.toNat_of_nonneg hb.1]⟩
theorem id_in {h : H} {v : Value} (ty : TyV Tryd.prog h 25 v) : ∃ n : Nat, n < 65536 ∧ v = .int .u16 (n : Int) := by
  cases ty with
  | agg hu _ => rw [Tryd.underlying25] at hu; simp at hu
  | one hu ty =>
    obtain ⟨n, h3, h4⟩ := ty.int_inv Tryd.underlying25
    simp only [List.cons.injEq, and_true] at h3
    have hb : 0 ≤ n ∧ n < 65536 := by
      have hq : IntKind.u16.min ≤ n ∧ n ≤ IntKind.u16.max := by simpa [Lit.wf] using h4
      have e1 : IntKind.u16.min = 0 := rfl
      have e2 : IntKind.u16.max = 65535 := rfl
      omega
    exact ⟨n.toNat, by omega, by rw [h3, Int.toNat_of_nonneg hb.1]⟩
end Go.Proofs.YtlhppeikbgolbaaDoor.IdsD

namespace Go.Proofs.YtlhppeikbgolbaaDoor.idsRange
open Go Go.ChangeShapes Go.WideShapes Go.ChangeAt Go.RowKit Go.AM

theorem own : ownKnob Tryd.prog.godebug = none := by kernel_rfl
theorem zeros : zerosPlain Tryd.prog = true := by kernel_rfl
theorem mixed : Tryd.prog.follows .mixedOrders = true := by kernel_rfl
theorem names : namesOK Tryd.prog = true := by kernel_rfl

theorem run (h : AM.H) (xs : List Value) (_ : Go.AM.Start h) (g : h.get 0 = some (.cells (byteL IdsN.tab) none)) (hz : 0 < h.next) (ty : TyAll Tryd.prog h [30, 5, 25] xs) : ∃ n h', callB Tryd.prog 1 [] n 6 xs h = some (.bool true, h') := by
  match xs, ty with
  | [a, b, c], ⟨t1, t2, t3, _⟩ =>
    obtain ⟨l, s⟩ := IdsD.row_in t1
    obtain ⟨first, hf, rfl⟩ := IdsD.byte_in t2
    obtain ⟨id, hi, rfl⟩ := IdsD.id_in t3
    exact ⟨_, IdsD.law6 (M := 1100) (Nat.le_refl _) hf hi s g hz fun h ht hz => IdsD.S15 60 ht hz⟩

set_option maxRecDepth 100000 in
theorem lifted (os : Os) (started : os.Started) (H : Type) (enc : TypeId × Value → H) :
    ReturnsInHanded {} Tryd.checked os 6 .any (fun w args => (Rows.idsRangeSpec.pre enc Tryd.prog Tryd.f6 [] false w args ∧ laidMetH Tryd.prog Rows.idsRangeRow.laid w) ∧ sizedMet enc Tryd.prog Tryd.f6 (OpenSpec.ofChange Rows.idsRangeSpec) false w args)
      (Rows.idsRangeSpec.post enc Tryd.prog Tryd.f6 false true false false) := by
  refine returnsInHanded_of_change_and (C := Tryd.checked) (X := fun w _ => laidMetH Tryd.prog Rows.idsRangeRow.laid w) (fun _ _ _ hh h => h.of_heap hh) own started (by kernel_rfl) Tryd.func6
    (ChangeSpec.witness_shaped (enc := enc) (C := Tryd.checked) (os := os) (X := fun w _ => laidMetH Tryd.prog Rows.idsRangeRow.laid w) false (World.laidAll Tryd.prog os Rows.idsRangeRow.laid) #[.slice none 0 0, .int .u8 0, .int .u16 0] 8 (World.laidAll_os _ _ _) (World.shaped_of_RefB (by kernel_rfl) (by kernel_rfl)) (by kernel_rfl) (by kernel_rfl) (by kernel_rfl)
      (by rw [MakeChecks.laidMetH_plain _ _ _ (by kernel_rfl)]; exact laidMet_laidAll _ (by kernel_rfl) (by kernel_rfl))) ?_
  intro W base args ds gs before hval0 hW _ _ hL _
  have hW' := hW
  obtain ⟨p, q, hA0, hV, rfl, hfz, hnd⟩ := hW
  have hA : DataW.TrodAll enc Tryd.prog W 0 (fun _ => true) true Tryd.f6.params.toList args.toList ds p := hA0
  rw [Tryd.params6] at hA
  obtain ⟨rfl, rfl⟩ := trodVars_none hV
  have hlen := trodAll_len _ _ _ _ hA
  rw [MakeChecks.laidMetH_plain _ _ _ (by kernel_rfl)] at hL
  obtain ⟨ccs, ty, fz, hh, hs, hc⟩ := tab_cells (xs := IdsN.tab) (t := 55) (e := 5) (by kernel_rfl) (by kernel_rfl) Tryd.underlying55 Tryd.underlying5 (by kernel_rfl) (by kernel_rfl) (by kernel_rfl) hL
  have hcalls := door_calls hh hs hc zeros mixed names Tryd.func6 (by kernel_rfl) (ts := [30, 5, 25]) (n := 8) (List.all_eq_true.1 (by kernel_rfl)) (args := args)
    (fun j t v h1 h2 => hval0 j t v (by rw [Tryd.params6]; simpa using h1) (by simpa using h2)) hA run
  refine hcalls.mono fun e W' ⟨he, hg⟩ => ?_
  subst he
  match ds, hlen with
  | [d, d2, d3], _ =>
    refine ⟨_, rfl, [d, d2, d3], [], _, [], p, [], hW', ?_, ?_, ?_, hg.frame _, fun h => by cases h⟩
    · exact trodAll_cons_mk (shut_bool Tryd.underlying4 _) trodAll_mk0
    · rw [List.append_nil, Tryd.params6]
      exact trodAll_stays (by kernel_rfl) hg _ _ _ _ (fun t ht => by
        have hall : ([30, 5, 25].all fun u => Tryd.prog.readableRec u && decide (u < Tryd.prog.types.size)) = true := by kernel_rfl
        have := List.all_eq_true.1 hall t ht
        rw [Bool.and_eq_true] at this
        exact ⟨this.1, of_decide_eq_true this.2⟩) hA
    · rfl

theorem over : Rows.IdsRangeSaid :=
  OpenClaim.holds_of_wide 6 Tryd.f6 rfl rfl rfl rfl rfl rfl rfl ⟨rfl, rfl, rfl, rfl, rfl⟩ rfl rfl rfl rfl rfl (by kernel_rfl) Tryd.func6 (by kernel_rfl)
    (of_decide_eq_true (by kernel_rfl)) (by unfold Func.isWrapper; first | (rw [if_pos (by decide +kernel)]; kernel_rfl) | (rw [if_neg (by decide +kernel)]; exact ⟨rfl, rfl⟩))
    (fun os started H enc _ => lifted os started H enc)

theorem proved : Rows.IdsRangeCardSaid :=
  Claim7.holds_tied_plain_at .later [] Rows.idsRangeCard.laidKinds true Rows.idsRangeCard.stood.harness false
    over (fun _ h => by cases h) (by kernel_rfl) (fun _ h => by cases h) idsRange_row_tie rfl ⟨rfl, rfl⟩ (by kernel_rfl) rfl
    (fun f fn hf hfn => by
      obtain rfl : f = 6 := Option.some.inj ((show Tryd.prog.funcNamed Rows.idsRangeRow.func = some 6 by kernel_rfl).symm.trans hf) |>.symm
      obtain rfl : fn = Tryd.f6 := (Option.some.inj (Tryd.func6.symm.trans hfn)).symm
      exact ⟨by kernel_rfl, fun j t ht => by
        rw [Tryd.params6] at ht
        have hm : t ∈ [30, 5, 25] := by simpa using Array.mem_of_getElem? ht
        have hall : ([30, 5, 25].all fun u => !Tryd.prog.wantsStandIn u) = true := by kernel_rfl
        exact (show Tryd.prog.wantsStandIn t = false by simpa using List.all_eq_true.1 hall t hm)⟩)
    (by kernel_rfl)
#print axioms proved
end Go.Proofs.YtlhppeikbgolbaaDoor.idsRange
