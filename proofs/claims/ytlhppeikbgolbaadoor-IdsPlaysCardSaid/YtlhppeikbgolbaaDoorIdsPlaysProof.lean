/-
  IdsPlays returns true: of any row of calls; the card's listed variable is tied to the program's text. No condition.
-/
import Derived.Test.YtlhppeikbgolbaaDoorRows
import Derived.Test.YtlhppeikbgolbaaDoorTie
import Derived.Test.YtlhppeikbgolbaaDoorCards
import Derived.WalkKit
import Derived.ProofKit
import Derived.OpenShut
import Derived.LaidMore
import Derived.Lay
import Derived.Stop.Joined
import Derived.SevenTiedAt
import Derived.Test.YtlhppeikbgolbaaDoorAmDoor
import Derived.Test.YtlhppeikbgolbaaDoorIdsPO
namespace Go.Proofs.YtlhppeikbgolbaaDoor.IdsD
open Go Go.AM Go.IdsN

/-- A row of numbers that is handed in. -/
theorem row_in {h : H} {v : Value} (ty : TyV Tryd.prog h 30 v) : ∃ l, InL h v l := by
  cases ty with
  | agg hu _ => rw [Tryd.underlying30] at hu; simp at hu
  | one hu ty =>
    obtain ⟨v', els, hv, hs, _, he⟩ := ty.slice_inv Tryd.underlying30
    simp only [List.cons.injEq, and_true] at hv
    subst hv
    have hc : Tryd.prog.cellsOf 25 = 1 := by kernel_rfl
    rw [hc] at hs
    have key : ∀ els : List (List Value), (∀ x ∈ els, Ty Tryd.prog h 25 x) → ∃ l : List Nat, els = l.map (fun (x : Nat) => [Value.int .u16 (x : Int)]) ∧ ∀ x ∈ l, x < 65536 := by
      intro els
      induction els with
      | nil => intro _; exact ⟨[], rfl, by simp⟩
      | cons x els ih =>
        intro hx
        obtain ⟨l, h1, h2⟩ := ih fun y hy => hx y (by simp [hy])
        obtain ⟨n, h3, h4⟩ := (hx x (by simp)).int_inv Tryd.underlying25
        have hb : 0 ≤ n ∧ n < 65536 := by
          have hq : IntKind.u16.min ≤ n ∧ n ≤ IntKind.u16.max := by simpa [Lit.wf] using h4
          have e1 : IntKind.u16.min = 0 := rfl
          have e2 : IntKind.u16.max = 65535 := rfl
          omega
        refine ⟨n.toNat :: l, ?_, fun y hy => ?_⟩
        · rw [h1, h3, List.map_cons, Int.toNat_of_nonneg hb.1]
        · rcases List.mem_cons.1 hy with rfl | hy
          · omega
          · exact h2 y hy
    obtain ⟨l, h1, h2⟩ := key els he
    subst h1
    exact ⟨l, hs, h2⟩
end Go.Proofs.YtlhppeikbgolbaaDoor.IdsD

namespace Go.Proofs.YtlhppeikbgolbaaDoor.idsPlays
open Go Go.ChangeShapes Go.WideShapes Go.ChangeAt Go.RowKit Go.AM

theorem own : ownKnob Tryd.prog.godebug = none := by kernel_rfl
theorem zeros : zerosPlain Tryd.prog = true := by kernel_rfl
theorem mixed : Tryd.prog.follows .mixedOrders = true := by kernel_rfl
theorem names : namesOK Tryd.prog = true := by kernel_rfl

theorem run (h : AM.H) (xs : List Value) (_ : Go.AM.Start h) (g : h.get 0 = some (.cells (byteL IdsN.tab) none)) (hz : 0 < h.next) (ty : TyAll Tryd.prog h [30] xs) : ∃ n h', callB Tryd.prog 1 [] n 4 xs h = some (.bool true, h') := by
  match xs, ty with
  | [a], ⟨t1, _⟩ =>
    obtain ⟨l, s⟩ := IdsD.row_in t1
    exact ⟨_, IdsD.law4 9 s g hz fun h ht hz => (IdsD.S15 0 ht hz).imp fun _ e => e.1⟩

set_option maxRecDepth 100000 in
theorem lifted (os : Os) (started : os.Started) (H : Type) (enc : TypeId × Value → H) :
    ReturnsInHanded {} Tryd.checked os 4 .any (fun w args => (Rows.idsPlaysSpec.pre enc Tryd.prog Tryd.f4 [] false w args ∧ laidMetH Tryd.prog Rows.idsPlaysRow.laid w) ∧ sizedMet enc Tryd.prog Tryd.f4 (OpenSpec.ofChange Rows.idsPlaysSpec) false w args)
      (Rows.idsPlaysSpec.post enc Tryd.prog Tryd.f4 false true false false) := by
  refine returnsInHanded_of_change_and (C := Tryd.checked) (X := fun w _ => laidMetH Tryd.prog Rows.idsPlaysRow.laid w) (fun _ _ _ hh h => h.of_heap hh) own started (by kernel_rfl) Tryd.func4
    (ChangeSpec.witness_shaped (enc := enc) (C := Tryd.checked) (os := os) (X := fun w _ => laidMetH Tryd.prog Rows.idsPlaysRow.laid w) false (World.laidAll Tryd.prog os Rows.idsPlaysRow.laid) #[.slice none 0 0] 8 (World.laidAll_os _ _ _) (World.shaped_of_RefB (by kernel_rfl) (by kernel_rfl)) (by kernel_rfl) (by kernel_rfl) (by kernel_rfl)
      (by rw [MakeChecks.laidMetH_plain _ _ _ (by kernel_rfl)]; exact laidMet_laidAll _ (by kernel_rfl) (by kernel_rfl))) ?_
  intro W base args ds gs before hval0 hW _ _ hL _
  have hW' := hW
  obtain ⟨p, q, hA0, hV, rfl, hfz, hnd⟩ := hW
  have hA : DataW.TrodAll enc Tryd.prog W 0 (fun _ => true) true Tryd.f4.params.toList args.toList ds p := hA0
  rw [Tryd.params4] at hA
  obtain ⟨rfl, rfl⟩ := trodVars_none hV
  have hlen := trodAll_len _ _ _ _ hA
  rw [MakeChecks.laidMetH_plain _ _ _ (by kernel_rfl)] at hL
  obtain ⟨ccs, ty, fz, hh, hs, hc⟩ := tab_cells (xs := IdsN.tab) (t := 55) (e := 5) (by kernel_rfl) (by kernel_rfl) Tryd.underlying55 Tryd.underlying5 (by kernel_rfl) (by kernel_rfl) (by kernel_rfl) hL
  have hcalls := door_calls hh hs hc zeros mixed names Tryd.func4 (by kernel_rfl) (ts := [30]) (n := 8) (List.all_eq_true.1 (by kernel_rfl)) (args := args)
    (fun j t v h1 h2 => hval0 j t v (by rw [Tryd.params4]; simpa using h1) (by simpa using h2)) hA run
  refine hcalls.mono fun e W' ⟨he, hg⟩ => ?_
  subst he
  match ds, hlen with
  | [d], _ =>
    refine ⟨_, rfl, [d], [], _, [], p, [], hW', ?_, ?_, ?_, hg.frame _, fun h => by cases h⟩
    · exact trodAll_cons_mk (shut_bool Tryd.underlying4 _) trodAll_mk0
    · rw [List.append_nil, Tryd.params4]
      exact trodAll_stays (by kernel_rfl) hg _ _ _ _ (fun t ht => by
        have hm : t = 30 := by simpa using ht
        subst hm
        exact ⟨by kernel_rfl, of_decide_eq_true (by kernel_rfl)⟩) hA
    · rfl

theorem over : Rows.IdsPlaysSaid :=
  OpenClaim.holds_of_wide 4 Tryd.f4 rfl rfl rfl rfl rfl rfl rfl ⟨rfl, rfl, rfl, rfl, rfl⟩ rfl rfl rfl rfl rfl (by kernel_rfl) Tryd.func4 (by kernel_rfl)
    (of_decide_eq_true (by kernel_rfl)) (by unfold Func.isWrapper; first | (rw [if_pos (by decide +kernel)]; kernel_rfl) | (rw [if_neg (by decide +kernel)]; exact ⟨rfl, rfl⟩))
    (fun os started H enc _ => lifted os started H enc)

theorem proved : Rows.IdsPlaysCardSaid :=
  Claim7.holds_tied_plain_at .later [] Rows.idsPlaysCard.laidKinds true Rows.idsPlaysCard.stood.harness false
    over (fun _ h => by cases h) (by kernel_rfl) (fun _ h => by cases h) idsPlays_row_tie rfl ⟨rfl, rfl⟩ (by kernel_rfl) rfl
    (fun f fn hf hfn => by
      obtain rfl : f = 4 := Option.some.inj ((show Tryd.prog.funcNamed Rows.idsPlaysRow.func = some 4 by kernel_rfl).symm.trans hf) |>.symm
      obtain rfl : fn = Tryd.f4 := (Option.some.inj (Tryd.func4.symm.trans hfn)).symm
      exact ⟨by kernel_rfl, fun j t ht => by
        rw [Tryd.params4] at ht
        have hm : t ∈ [30] := by simpa using Array.mem_of_getElem? ht
        have hall : ([30].all fun u => !Tryd.prog.wantsStandIn u) = true := by kernel_rfl
        exact (show Tryd.prog.wantsStandIn t = false by simpa using List.all_eq_true.1 hall t hm)⟩)
    (by kernel_rfl)
#print axioms proved
end Go.Proofs.YtlhppeikbgolbaaDoor.idsPlays
