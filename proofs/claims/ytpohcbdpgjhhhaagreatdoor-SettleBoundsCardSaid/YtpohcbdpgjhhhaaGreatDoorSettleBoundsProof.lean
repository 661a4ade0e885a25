/-
  SettleBounds returns true: of any numbers; awake is run by an abstract machine (proved to simulate the model), in the kernel; the card's listed variables are tied to the program's text. No condition.
-/
import Derived.Test.YtpohcbdpgjhhhaaGreatDoorRows
import Derived.Test.YtpohcbdpgjhhhaaGreatDoorTie
import Derived.Test.YtpohcbdpgjhhhaaGreatDoorCards
import Derived.WalkKit
import Derived.ProofKit
import Derived.OpenShut
import Derived.LaidMore
import Derived.Lay
import Derived.Stop.Joined
import Derived.SevenTiedAt
import Derived.Test.YtpohcbdpgjhhhaaGreatDoorAmDoor
import Derived.Test.YtpohcbdpgjhhhaaGreatDoorSbS
import Derived.Test.YtpohcbdpgjhhhaaGreatDoorSbSeg
namespace Go.Proofs.YtpohcbdpgjhhhaaGreatDoor.settleBounds
open Go Go.ChangeShapes Go.WideShapes Go.ChangeAt Go.RowKit Go.AM

theorem own : ownKnob Tryz.prog.godebug = none := by kernel_rfl
theorem zeros : zerosPlain Tryz.prog = true := by kernel_rfl
theorem mixed : Tryz.prog.follows .mixedOrders = true := by kernel_rfl
theorem names : namesOK Tryz.prog = true := by kernel_rfl

theorem laid_pos {P : Program} {n : String} {d : DataW Unit} {r : List (String × DataW Unit)} {W : World} (h : laidMet P ((n, d) :: r) W) : 0 < W.heap.size := by
  obtain ⟨ps, ⟨g, t, cs, fuel, p, q, hg, ht, hv, _⟩, _⟩ := h
  simp only [World.var?, hg, Option.bind_some] at hv
  split at hv
  · rename_i c t fr hb
    exact Nat.lt_of_le_of_lt (Nat.zero_le _) (Array.getElem?_eq_some_iff.1 hb).1
  · cases hv

theorem body6 : Tryz.f6.body = some sba.c := sba.body
theorem name6 : Tryz.f6.name ≠ "runtime.NumGoroutine" := by
  have : (Tryz.f6.name == "runtime.NumGoroutine") = false := by kernel_rfl
  simpa using this

theorem closed : ∀ f ∈ [6], ClosedTrue Tryz.prog f := by
  intro f hf
  obtain rfl : f = 6 := by simpa using hf
  exact ⟨⟨Tryz.f6, sba.c, Tryz.func6, body6, name6⟩, sba.walk⟩

theorem int_in {h : AM.H} {v : Value} (ty : TyV Tryz.prog h 3 v) : ∃ n : Int, v = .int .i64 n := by
  cases ty with
  | agg hu _ => rw [Tryz.underlying3] at hu; simp at hu
  | one hu ty =>
    obtain ⟨n, h3, _⟩ := ty.int_inv Tryz.underlying3
    simp only [List.cons.injEq, and_true] at h3
    exact ⟨n, h3⟩

theorem three_in {P : Program} {h : AM.H} {t u v : TypeId} {xs : List Value} (ty : TyAll P h [t, u, v] xs) : ∃ a b c, xs = [a, b, c] ∧ TyV P h t a ∧ TyV P h u b ∧ TyV P h v c := by
  match xs, ty with
  | [a, b, c], ⟨t1, t2, t3, _⟩ => exact ⟨a, b, c, rfl, t1, t2, t3⟩

theorem run (h : AM.H) (xs : List Value) (_ : Go.AM.Start h) (ty : TyAll Tryz.prog h [3, 3, 3] xs) : ∃ n h', callB Tryz.prog 0 [6] n 3 xs h = some (.bool true, h') := by
    obtain ⟨a, b, c, rfl, t1, t2, t3⟩ := three_in ty
    obtain ⟨x, rfl⟩ := int_in t1
    obtain ⟨y, rfl⟩ := int_in t2
    obtain ⟨z, rfl⟩ := int_in t3
    obtain ⟨h', e⟩ := SbD.law 0 h x y z
    exact ⟨_, h', e⟩

set_option maxRecDepth 100000 in
theorem lifted (os : Os) (started : os.Started) (H : Type) (enc : TypeId × Value → H) :
    ReturnsInHanded {} Tryz.checked os 3 .any (fun w args => (Rows.settleBoundsSpec.pre enc Tryz.prog Tryz.f3 [] false w args ∧ laidMetH Tryz.prog Rows.settleBoundsRow.laid w) ∧ sizedMet enc Tryz.prog Tryz.f3 (OpenSpec.ofChange Rows.settleBoundsSpec) false w args)
      (Rows.settleBoundsSpec.post enc Tryz.prog Tryz.f3 false true false false) := by
  refine returnsInHanded_of_change_and (C := Tryz.checked) (X := fun w _ => laidMetH Tryz.prog Rows.settleBoundsRow.laid w) (fun _ _ _ hh h => h.of_heap hh) own started (by kernel_rfl) Tryz.func3
    (ChangeSpec.witness_shaped (enc := enc) (C := Tryz.checked) (os := os) (X := fun w _ => laidMetH Tryz.prog Rows.settleBoundsRow.laid w) false (World.laidAll Tryz.prog os Rows.settleBoundsRow.laid) #[.int .i64 0, .int .i64 0, .int .i64 0] 8 (World.laidAll_os _ _ _) (World.shaped_of_RefB (by kernel_rfl) (by kernel_rfl)) (by kernel_rfl) (by kernel_rfl) (by kernel_rfl)
      (by rw [MakeChecks.laidMetH_plain _ _ _ (by kernel_rfl)]; exact laidMet_laidAll _ (by kernel_rfl) (by kernel_rfl))) ?_
  intro W base args ds gs before hval0 hW _ _ hL _
  have hW' := hW
  obtain ⟨p, q, hA0, hV, rfl, hfz, hnd⟩ := hW
  have hA : DataW.TrodAll enc Tryz.prog W 0 (fun _ => true) true Tryz.f3.params.toList args.toList ds p := hA0
  rw [Tryz.params3] at hA
  obtain ⟨rfl, rfl⟩ := trodVars_none hV
  have hlen := trodAll_len _ _ _ _ hA
  rw [MakeChecks.laidMetH_plain _ _ _ (by kernel_rfl)] at hL
  have hcalls := open_calls (base := 0) (laid_pos hL) zeros mixed names (O := [6]) closed Tryz.func3 (by kernel_rfl) (ts := [3, 3, 3]) (n := 8) (List.all_eq_true.1 (by kernel_rfl)) (args := args)
    (fun j t v h1 h2 => hval0 j t v (by rw [Tryz.params3]; simpa using h1) (by simpa using h2)) hA run
  refine hcalls.mono fun e W' ⟨he, hg⟩ => ?_
  subst he
  match ds, hlen with
  | [d0, d1, d2], _ =>
    refine ⟨_, rfl, [d0, d1, d2], [], _, [], p, [], hW', ?_, ?_, ?_, hg.frame _, fun h => by cases h⟩
    · exact trodAll_cons_mk (shut_bool Tryz.underlying4 _) trodAll_mk0
    · rw [List.append_nil, Tryz.params3]
      exact trodAll_stays (by kernel_rfl) hg _ _ _ _ (fun t ht => by
        have hall : ([3, 3, 3].all fun u => Tryz.prog.readableRec u && decide (u < Tryz.prog.types.size)) = true := by kernel_rfl
        have := List.all_eq_true.1 hall t ht
        rw [Bool.and_eq_true] at this
        exact ⟨this.1, of_decide_eq_true this.2⟩) hA
    · rfl

theorem fnamed : Tryz.pinned.checked.prog.funcNamed Rows.settleBoundsRow.func = some 3 := by kernel_rfl
set_option maxHeartbeats 4000000 in
theorem facts : joinedFacts Tryz.pinned.checked.prog 3 Tryz.f3 Rows.settleBoundsSpec Rows.settleBoundsRow = true := by
  unfold joinedFacts
  repeat' with_reducible refine Bool.and_eq_true_iff.mpr ⟨?_, ?_⟩
  all_goals (as_aux_lemma => kernel_rfl)
theorem inst : Tryz.f3.isInstance Tryz.pinned.checked.prog Rows.settleBoundsRow.origin Rows.settleBoundsRow.targs := of_decide_eq_true (by kernel_rfl)
theorem wrapper : Tryz.f3.isWrapper Tryz.pinned.checked.prog Rows.settleBoundsRow.wrapper Rows.settleBoundsRow.mainSum := by
  unfold Func.isWrapper; first | (rw [if_pos (by decide +kernel)]; kernel_rfl) | (rw [if_neg (by decide +kernel)]; exact ⟨rfl, rfl⟩)

theorem over : Rows.SettleBoundsSaid :=
  OpenClaim.holds_of_wide 3 Tryz.f3 rfl rfl rfl rfl rfl rfl rfl ⟨rfl, rfl, rfl, rfl, rfl⟩ rfl rfl rfl rfl rfl fnamed Tryz.func3 facts inst wrapper
    (fun os started H enc _ => lifted os started H enc)

theorem proved : Rows.SettleBoundsCardSaid :=
  Claim7.holds_tied_plain_at .later [] Rows.settleBoundsCard.laidKinds true Rows.settleBoundsCard.stood.harness false
    over (fun _ h => by cases h) (by kernel_rfl) (fun _ h => by cases h) settleBounds_row_tie rfl ⟨rfl, rfl⟩ (by kernel_rfl) rfl
    (fun f fn hf hfn => by
      obtain rfl : f = 3 := Option.some.inj ((show Tryz.prog.funcNamed Rows.settleBoundsRow.func = some 3 by kernel_rfl).symm.trans hf) |>.symm
      obtain rfl : fn = Tryz.f3 := (Option.some.inj (Tryz.func3.symm.trans hfn)).symm
      exact ⟨by kernel_rfl, fun j t ht => by
        rw [Tryz.params3] at ht
        have hm : t ∈ [3, 3, 3] := by simpa using Array.mem_of_getElem? ht
        have hall : ([3, 3, 3].all fun u => !Tryz.prog.wantsStandIn u) = true := by kernel_rfl
        exact (show Tryz.prog.wantsStandIn t = false by simpa using List.all_eq_true.1 hall t hm)⟩)
    (by kernel_rfl)
#print axioms proved
end Go.Proofs.YtpohcbdpgjhhhaaGreatDoor.settleBounds
