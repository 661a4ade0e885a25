/-
  DeskKnown returns true: the closed call is run by an abstract machine (proved to simulate the model), in the kernel; the card's listed variables are tied to the program's text. No condition.
-/
import Derived.Test.YtkiagdpknegcbaaGreatDoorRows
import Derived.Test.YtkiagdpknegcbaaGreatDoorTie
import Derived.Test.YtkiagdpknegcbaaGreatDoorCards
import Derived.WalkKit
import Derived.ProofKit
import Derived.OpenShut
import Derived.LaidMore
import Derived.Lay
import Derived.Stop.Joined
import Derived.SevenTiedAt
import Derived.Test.YtkiagdpknegcbaaGreatDoorDkSeg
import Derived.Test.YtkiagdpknegcbaaGreatDoorDkDoor
namespace Go.Proofs.YtkiagdpknegcbaaGreatDoor.deskKnown
open Go Go.ChangeShapes Go.WideShapes Go.ChangeAt Go.RowKit Go.AM

noncomputable def t3 : List Value := [(.int .u64 1), (.int .u64 10), (.int .u64 100), (.int .u64 1000), (.int .u64 10000), (.int .u64 100000), (.int .u64 1000000), (.int .u64 10000000), (.int .u64 100000000), (.int .u64 1000000000), (.int .u64 10000000000), (.int .u64 100000000000), (.int .u64 1000000000000), (.int .u64 10000000000000), (.int .u64 100000000000000), (.int .u64 1000000000000000), (.int .u64 10000000000000000), (.int .u64 100000000000000000), (.int .u64 1000000000000000000), (.int .u64 10000000000000000000)]
noncomputable def t5 : List Value := [(.int .u8 0), (.int .u8 1), (.int .u8 56), (.int .u8 2), (.int .u8 57), (.int .u8 49), (.int .u8 28), (.int .u8 3), (.int .u8 61), (.int .u8 58), (.int .u8 42), (.int .u8 50), (.int .u8 38), (.int .u8 29), (.int .u8 17), (.int .u8 4), (.int .u8 62), (.int .u8 47), (.int .u8 59), (.int .u8 36), (.int .u8 45), (.int .u8 43), (.int .u8 51), (.int .u8 22), (.int .u8 53), (.int .u8 39), (.int .u8 33), (.int .u8 30), (.int .u8 24), (.int .u8 18), (.int .u8 12), (.int .u8 5), (.int .u8 63), (.int .u8 55), (.int .u8 48), (.int .u8 27), (.int .u8 60), (.int .u8 41), (.int .u8 37), (.int .u8 16), (.int .u8 46), (.int .u8 35), (.int .u8 44), (.int .u8 21), (.int .u8 52), (.int .u8 32), (.int .u8 23), (.int .u8 11), (.int .u8 54), (.int .u8 26), (.int .u8 40), (.int .u8 15), (.int .u8 34), (.int .u8 20), (.int .u8 31), (.int .u8 10), (.int .u8 25), (.int .u8 14), (.int .u8 19), (.int .u8 9), (.int .u8 13), (.int .u8 8), (.int .u8 7), (.int .u8 6)]
theorem t3_len : t3.length = 20 := by kernel_rfl
theorem t5_len : t5.length = 64 := by kernel_rfl

/-- The closed run begins with the tables that are laid. -/
theorem run {W : World} (hL : laidMet Tryz.prog Rows.deskKnownRow.laid W) : Calls Tryz.prog 3 #[] W fun e w' => e = .returned (.bool true) ∧ Below W.heap.size W w' := by
  obtain ⟨ps, hL, _, _⟩ := hL
  have hL : DataW.LaidVars Tryz.prog W [("math/bits.deBruijn32tab", Rows.laid_math_bits_deBruijn32tab), ("math/bits.deBruijn64tab", Rows.laid_math_bits_deBruijn64tab), ("internal/strconv.uint64pow10", Rows.laid_internal_strconv_uint64pow10), ("unicode/utf8.acceptRanges", Rows.laid_unicode_utf8_acceptRanges), ("unicode/utf8.first", Rows.laid_unicode_utf8_first)] ps := hL
  obtain ⟨_, q1, hL⟩ := laid_at (k := 4) (t := 485) hL (by kernel_rfl) (by kernel_rfl)
  obtain ⟨⟨c5, y5, z5, f5, p5, g5, d5⟩, q2, hL⟩ := laid_at (k := 5) (t := 486) hL (by kernel_rfl) (by kernel_rfl)
  obtain ⟨⟨c3, y3, z3, f3, p3, g3, d3⟩, _⟩ := laid_at (k := 3) (t := 421) hL (by kernel_rfl) (by kernel_rfl)
  obtain ⟨l5, _, e5⟩ := arr_ints (n := 64) (e := 5) (k := .u8) (by kernel_rfl) (by kernel_rfl) (by kernel_rfl) (by kernel_rfl) d5 (tab := t5) (by kernel_rfl)
  obtain ⟨l3, _, e3⟩ := arr_ints (n := 20) (e := 316) (k := .u64) (by kernel_rfl) (by kernel_rfl) (by kernel_rfl) (by kernel_rfl) d3 (tab := t3) (by kernel_rfl)
  have i0 := inv6 (t3 := t3) (t5 := t5) g3 g5 (by rw [t3_len]; simpa using l3) (by rw [t5_len]; simpa using l5)
    (fun i v hv => by obtain ⟨m, e, h⟩ := e3 i v hv; exact ⟨_, m, e, by simpa using h⟩) (fun i v hv => by obtain ⟨m, e, h⟩ := e5 i v hv; exact ⟨_, m, e, by simpa using h⟩)
  exact closed_at Tryz.func3 dk.body (by kernel_rfl) (ex := .ret) rfl i0 (dk.walk W) dk.res

theorem own : ownKnob Tryz.prog.godebug = none := by kernel_rfl

set_option maxRecDepth 100000 in
theorem lifted (os : Os) (started : os.Started) (H : Type) (enc : TypeId × Value → H) :
    ReturnsInHanded {} Tryz.checked os 3 .any (fun w args => (Rows.deskKnownSpec.pre enc Tryz.prog Tryz.f3 [] false w args ∧ laidMetH Tryz.prog Rows.deskKnownRow.laid w) ∧ sizedMet enc Tryz.prog Tryz.f3 (OpenSpec.ofChange Rows.deskKnownSpec) false w args)
      (Rows.deskKnownSpec.post enc Tryz.prog Tryz.f3 false true false false) := by
  refine returnsInHanded_of_change_and (C := Tryz.checked) (X := fun w _ => laidMetH Tryz.prog Rows.deskKnownRow.laid w) (fun _ _ _ hh h => h.of_heap hh) own started (by kernel_rfl) Tryz.func3
    (ChangeSpec.witness_shaped (enc := enc) (C := Tryz.checked) (os := os) (X := fun w _ => laidMetH Tryz.prog Rows.deskKnownRow.laid w) false (World.laidAll Tryz.prog os Rows.deskKnownRow.laid) #[] 8 (World.laidAll_os _ _ _) (World.shaped_of_RefB (by kernel_rfl) (by kernel_rfl)) (by kernel_rfl) (by kernel_rfl) (by kernel_rfl)
      (by rw [MakeChecks.laidMetH_plain _ _ _ (by kernel_rfl)]; exact laidMet_laidAll _ (by kernel_rfl) (by kernel_rfl))) ?_
  intro W base args ds gs before hval0 hW _ _ hL _
  have hW' := hW
  obtain ⟨p, q, hA0, hV, rfl, hfz, hnd⟩ := hW
  have hA : DataW.TrodAll enc Tryz.prog W 0 (fun _ => true) true Tryz.f3.params.toList args.toList ds p := hA0
  rw [Tryz.params3] at hA
  obtain ⟨rfl, rfl, rfl⟩ := trodAll_none hA
  obtain ⟨rfl, rfl⟩ := trodVars_none hV
  clear hA0 hval0
  simp only [List.append_nil] at hW'
  rw [MakeChecks.laidMetH_plain _ _ _ (by kernel_rfl)] at hL
  refine (run hL).mono fun e W' ⟨he, hg⟩ => ?_
  subst he
  exact ⟨_, rfl, [], [], [], [], [], [], hW', (trodAll_cons_mk (shut_bool Tryz.underlying4 _) trodAll_mk0), rfl, rfl, hg.frame _, fun h => by cases h⟩

theorem fnamed : Tryz.pinned.checked.prog.funcNamed Rows.deskKnownRow.func = some 3 := by kernel_rfl
set_option maxHeartbeats 4000000 in
theorem facts : joinedFacts Tryz.pinned.checked.prog 3 Tryz.f3 Rows.deskKnownSpec Rows.deskKnownRow = true := by
  unfold joinedFacts
  repeat' with_reducible refine Bool.and_eq_true_iff.mpr ⟨?_, ?_⟩
  all_goals (as_aux_lemma => kernel_rfl)
theorem inst : Tryz.f3.isInstance Tryz.pinned.checked.prog Rows.deskKnownRow.origin Rows.deskKnownRow.targs := of_decide_eq_true (by kernel_rfl)
theorem wrapper : Tryz.f3.isWrapper Tryz.pinned.checked.prog Rows.deskKnownRow.wrapper Rows.deskKnownRow.mainSum := by
  unfold Func.isWrapper; first | (rw [if_pos (by decide +kernel)]; kernel_rfl) | (rw [if_neg (by decide +kernel)]; exact ⟨rfl, rfl⟩)

theorem over : Rows.DeskKnownSaid :=
  OpenClaim.holds_of_wide 3 Tryz.f3 rfl rfl rfl rfl rfl rfl rfl ⟨rfl, rfl, rfl, rfl, rfl⟩ rfl rfl rfl rfl rfl fnamed Tryz.func3 facts inst wrapper
    (fun os started H enc _ => lifted os started H enc)

/-! No function of the program starts a goroutine. -/
theorem any_cut {l : List Func} {k : Nat} (h1 : ((l.drop k).take 50).any Func.goes = false) (h2 : (l.drop (k + 50)).any Func.goes = false) : (l.drop k).any Func.goes = false := by
  rw [← List.take_append_drop 50 (l.drop k), List.any_append, h1, List.drop_drop, h2]; rfl
theorem goes0 : ((Tryz.prog.funcs.toList.drop 0).take 50).any Func.goes = false := by kernel_rfl
theorem goes1 : ((Tryz.prog.funcs.toList.drop 50).take 50).any Func.goes = false := by kernel_rfl
theorem goes2 : ((Tryz.prog.funcs.toList.drop 100).take 50).any Func.goes = false := by kernel_rfl
theorem goes3 : ((Tryz.prog.funcs.toList.drop 150).take 50).any Func.goes = false := by kernel_rfl
theorem goes4 : ((Tryz.prog.funcs.toList.drop 200).take 50).any Func.goes = false := by kernel_rfl
theorem goes5 : ((Tryz.prog.funcs.toList.drop 250).take 50).any Func.goes = false := by kernel_rfl
theorem goes6 : ((Tryz.prog.funcs.toList.drop 300).take 50).any Func.goes = false := by kernel_rfl
theorem goes7 : ((Tryz.prog.funcs.toList.drop 350).take 50).any Func.goes = false := by kernel_rfl
theorem goes8 : ((Tryz.prog.funcs.toList.drop 400).take 50).any Func.goes = false := by kernel_rfl
theorem goes9 : ((Tryz.prog.funcs.toList.drop 450).take 50).any Func.goes = false := by kernel_rfl
theorem goesEnd : (Tryz.prog.funcs.toList.drop 500).any Func.goes = false := by kernel_rfl
theorem goesNone : Tryz.prog.funcs.toList.any Func.goes = false :=
  any_cut (k := 0) goes0 (any_cut (k := 50) goes1 (any_cut (k := 100) goes2 (any_cut (k := 150) goes3 (any_cut (k := 200) goes4 (any_cut (k := 250) goes5 (any_cut (k := 300) goes6 (any_cut (k := 350) goes7 (any_cut (k := 400) goes8 (any_cut (k := 450) goes9 goesEnd)))))))))
theorem goesFn (g : Nat) : (Tryz.prog.funcs[g]?).any Func.goes = false := by
  cases h : Tryz.prog.funcs[g]? with
  | none => rfl
  | some fn =>
    have := List.any_eq_false.1 goesNone fn (by rw [Array.mem_toList_iff]; exact Array.mem_of_getElem? h)
    simpa using this
theorem goesOf (f : FuncId) : Tryz.prog.goes f = false := by
  unfold Program.goes
  have a : ((Tryz.prog.closure f).any fun g => (Tryz.prog.funcs[g]?).any Func.goes) = false := by
    rw [List.any_eq_false]; intro g _; simp [goesFn g]
  have b : Tryz.prog.funcs.any Func.goes = false := by rw [← Array.any_toList]; exact goesNone
  rw [a, b]; simp
theorem goesAt (s : Start) (n : String) : Tryz.prog.goesAt s n = false := by
  unfold Program.goesAt Program.goesFrom
  have a : (Tryz.prog.funcNamed n).any Tryz.prog.goes = false := by
    cases Tryz.prog.funcNamed n with
    | none => rfl
    | some f => rw [Option.any_some]; exact goesOf f
  have b : Tryz.prog.inits.toList.any Tryz.prog.goes = false := by
    rw [List.any_eq_false]; intro g _; rw [goesOf g]; exact Bool.false_ne_true
  rw [a, b]
  cases s <;> rfl
theorem goes : false = Rows.deskKnownRow.goesBy Tryz.pinned.checked.prog := by
  have e : Tryz.pinned.checked.prog = Tryz.prog := by kernel_rfl
  unfold OpenClaim.goesBy
  rw [e, goesAt]

theorem proved : Rows.DeskKnownCardSaid :=
  Claim7.holds_tied_plain_at .later [] Rows.deskKnownCard.laidKinds true Rows.deskKnownCard.stood.harness false
    over (fun _ h => by cases h) (by as_aux_lemma => kernel_rfl) (fun _ h => by cases h) deskKnown_row_tie rfl ⟨rfl, rfl⟩ (by as_aux_lemma => kernel_rfl) rfl
    (fun f fn hf hfn => by
      obtain rfl : f = 3 := Option.some.inj ((show Tryz.prog.funcNamed Rows.deskKnownRow.func = some 3 by as_aux_lemma => kernel_rfl).symm.trans hf) |>.symm
      obtain rfl : fn = Tryz.f3 := (Option.some.inj (Tryz.func3.symm.trans hfn)).symm
      exact ⟨by as_aux_lemma => kernel_rfl, fun j t ht => by
        rw [Tryz.params3] at ht
        simp at ht⟩)
    goes
#print axioms proved
end Go.Proofs.YtkiagdpknegcbaaGreatDoor.deskKnown
