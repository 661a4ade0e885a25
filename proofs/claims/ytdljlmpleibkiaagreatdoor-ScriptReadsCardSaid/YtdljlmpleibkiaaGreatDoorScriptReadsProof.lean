/-
 ScriptReads returns true: of any bytes; calls of which the answer is known ahead (awake and small closed ones) are run by an abstract machine (proved to simulate the model),in the kernel; the card's listed variables are tied to the program's text. No condition.
-/
import Derived.Test.YtdljlmpleibkiaaGreatDoorRows
import Derived.Test.YtdljlmpleibkiaaGreatDoorTie
import Derived.Test.YtdljlmpleibkiaaGreatDoorCards
import Derived.WalkKit
import Derived.ProofKit
import Derived.OpenShut
import Derived.LaidMore
import Derived.Lay
import Derived.Stop.Joined
import Derived.SevenTiedAt
import Derived.Test.YtdljlmpleibkiaaGreatDoorScTc
import Derived.Test.YtdljlmpleibkiaaGreatDoorScTd
namespace Go.Proofs.YtdljlmpleibkiaaGreatDoor.scriptReads
open Go Go.ChangeShapes Go.WideShapes Go.ChangeAt Go.RowKit Go.AM
theorem own : ownKnob Tryz.prog.godebug = none := by kernel_rfl
theorem zeros : zerosPlain Tryz.prog = true := by kernel_rfl
theorem mixed : Tryz.prog.follows .mixedOrders = true := by kernel_rfl
theorem names : namesOK Tryz.prog = true := by kernel_rfl
theorem laid_pos {P : Program} {n : String} {d : DataW Unit} {r : List (String × DataW Unit)} {W : World} (h : laidMet P ((n,d) :: r) W) : 0 < W.heap.size := by
 obtain ⟨ps,⟨g,t,cs,fuel,p,q,hg,ht,hv,_⟩,_⟩ := h
 simp only [World.var?,hg,Option.bind_some] at hv
 split at hv
 · rename_i c t fr hb
   exact Nat.lt_of_le_of_lt (Nat.zero_le _) (Array.getElem?_eq_some_iff.1 hb).1
 · cases hv
theorem row_in {h : AM.H} {v : Value} (ty : TyV Tryz.prog h 22 v) : ∃ l : List UInt8,SliceE 1 h v (l.map fun b => [Sc.u8 b]) := by
 cases ty with
 | agg hu _ => rw [Tryz.underlying22] at hu; simp at hu
 | one hu ty =>
  obtain ⟨v',els,hv,hs,_,he⟩ := ty.slice_inv Tryz.underlying22
  simp only [List.cons.injEq,and_true] at hv
  subst hv
  have hc : Tryz.prog.cellsOf 5 = 1 := by kernel_rfl
  rw [hc] at hs
  have key : ∀ els : List (List Value),(∀ x ∈ els,Ty Tryz.prog h 5 x) → ∃ l : List UInt8,els = l.map (fun b => [Sc.u8 b]) := by
   intro els
   induction els with
   | nil => intro _; exact ⟨[],rfl⟩
   | cons x els ih =>
    intro hx
    obtain ⟨l,h1⟩ := ih fun y hy => hx y (by simp [hy])
    obtain ⟨n,h3,h4⟩ := (hx x (by simp)).int_inv Tryz.underlying5
    have hq : IntKind.u8.min ≤ n ∧ n ≤ IntKind.u8.max := by simpa [Lit.wf] using h4
    have e1 : IntKind.u8.min = 0 := rfl
    have e2 : IntKind.u8.max = 255 := rfl
    refine ⟨UInt8.ofNat n.toNat :: l,?_⟩
    have e3 : ((UInt8.ofNat n.toNat).toNat : Int) = n := by
     rw [← Sc.ofNat_int (show n.toNat < 256 by omega)]
     exact Int.toNat_of_nonneg (by omega)
    rw [h1,h3,List.map_cons]
    show _ = [Value.int .u8 ((UInt8.ofNat n.toNat).toNat : Int)] :: _
    rw [e3]
  obtain ⟨l,rfl⟩ := key els he
  exact ⟨l,hs⟩
theorem one_in {P : Program} {h : AM.H} {t : TypeId} {xs : List Value} (ty : TyAll P h [t] xs) : ∃ a,xs = [a] ∧ TyV P h t a := by
 cases xs with
 | nil => exact ty.elim
 | cons a r => cases r with
  | nil => exact ⟨a,rfl,ty.1⟩
  | cons b r => exact ty.2.elim
theorem run (h : AM.H) (xs : List Value) (_ : Go.AM.Start h) (ty : TyAll Tryz.prog h [22] xs) : ∃ n h',callO Tryz.prog 0 Sc.tab.orc n 3 xs h = some (.bool true,h') := by
 obtain ⟨a,rfl,t1⟩ := one_in ty
 obtain ⟨l,sl⟩ := row_in t1
 obtain ⟨h',e⟩ := Sc.lawT 0 sl
 exact ⟨_,h',e⟩
set_option maxRecDepth 100000 in
theorem lifted (os : Os) (started : os.Started) (H : Type) (enc : TypeId × Value → H) :
 ReturnsInHanded {} Tryz.checked os 3 .any (fun w args => (Rows.scriptReadsSpec.pre enc Tryz.prog Tryz.f3 [] false w args ∧ laidMetH Tryz.prog Rows.scriptReadsRow.laid w) ∧ sizedMet enc Tryz.prog Tryz.f3 (OpenSpec.ofChange Rows.scriptReadsSpec) false w args)
  (Rows.scriptReadsSpec.post enc Tryz.prog Tryz.f3 false true false false) := by
 refine returnsInHanded_of_change_and (C := Tryz.checked) (X := fun w _ => laidMetH Tryz.prog Rows.scriptReadsRow.laid w) (fun _ _ _ hh h => h.of_heap hh) own started (by kernel_rfl) Tryz.func3
  (ChangeSpec.witness_shaped (enc := enc) (C := Tryz.checked) (os := os) (X := fun w _ => laidMetH Tryz.prog Rows.scriptReadsRow.laid w) false (World.laidAll Tryz.prog os Rows.scriptReadsRow.laid) #[.slice none 0 0] 8 (World.laidAll_os _ _ _) (World.shaped_of_RefB (by kernel_rfl) (by kernel_rfl)) (by kernel_rfl) (by kernel_rfl) (by kernel_rfl)
   (by rw [MakeChecks.laidMetH_plain _ _ _ (by kernel_rfl)]; exact laidMet_laidAll _ (by kernel_rfl) (by kernel_rfl))) ?_
 intro W base args ds gs before hval0 hW _ _ hL _
 have hW' := hW
 obtain ⟨p,q,hA0,hV,rfl,hfz,hnd⟩ := hW
 have hA : DataW.TrodAll enc Tryz.prog W 0 (fun _ => true) true Tryz.f3.params.toList args.toList ds p := hA0
 rw [Tryz.params3] at hA
 obtain ⟨rfl,rfl⟩ := trodVars_none hV
 have hlen := trodAll_len _ _ _ _ hA
 rw [MakeChecks.laidMetH_plain _ _ _ (by kernel_rfl)] at hL
 have hcalls := open_callsO (base := 0) (laid_pos hL) zeros mixed names Sc.tab_closed Tryz.func3 (by kernel_rfl) (ts := [22]) (n := 8) (List.all_eq_true.1 (by kernel_rfl)) (args := args)
  (fun j t v h1 h2 => hval0 j t v (by rw [Tryz.params3]; simpa using h1) (by simpa using h2)) hA run
 refine hcalls.mono fun e W' ⟨he,hg⟩ => ?_
 subst he
 match ds,hlen with
 | [d],_ =>
  refine ⟨_,rfl,[d],[],_,[],p,[],hW',?_,?_,?_,hg.frame _,fun h => by cases h⟩
  · exact trodAll_cons_mk (shut_bool Tryz.underlying4 _) trodAll_mk0
  · rw [List.append_nil,Tryz.params3]
    exact trodAll_stays (by kernel_rfl) hg _ _ _ _ (fun t ht => by
     have hall : ([22].all fun u => Tryz.prog.readableRec u && decide (u < Tryz.prog.types.size)) = true := by kernel_rfl
     have := List.all_eq_true.1 hall t ht
     rw [Bool.and_eq_true] at this
     exact ⟨this.1,of_decide_eq_true this.2⟩) hA
  · rfl
theorem fnamed : Tryz.pinned.checked.prog.funcNamed Rows.scriptReadsRow.func = some 3 := by kernel_rfl
set_option maxHeartbeats 4000000 in
theorem facts : joinedFacts Tryz.pinned.checked.prog 3 Tryz.f3 Rows.scriptReadsSpec Rows.scriptReadsRow = true := by
 unfold joinedFacts
 repeat' with_reducible refine Bool.and_eq_true_iff.mpr ⟨?_,?_⟩
 all_goals (as_aux_lemma => kernel_rfl)
theorem inst : Tryz.f3.isInstance Tryz.pinned.checked.prog Rows.scriptReadsRow.origin Rows.scriptReadsRow.targs := of_decide_eq_true (by kernel_rfl)
theorem wrapper : Tryz.f3.isWrapper Tryz.pinned.checked.prog Rows.scriptReadsRow.wrapper Rows.scriptReadsRow.mainSum := by
 unfold Func.isWrapper; first | (rw [if_pos (by decide +kernel)]; kernel_rfl) | (rw [if_neg (by decide +kernel)]; exact ⟨rfl,rfl⟩)
theorem over : Rows.ScriptReadsSaid :=
 OpenClaim.holds_of_wide 3 Tryz.f3 rfl rfl rfl rfl rfl rfl rfl ⟨rfl,rfl,rfl,rfl,rfl⟩ rfl rfl rfl rfl rfl fnamed Tryz.func3 facts inst wrapper
  (fun os started H enc _ => lifted os started H enc)
theorem proved : Rows.ScriptReadsCardSaid :=
 Claim7.holds_tied_plain_at .later [] Rows.scriptReadsCard.laidKinds true Rows.scriptReadsCard.stood.harness false
  over (fun _ h => by cases h) (by as_aux_lemma => kernel_rfl) (fun _ h => by cases h) scriptReads_row_tie rfl ⟨rfl,rfl⟩ (by as_aux_lemma => kernel_rfl) rfl
  (fun f fn hf hfn => by
   obtain rfl : f = 3 := Option.some.inj ((show Tryz.prog.funcNamed Rows.scriptReadsRow.func = some 3 by as_aux_lemma => kernel_rfl).symm.trans hf) |>.symm
   obtain rfl : fn = Tryz.f3 := (Option.some.inj (Tryz.func3.symm.trans hfn)).symm
   exact ⟨by as_aux_lemma => kernel_rfl,fun j t ht => by
    rw [Tryz.params3] at ht
    have hm : t ∈ [22] := by simpa using Array.mem_of_getElem? ht
    have hall : ([22].all fun u => !Tryz.prog.wantsStandIn u) = true := by as_aux_lemma => kernel_rfl
    exact (show Tryz.prog.wantsStandIn t = false by simpa using List.all_eq_true.1 hall t hm)⟩)
  (by as_aux_lemma => kernel_rfl)
#print axioms proved
end Go.Proofs.YtdljlmpleibkiaaGreatDoor.scriptReads
