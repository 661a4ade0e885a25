/-
 WiresCut returns true: of any bytes; calls of which the answer is known ahead (awake and small closed ones) are run by an abstract machine (proved to simulate the model),in the kernel; the card's listed variables are tied to the program's text. No condition.
-/
import Derived.Test.YtohapjojkjjflaaDoorRows
import Derived.Test.YtohapjojkjjflaaDoorTie
import Derived.Test.YtohapjojkjjflaaDoorCards
import Derived.WalkKit
import Derived.ProofKit
import Derived.OpenShut
import Derived.LaidMore
import Derived.Lay
import Derived.Stop.Joined
import Derived.SevenTiedAt
import Derived.Test.YtohapjojkjjflaaDoorWcDoor
namespace Go.Proofs.YtohapjojkjjflaaDoor.wiresCut
open Go Go.ChangeShapes Go.WideShapes Go.ChangeAt Go.RowKit Go.AM
theorem own : ownKnob Tryd.prog.godebug = none := by kernel_rfl
theorem zeros : zerosPlain Tryd.prog = true := by kernel_rfl
theorem mixed : Tryd.prog.follows .mixedOrders = true := by kernel_rfl
theorem names : namesOK Tryd.prog = true := by kernel_rfl
theorem two_in {P : Program} {h : AM.H} {t u : TypeId} {xs : List Value} (ty : TyAll P h [t,u] xs) : ∃ a b,xs = [a,b] ∧ TyV P h t a ∧ TyV P h u b := by
 cases xs with
 | nil => exact ty.elim
 | cons a r => cases r with
  | nil => exact ty.2.elim
  | cons b r => cases r with
   | nil => exact ⟨a,b,rfl,ty.1,ty.2.1⟩
   | cons c r => exact ty.2.2.elim
theorem run {A : List Nat} (lA : A.length = 32) (h : AM.H) (xs : List Value) (_ : Go.AM.Start h) (g0 : h.get 0 = some (.cells (byteL Go.Pinned.utf8FirstZ) none)) (g1 : h.get 1 = some (.cells (byteL A) none)) (n3 : 2 ≤ h.next) (ty : TyAll Tryd.prog h [22,9] xs) : ∃ n h',callO Tryd.prog 2 Wc.tab.orc n 3 xs h = some (.bool true,h') := by
 obtain ⟨a,b,rfl,t1,t2⟩ := two_in ty
 obtain ⟨ps,hr,rg,_⟩ := Wc.row_in t1
 obtain ⟨s,rfl,_⟩ := Wc.text_in t2
 obtain ⟨h',e⟩ := Wc.lawT (b := s) 0 g0 g1 lA n3 hr rg
 exact ⟨0 + 1001003,h',e⟩
theorem first_len : Go.Pinned.utf8FirstZ.length = 256 := by kernel_rfl
theorem ro_of {W : World} (hL : laidMet Tryd.prog Rows.wiresCutRow.laid W) : ∃ A : List Nat,A.length = 32 ∧ RO 2 Wc.mu2 (Wc.h2 Go.Pinned.utf8FirstZ A) W ∧ 0 < W.heap.size := by
 obtain ⟨ps,hL,_,_⟩ := hL
 have hL : DataW.LaidVars Tryd.prog W [("unicode/utf8.acceptRanges",Rows.laid_unicode_utf8_acceptRanges),("unicode/utf8.first",Rows.laid_unicode_utf8_first)] ps := hL
 obtain ⟨⟨c1,y1,z1,f1,p1,g1,d1⟩,q2,hL⟩ := Wc.laid_at (k := 1) (t := 115) hL (by kernel_rfl) (by kernel_rfl)
 obtain ⟨⟨c0,y0,z0,f0,p0,g0,d0⟩,_⟩ := Wc.laid_at (k := 0) (t := 112) hL (by kernel_rfl) (by kernel_rfl)
 obtain ⟨l0,xs,hx,e0⟩ := Wc.arr_bytes (n := 256) (e := 5) Tryd.underlying112 Tryd.underlying5 (by kernel_rfl) (by kernel_rfl) d0
 obtain ⟨l1,e1⟩ := Wc.arr_pairs (n := 16) (s := 114) (e := 5) Tryd.underlying115 Tryd.underlying114 ⟨_,rfl,rfl,rfl⟩ ⟨_,rfl,rfl,rfl⟩ Tryd.underlying5 (by kernel_rfl) (by kernel_rfl) (by kernel_rfl) d1
 have hs : 1 < W.heap.size := (Array.getElem?_eq_some_iff.1 g1).1
 let A : List Nat := (List.range 32).map fun i => match c1[i]? with | some (Value.int _ n) => n.toNat | _ => 0
 have lA : A.length = 32 := by simp [A]
 refine ⟨A,lA,Wc.ro2 first_len lA hs g0 g1 (by simpa using l0) (by simpa using l1) (fun i x hi => ?_) (fun i x hi => ?_),by omega⟩
 · have hi' : i < 256 := by have := (List.getElem?_eq_some_iff.1 hi).1; rw [first_len] at this; exact this
   obtain ⟨b,hb,hxb⟩ := e0 i hi'
   have hx' : xs = Go.Pinned.utf8FirstZ.map fun (n : Nat) => DataW.lit (.int .u8 (n : Int)) := by
    have h1 : DataW.agg xs = Go.Pinned.utf8First := hx.symm
    have h2 : Go.Pinned.utf8First = DataW.agg (Go.Pinned.utf8FirstZ.map fun (n : Nat) => DataW.lit (.int .u8 (n : Int))) := by kernel_rfl
    rw [h2] at h1
    exact DataW.agg.inj h1
   rw [hx',List.getElem?_map,hi] at hxb
   have h3 : (DataW.lit (H := Unit) (.int .u8 (x : Int))) = .lit (.int .u8 (b : Int)) := Option.some.inj hxb
   injection h3 with h4
   injection h4 with _ h5
   rw [h5,← Array.getElem?_toList]
   exact hb
 · have hi' : i < 32 := by have := (List.getElem?_eq_some_iff.1 hi).1; rw [lA] at this; exact this
   obtain ⟨b,hb⟩ := e1 i (by omega)
   rw [Array.getElem?_toList] at hb
   have : A[i]? = some b := by
    show ((List.range 32).map fun i => match c1[i]? with | some (Value.int _ n) => n.toNat | _ => 0)[i]? = some b
    rw [List.getElem?_map,List.getElem?_range hi']
    simp [hb]
   rw [this] at hi
   rw [hb,Option.some.inj hi]
set_option maxRecDepth 100000 in
theorem lifted (os : Os) (started : os.Started) (H : Type) (enc : TypeId × Value → H) :
 ReturnsInHanded {} Tryd.checked os 3 .any (fun w args => (Rows.wiresCutSpec.pre enc Tryd.prog Tryd.f3 [] false w args ∧ laidMetH Tryd.prog Rows.wiresCutRow.laid w) ∧ sizedMet enc Tryd.prog Tryd.f3 (OpenSpec.ofChange Rows.wiresCutSpec) false w args)
  (Rows.wiresCutSpec.post enc Tryd.prog Tryd.f3 false true false false) := by
 refine returnsInHanded_of_change_and (C := Tryd.checked) (X := fun w _ => laidMetH Tryd.prog Rows.wiresCutRow.laid w) (fun _ _ _ hh h => h.of_heap hh) own started (by kernel_rfl) Tryd.func3
  (ChangeSpec.witness_shaped (enc := enc) (C := Tryd.checked) (os := os) (X := fun w _ => laidMetH Tryd.prog Rows.wiresCutRow.laid w) false (World.laidAll Tryd.prog os Rows.wiresCutRow.laid) #[.slice none 0 0,.string ⟨#[]⟩] 8 (World.laidAll_os _ _ _) (World.shaped_of_RefB (by kernel_rfl) (by kernel_rfl)) (by kernel_rfl) (by kernel_rfl) (by kernel_rfl)
   (by rw [MakeChecks.laidMetH_plain _ _ _ (by kernel_rfl)]; exact laidMet_laidAll _ (by kernel_rfl) (by kernel_rfl))) ?_
 intro W base args ds gs before hval0 hW _ _ hL _
 have hW' := hW
 obtain ⟨p,q,hA0,hV,rfl,hfz,hnd⟩ := hW
 have hA : DataW.TrodAll enc Tryd.prog W 0 (fun _ => true) true Tryd.f3.params.toList args.toList ds p := hA0
 rw [Tryd.params3] at hA
 obtain ⟨rfl,rfl⟩ := trodVars_none hV
 have hlen := trodAll_len _ _ _ _ hA
 rw [MakeChecks.laidMetH_plain _ _ _ (by kernel_rfl)] at hL
 obtain ⟨A,lA,ro,hpos⟩ := ro_of hL
 have hcalls := Wc.door_callsO (base := 0) ro hpos zeros mixed names Wc.tab_closed Tryd.func3 (by kernel_rfl) (ts := [22,9]) (n := 8) (List.all_eq_true.1 (by kernel_rfl)) (args := args)
  (fun j t v h1 h2 => hval0 j t v (by rw [Tryd.params3]; simpa using h1) (by simpa using h2)) hA (run lA)
 refine hcalls.mono fun e W' ⟨he,hg⟩ => ?_
 subst he
 match ds,hlen with
 | [d1,d2],_ =>
  refine ⟨_,rfl,[d1,d2],[],_,[],p,[],hW',?_,?_,?_,hg.frame _,fun h => by cases h⟩
  · exact trodAll_cons_mk (shut_bool Tryd.underlying4 _) trodAll_mk0
  · rw [List.append_nil,Tryd.params3]
    exact trodAll_stays (by kernel_rfl) hg _ _ _ _ (fun t ht => by
     have hall : ([22,9].all fun u => Tryd.prog.readableRec u && decide (u < Tryd.prog.types.size)) = true := by kernel_rfl
     have := List.all_eq_true.1 hall t ht
     rw [Bool.and_eq_true] at this
     exact ⟨this.1,of_decide_eq_true this.2⟩) hA
  · rfl
theorem fnamed : Tryd.pinned.checked.prog.funcNamed Rows.wiresCutRow.func = some 3 := by kernel_rfl
set_option maxHeartbeats 4000000 in
theorem facts : joinedFacts Tryd.pinned.checked.prog 3 Tryd.f3 Rows.wiresCutSpec Rows.wiresCutRow = true := by
 unfold joinedFacts
 repeat' with_reducible refine Bool.and_eq_true_iff.mpr ⟨?_,?_⟩
 all_goals (as_aux_lemma => kernel_rfl)
theorem inst : Tryd.f3.isInstance Tryd.pinned.checked.prog Rows.wiresCutRow.origin Rows.wiresCutRow.targs := of_decide_eq_true (by kernel_rfl)
theorem wrapper : Tryd.f3.isWrapper Tryd.pinned.checked.prog Rows.wiresCutRow.wrapper Rows.wiresCutRow.mainSum := by
 unfold Func.isWrapper; first | (rw [if_pos (by decide +kernel)]; kernel_rfl) | (rw [if_neg (by decide +kernel)]; exact ⟨rfl,rfl⟩)
theorem over : Rows.WiresCutSaid :=
 OpenClaim.holds_of_wide 3 Tryd.f3 rfl rfl rfl rfl rfl rfl rfl ⟨rfl,rfl,rfl,rfl,rfl⟩ rfl rfl rfl rfl rfl fnamed Tryd.func3 facts inst wrapper
  (fun os started H enc _ => lifted os started H enc)
theorem proved : Rows.WiresCutCardSaid :=
 Claim7.holds_tied_plain_at .later [] Rows.wiresCutCard.laidKinds true Rows.wiresCutCard.stood.harness false
  over (fun _ h => by cases h) (by as_aux_lemma => kernel_rfl) (fun _ h => by cases h) wiresCut_row_tie rfl ⟨rfl,rfl⟩ (by as_aux_lemma => kernel_rfl) rfl
  (fun f fn hf hfn => by
   obtain rfl : f = 3 := Option.some.inj ((show Tryd.prog.funcNamed Rows.wiresCutRow.func = some 3 by as_aux_lemma => kernel_rfl).symm.trans hf) |>.symm
   obtain rfl : fn = Tryd.f3 := (Option.some.inj (Tryd.func3.symm.trans hfn)).symm
   exact ⟨by as_aux_lemma => kernel_rfl,fun j t ht => by
    rw [Tryd.params3] at ht
    have hm : t ∈ [22,9] := by simpa using Array.mem_of_getElem? ht
    have hall : ([22,9].all fun u => !Tryd.prog.wantsStandIn u) = true := by as_aux_lemma => kernel_rfl
    exact (show Tryd.prog.wantsStandIn t = false by simpa using List.all_eq_true.1 hall t hm)⟩)
  (by as_aux_lemma => kernel_rfl)
#print axioms proved
end Go.Proofs.YtohapjojkjjflaaDoor.wiresCut
