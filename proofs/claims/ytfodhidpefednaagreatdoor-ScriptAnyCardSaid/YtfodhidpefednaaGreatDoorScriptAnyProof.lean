/-
 ScriptAny returns true: of any bytes; calls of which the answer is known ahead (awake and small closed ones) are run by an abstract machine (proved to simulate the model),in the kernel; the card's listed variables are tied to the program's text. No condition.
-/
import Derived.Test.YtfodhidpefednaaGreatDoorRows
import Derived.Test.YtfodhidpefednaaGreatDoorTie
import Derived.Test.YtfodhidpefednaaGreatDoorCards
import Derived.WalkKit
import Derived.ProofKit
import Derived.OpenShut
import Derived.LaidMore
import Derived.Lay
import Derived.Stop.Joined
import Derived.SevenTiedAt
import Derived.Test.YtfodhidpefednaaGreatDoorAnDoor
namespace Go.Proofs.YtfodhidpefednaaGreatDoor.scriptAny
open Go Go.ChangeShapes Go.WideShapes Go.ChangeAt Go.RowKit Go.AM
theorem own : ownKnob Tryz.prog.godebug = none := by kernel_rfl
theorem zeros : zerosPlain Tryz.prog = true := by kernel_rfl
theorem mixed : Tryz.prog.follows .mixedOrders = true := by kernel_rfl
theorem names : namesOK Tryz.prog = true := by kernel_rfl
theorem byte_in {h : AM.H} {x : List Value} (ty : Ty Tryz.prog h 5 x) : ∃ b : UInt8,x = [An.u8 b] := by
 obtain ⟨n,h3,h4⟩ := ty.int_inv Tryz.underlying5
 have hq : IntKind.u8.min ≤ n ∧ n ≤ IntKind.u8.max := by simpa [Lit.wf] using h4
 have e1 : IntKind.u8.min = 0 := rfl
 have e2 : IntKind.u8.max = 255 := rfl
 refine ⟨UInt8.ofNat n.toNat,?_⟩
 have e3 : ((UInt8.ofNat n.toNat).toNat : Int) = n := by
  rw [← An.ofNat_int (show n.toNat < 256 by omega)]
  exact Int.toNat_of_nonneg (by omega)
 rw [h3]
 show _ = [Value.int .u8 ((UInt8.ofNat n.toNat).toNat : Int)]
 rw [e3]
theorem row_in {h : AM.H} {v : Value} (ty : TyV Tryz.prog h 22 v) : ∃ (full : List UInt8) (id cap : Nat) (cs : List Value) (own : Option Nat),(v = .slice none 0 0 ∧ full = []) ∨ (v = .slice (some ⟨id,0,none⟩) full.length (2 * cap + 1) ∧ full.length ≤ cap ∧ id < h.next ∧ (full ≠ [] → h.get id = some (.cells cs own) ∧ cs.take full.length = full.map An.u8)) := by
 cases ty with
 | agg hu _ => rw [Tryz.underlying22] at hu; simp at hu
 | one hu ty =>
  generalize hcs : [v] = as' at ty
  cases ty with
  | bool b hb => rw [Tryz.underlying22] at hb; simp at hb
  | int k n hb _ => rw [Tryz.underlying22] at hb; simp at hb
  | str s hb _ => rw [Tryz.underlying22] at hb; simp at hb
  | struct parts hb _ _ _ => rw [Tryz.underlying22] at hb; simp at hb
  | sliceNil hb =>
   simp only [List.cons.injEq,and_true] at hcs
   exact ⟨[],0,0,[],none,.inl ⟨hcs,rfl⟩⟩
  | slice id len els hb hl hm hi hg hs he =>
   simp only [List.cons.injEq,and_true] at hcs
   rw [Tryz.underlying22] at hb
   simp only [Option.some.injEq,TypeDesc.slice.injEq] at hb
   subst hb
   have key : ∀ els : List (List Value),(∀ x ∈ els,Ty Tryz.prog h 5 x) → ∃ l : List UInt8,els.flatten = l.map An.u8 ∧ l.length = els.length := by
    intro els
    induction els with
    | nil => intro _; exact ⟨[],rfl,rfl⟩
    | cons x els ih =>
     intro hx
     obtain ⟨l,h1,h2⟩ := ih fun y hy => hx y (by simp [hy])
     obtain ⟨b,h3⟩ := byte_in (hx x (by simp))
     refine ⟨b :: l,?_,by simp [h2]⟩
     rw [List.flatten_cons,h1,h3]; rfl
   obtain ⟨l,h1,h2⟩ := key els he
   refine ⟨l.take len,id,els.length,els.flatten,none,.inr ⟨?_,?_,hi,fun hne => ⟨hg fun e => ?_,?_⟩⟩⟩
   · rw [hcs,List.length_take,h2,Nat.min_eq_left hl]
   · rw [List.length_take]; omega
   · rw [e] at h2
     have : l = [] := List.eq_nil_of_length_eq_zero h2
     rw [this] at hne
     simp at hne
   · rw [h1,List.map_take,List.length_take,h2,Nat.min_eq_left hl]
theorem one_in {P : Program} {h : AM.H} {t : TypeId} {xs : List Value} (ty : TyAll P h [t] xs) : ∃ a,xs = [a] ∧ TyV P h t a := by
 cases xs with
 | nil => exact ty.elim
 | cons a r => cases r with
  | nil => exact ⟨a,rfl,ty.1⟩
  | cons b r => exact ty.2.elim
theorem run {A : List Nat} (lA : A.length = 32) (h : AM.H) (xs : List Value) (_ : Go.AM.Start h) (g0 : h.get 0 = some (.cells (byteL Go.Pinned.utf8FirstZ) none)) (g1 : h.get 1 = some (.cells (byteL A) none)) (n4 : 4 ≤ h.next) (ty : TyAll Tryz.prog h [22] xs) : ∃ n h',callO Tryz.prog 4 An.tab.orc n 3 xs h = some (.bool true,h') := by
 obtain ⟨a,rfl,t1⟩ := one_in ty
 obtain ⟨full,id,cap,cs,own,hv⟩ := row_in t1
 obtain ⟨h',e⟩ := An.lawT 0 g0 g1 lA n4 hv
 exact ⟨_,h',e⟩
theorem first_len : Go.Pinned.utf8FirstZ.length = 256 := by kernel_rfl
theorem ro_of {W : World} (hL : laidMet Tryz.prog Rows.scriptAnyRow.laid W) : ∃ A : List Nat,A.length = 32 ∧ RO 4 An.mu4 (An.h4 Go.Pinned.utf8FirstZ A) W ∧ 0 < W.heap.size := by
 obtain ⟨ps,hL,_,_⟩ := hL
 have hL : DataW.LaidVars Tryz.prog W [("math/bits.deBruijn64tab",Rows.laid_math_bits_deBruijn64tab),("unicode/utf8.acceptRanges",Rows.laid_unicode_utf8_acceptRanges),("unicode/utf8.first",Rows.laid_unicode_utf8_first)] ps := hL
 obtain ⟨⟨c3,y3,z3,f3,p3,g3,d3⟩,q1,hL⟩ := An.laid_at (k := 3) (t := 355) hL (by kernel_rfl) (by kernel_rfl)
 obtain ⟨⟨c1,y1,z1,f1,p1,g1,d1⟩,q2,hL⟩ := An.laid_at (k := 1) (t := 343) hL (by kernel_rfl) (by kernel_rfl)
 obtain ⟨⟨c0,y0,z0,f0,p0,g0,d0⟩,_⟩ := An.laid_at (k := 0) (t := 340) hL (by kernel_rfl) (by kernel_rfl)
 obtain ⟨l0,xs,hx,e0⟩ := An.arr_bytes (n := 256) (e := 5) Tryz.underlying340 Tryz.underlying5 (by kernel_rfl) (by kernel_rfl) d0
 obtain ⟨l1,e1⟩ := An.arr_pairs (n := 16) (s := 342) (e := 5) Tryz.underlying343 Tryz.underlying342 ⟨_,rfl,rfl,rfl⟩ ⟨_,rfl,rfl,rfl⟩ Tryz.underlying5 (by kernel_rfl) (by kernel_rfl) (by kernel_rfl) d1
 have hs : 3 < W.heap.size := (Array.getElem?_eq_some_iff.1 g3).1
 let A : List Nat := (List.range 32).map fun i => match c1[i]? with | some (Value.int _ n) => n.toNat | _ => 0
 have lA : A.length = 32 := by simp [A]
 refine ⟨A,lA,An.ro4 first_len lA hs g0 g1 (by simpa using l0) (by simpa using l1) (fun i x hi => ?_) (fun i x hi => ?_),by omega⟩
 · have hi' : i < 256 := by have := (List.getElem?_eq_some_iff.1 hi).1; rw [first_len] at this; exact this
   obtain ⟨b,hb,hxb⟩ := e0 i hi'
   have hx' : xs = Go.Pinned.utf8FirstZ.map fun (n : Nat) => DataW.lit (.int .u8 (n : Int)) := by
    have h1 : DataW.agg xs = Go.Pinned.utf8First := hx.symm
    have h2 : Go.Pinned.utf8First = DataW.agg (Go.Pinned.utf8FirstZ.map fun (n : Nat) => DataW.lit (.int .u8 (n : Int))) := by kernel_rfl
    rw [h2] at h1
    exact DataW.agg.inj h1
   rw [hx',List.getElem?_map,hi] at hxb
   have h3 : (DataW.lit (H := Unit) (.int .u8 (x : Int))) = .lit (.int .u8 (b : Int)) := Option.some.inj hxb
   injection h3 with h4
   injection h4 with _ h5
   rw [h5,← Array.getElem?_toList]
   exact hb
 · have hi' : i < 32 := by have := (List.getElem?_eq_some_iff.1 hi).1; rw [lA] at this; exact this
   obtain ⟨b,hb⟩ := e1 i (by omega)
   rw [Array.getElem?_toList] at hb
   have : A[i]? = some b := by
    show ((List.range 32).map fun i => match c1[i]? with | some (Value.int _ n) => n.toNat | _ => 0)[i]? = some b
    rw [List.getElem?_map,List.getElem?_range hi']
    simp [hb]
   rw [this] at hi
   rw [hb,Option.some.inj hi]
set_option maxRecDepth 100000 in
theorem lifted (os : Os) (started : os.Started) (H : Type) (enc : TypeId × Value → H) :
 ReturnsInHanded {} Tryz.checked os 3 .any (fun w args => (Rows.scriptAnySpec.pre enc Tryz.prog Tryz.f3 [] false w args ∧ laidMetH Tryz.prog Rows.scriptAnyRow.laid w) ∧ sizedMet enc Tryz.prog Tryz.f3 (OpenSpec.ofChange Rows.scriptAnySpec) false w args)
  (Rows.scriptAnySpec.post enc Tryz.prog Tryz.f3 false true false false) := by
 refine returnsInHanded_of_change_and (C := Tryz.checked) (X := fun w _ => laidMetH Tryz.prog Rows.scriptAnyRow.laid w) (fun _ _ _ hh h => h.of_heap hh) own started (by kernel_rfl) Tryz.func3
  (ChangeSpec.witness_shaped (enc := enc) (C := Tryz.checked) (os := os) (X := fun w _ => laidMetH Tryz.prog Rows.scriptAnyRow.laid w) false (World.laidAll Tryz.prog os Rows.scriptAnyRow.laid) #[.slice none 0 0] 8 (World.laidAll_os _ _ _) (World.shaped_of_RefB (by kernel_rfl) (by kernel_rfl)) (by kernel_rfl) (by kernel_rfl) (by kernel_rfl)
   (by rw [MakeChecks.laidMetH_plain _ _ _ (by kernel_rfl)]; exact laidMet_laidAll _ (by kernel_rfl) (by kernel_rfl))) ?_
 intro W base args ds gs before hval0 hW _ _ hL _
 have hW' := hW
 obtain ⟨p,q,hA0,hV,rfl,hfz,hnd⟩ := hW
 have hA : DataW.TrodAll enc Tryz.prog W 0 (fun _ => true) true Tryz.f3.params.toList args.toList ds p := hA0
 rw [Tryz.params3] at hA
 obtain ⟨rfl,rfl⟩ := trodVars_none hV
 have hlen := trodAll_len _ _ _ _ hA
 rw [MakeChecks.laidMetH_plain _ _ _ (by kernel_rfl)] at hL
 obtain ⟨A,lA,ro,hpos⟩ := ro_of hL
 have hcalls := An.door_callsO (base := 0) ro hpos zeros mixed names An.tab_closed Tryz.func3 (by kernel_rfl) (ts := [22]) (n := 8) (List.all_eq_true.1 (by kernel_rfl)) (args := args)
  (fun j t v h1 h2 => hval0 j t v (by rw [Tryz.params3]; simpa using h1) (by simpa using h2)) hA (run lA)
 refine hcalls.mono fun e W' ⟨he,hg⟩ => ?_
 subst he
 match ds,hlen with
 | [d],_ =>
  refine ⟨_,rfl,[d],[],_,[],p,[],hW',?_,?_,?_,hg.frame _,fun h => by cases h⟩
  · exact trodAll_cons_mk (shut_bool Tryz.underlying4 _) trodAll_mk0
  · rw [List.append_nil,Tryz.params3]
    exact trodAll_stays (by kernel_rfl) hg _ _ _ _ (fun t ht => by
     have hall : ([22].all fun u => Tryz.prog.readableRec u && decide (u < Tryz.prog.types.size)) = true := by kernel_rfl
     have := List.all_eq_true.1 hall t ht
     rw [Bool.and_eq_true] at this
     exact ⟨this.1,of_decide_eq_true this.2⟩) hA
  · rfl
theorem fnamed : Tryz.pinned.checked.prog.funcNamed Rows.scriptAnyRow.func = some 3 := by kernel_rfl
set_option maxHeartbeats 4000000 in
theorem facts : joinedFacts Tryz.pinned.checked.prog 3 Tryz.f3 Rows.scriptAnySpec Rows.scriptAnyRow = true := by
 unfold joinedFacts
 repeat' with_reducible refine Bool.and_eq_true_iff.mpr ⟨?_,?_⟩
 all_goals (as_aux_lemma => kernel_rfl)
theorem inst : Tryz.f3.isInstance Tryz.pinned.checked.prog Rows.scriptAnyRow.origin Rows.scriptAnyRow.targs := of_decide_eq_true (by kernel_rfl)
theorem wrapper : Tryz.f3.isWrapper Tryz.pinned.checked.prog Rows.scriptAnyRow.wrapper Rows.scriptAnyRow.mainSum := by
 unfold Func.isWrapper; first | (rw [if_pos (by decide +kernel)]; kernel_rfl) | (rw [if_neg (by decide +kernel)]; exact ⟨rfl,rfl⟩)
theorem over : Rows.ScriptAnySaid :=
 OpenClaim.holds_of_wide 3 Tryz.f3 rfl rfl rfl rfl rfl rfl rfl ⟨rfl,rfl,rfl,rfl,rfl⟩ rfl rfl rfl rfl rfl fnamed Tryz.func3 facts inst wrapper
  (fun os started H enc _ => lifted os started H enc)
theorem proved : Rows.ScriptAnyCardSaid :=
 Claim7.holds_tied_plain_at .later [] Rows.scriptAnyCard.laidKinds true Rows.scriptAnyCard.stood.harness false
  over (fun _ h => by cases h) (by as_aux_lemma => kernel_rfl) (fun _ h => by cases h) scriptAny_row_tie rfl ⟨rfl,rfl⟩ (by as_aux_lemma => kernel_rfl) rfl
  (fun f fn hf hfn => by
   obtain rfl : f = 3 := Option.some.inj ((show Tryz.prog.funcNamed Rows.scriptAnyRow.func = some 3 by as_aux_lemma => kernel_rfl).symm.trans hf) |>.symm
   obtain rfl : fn = Tryz.f3 := (Option.some.inj (Tryz.func3.symm.trans hfn)).symm
   exact ⟨by as_aux_lemma => kernel_rfl,fun j t ht => by
    rw [Tryz.params3] at ht
    have hm : t ∈ [22] := by simpa using Array.mem_of_getElem? ht
    have hall : ([22].all fun u => !Tryz.prog.wantsStandIn u) = true := by as_aux_lemma => kernel_rfl
    exact (show Tryz.prog.wantsStandIn t = false by simpa using List.all_eq_true.1 hall t hm)⟩)
  (by as_aux_lemma => kernel_rfl)
#print axioms proved
end Go.Proofs.YtfodhidpefednaaGreatDoor.scriptAny
