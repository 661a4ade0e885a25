import Derived.Test.YtfodhidpefednaaGreatDoorRs
import Derived.Test.YtfodhidpefednaaGreatDoorRr
set_option maxRecDepth 100000
namespace Go.Proofs.YtfodhidpefednaaGreatDoor.An
open Tryz (prog)
open Go Go.AM AnA AnB AnC AnE AnG
structure BaseT (B : H) (A : List Nat) : Prop where
 n4 : 4 ≤ B.next
 g0 : B.get 0 = some (.cells (byteL Go.Pinned.utf8FirstZ) none)
 g1 : B.get 1 = some (.cells (byteL A) none)
 lA : A.length = 32
theorem firstT {c : Nat} (h1 : 128 ≤ c) (h2 : c < 256) : ∃ x,Go.Pinned.utf8FirstZ[c]? = some x ∧ x < 256 ∧ (240 ≤ x ∨ (2 ≤ x % 8 ∧ x % 8 ≤ 4)) := by
 have all : ((List.range 256).all fun c => Nat.blt c 128 || (match Go.Pinned.utf8FirstZ[c]? with | some x => Nat.blt x 256 && (Nat.ble 240 x || (Nat.ble 2 (x % 8) && Nat.ble (x % 8) 4)) | none => false)) = true := by kernel_rfl
 have := List.all_eq_true.1 all c (List.mem_range.2 h2)
 rw [Bool.or_eq_true,blt_iff] at this
 rcases this with h | h
 · omega
 · cases e : Go.Pinned.utf8FirstZ[c]? with
   | none => rw [e] at h; cases h
   | some x =>
    rw [e] at h
    simp only [Bool.and_eq_true,Bool.or_eq_true,blt_iff,ble_iff] at h
    exact ⟨x,rfl,h.1,h.2⟩
def firstN (c : Nat) : Nat := (Go.Pinned.utf8FirstZ[c]?).getD 0
def whG (z lo hi : Nat) (t : List UInt8) : Bool :=
 if t.length + 1 < z then false else
 match t with
 | [] => false
 | b :: t2 =>
  if b.toNat < lo then false else if hi < b.toNat then false else
  if z ≤ 2 then true else
  match t2 with
  | [] => false
  | d :: t3 =>
   if d.toNat < 128 then false else if 191 < d.toNat then false else
   if z ≤ 3 then true else
   match t3 with
   | [] => false
   | e :: _ => if e.toNat < 128 then false else if 191 < e.toNat then false else true
def whB (A : List Nat) : List UInt8 → Bool
 | [] => false
 | c :: t => if 240 ≤ firstN c.toNat then false else whG (firstN c.toNat % 8) ((A[2 * (firstN c.toNat / 16)]?).getD 0) ((A[2 * (firstN c.toNat / 16) + 1]?).getD 0) t
def andI (k : IntKind) (x y : Int) : Int := k.wrap (BitVec.ofInt k.bits x &&& BitVec.ofInt k.bits y).toNat
def orI (k : IntKind) (x y : Int) : Int := k.wrap (BitVec.ofInt k.bits x ||| BitVec.ofInt k.bits y).toNat
def andNI (k : IntKind) (x y : Int) : Int := k.wrap (BitVec.ofInt k.bits x &&& ~~~ BitVec.ofInt k.bits y).toNat
theorem bin_and (t : TypeId) (k : IntKind) (x y : Int) : A.bin prog .and t (.int k x) (.int k y) = some (.int k (andI k x y)) := bin_int prog .and t k x y (by simp) (by simp)
theorem bin_or (t : TypeId) (k : IntKind) (x y : Int) : A.bin prog .or t (.int k x) (.int k y) = some (.int k (orI k x y)) := bin_int prog .or t k x y (by simp) (by simp)
theorem bin_andN (t : TypeId) (k : IntKind) (x y : Int) : A.bin prog .andNot t (.int k x) (.int k y) = some (.int k (andNI k x y)) := bin_int prog .andNot t k x y (by simp) (by simp)
def shlN (n : Nat) (x : Int) : Int := IntKind.i32.wrap (x * 2 ^ (min n IntKind.i32.bits))
def shrN (n : Nat) (x : Int) : Int := x.fdiv (2 ^ (min n IntKind.i32.bits))
theorem shl6 (x : Int) : A.bin prog .shl 21 (.int .i32 x) (.int .u64 6) = some (.int .i32 (shlN 6 x)) := rfl
theorem shl12 (x : Int) : A.bin prog .shl 21 (.int .i32 x) (.int .u64 12) = some (.int .i32 (shlN 12 x)) := rfl
theorem shl18 (x : Int) : A.bin prog .shl 21 (.int .i32 x) (.int .u64 18) = some (.int .i32 (shlN 18 x)) := rfl
theorem shl31 (x : Int) : A.bin prog .shl 21 (.int .i32 x) (.int .u64 31) = some (.int .i32 (shlN 31 x)) := rfl
theorem shr31 (x : Int) : A.bin prog .shr 21 (.int .i32 x) (.int .u64 31) = some (.int .i32 (shrN 31 x)) := rfl
theorem conv521 (x : Int) : A.conv prog 5 21 (.int .u8 x) = some (.int .i32 (IntKind.i32.wrap x)) := by kernel_rfl
theorem and7 {x : Nat} (hx : x < 256) : A.bin prog .and 5 (.int .u8 (x : Int)) (.int .u8 7) = some (.int .u8 ((x % 8 : Nat) : Int)) := by
 have all : ((List.range 256).all fun x => match A.bin prog .and 5 (.int .u8 (x : Int)) (.int .u8 7) with | some v => AM.same v (.int .u8 ((x % 8 : Nat) : Int)) | none => false) = true := by kernel_rfl
 have := List.all_eq_true.1 all x (List.mem_range.2 hx)
 split at this
 · rename_i v hv
   rw [hv,same_eq _ _ this]
 · cases this
section
variable {Q : Orc} {B : H} {A' : List Nat} (kb : KnB Q) (bt : BaseT B A') {h : H}
include kb bt
theorem t212 (k : Nat) {c : UInt8} {t : List UInt8} {z lo hi o : Nat} {h2 : H} (hsz : 2 ≤ z ∧ z ≤ 4) (ll : A.load false 1 (.pointer (some ⟨o,0,none⟩)) h2 = some (.int .u8 (lo : Int))) (lh : A.load false 1 (.pointer (some ⟨o,1,none⟩)) h2 = some (.int .u8 (hi : Int))) :
 ∃ r n,pacQ (callO prog 4 Q k) k (.int .i64 ((c :: t).length : Int)) (ptrV o) (.int .i64 (z : Int)) (str (c :: t)) (u8 c) h2 (fun x2 x3 h => some (Value.tuple ⟨[x2,x3]⟩,h)) = some (Value.tuple ⟨[.int .i32 r,.int .i64 n]⟩,h2) ∧ decide ((1 : Int) < n) = whG z lo hi t := by
 have _ := kb
 have _ := bt
 have lw : (c :: t).length = t.length + 1 := rfl
 unfold whG
 by_cases hs : t.length + 1 < z
 · have ds : decide (((c :: t).length : Int) < (z : Int)) = true := decide_eq_true (by omega)
   rw [if_pos hs]
   refine ⟨65533,1,?_,rfl⟩
   simp only [pacQ,pakA,zZ,ds,qZ,qQ,cond_true]
 have ds : decide (((c :: t).length : Int) < (z : Int)) = false := decide_eq_false (by omega)
 rw [if_neg hs]
 match t,hs,ds with
 | [],hs,_ => exact absurd (show 0 + 1 < z by omega) hs
 | b :: t2,hs,ds =>
  have i1 : A.indexStr (str (c :: b :: t2)) (.int .i64 1) = some (u8 b) := ixS (i := 1) rfl
  by_cases c1 : b.toNat < lo
  · have dc : decide ((b.toNat : Int) < (lo : Int)) = true := decide_eq_true (by omega)
    simp only [if_pos c1]
    refine ⟨65533,1,?_,rfl⟩
    simp only [pacQ,pakA,zZ,ds,qZ,qQ,cond_false,palE,i1,palF,qY,Nat.zero_add,ll,dc,cond_true]
  have dc : decide ((b.toNat : Int) < (lo : Int)) = false := decide_eq_false (by omega)
  by_cases c2 : hi < b.toNat
  · have dd : decide ((hi : Int) < (b.toNat : Int)) = true := decide_eq_true (by omega)
    simp only [if_neg c1,if_pos c2]
    refine ⟨65533,1,?_,rfl⟩
    simp only [pacQ,pakA,zZ,ds,qZ,qQ,cond_false,palE,i1,palF,qY,Nat.zero_add,ll,dc,lh,dd,cond_true]
  have dd : decide ((hi : Int) < (b.toNat : Int)) = false := decide_eq_false (by omega)
  by_cases z2 : z ≤ 2
  · have dz : decide ((z : Int) ≤ 2) = true := decide_eq_true (by omega)
    simp only [if_neg c1,if_neg c2,if_pos z2]
    refine ⟨(orI .i32 (shlN 6 (IntKind.i32.wrap (andI .u8 (c.toNat : Int) 31))) (IntKind.i32.wrap (andI .u8 (b.toNat : Int) 63))),2,?_,rfl⟩
    simp only [pacQ,pakA,zZ,ds,qZ,qQ,cond_false,palE,i1,palF,qY,Nat.zero_add,ll,dc,lh,dd,papH,bin_leq,dz,cond_true,bin_and,conv521,shl6,bin_or]
  have dz : decide ((z : Int) ≤ 2) = false := decide_eq_false (by omega)
  match t2,hs,ds,i1 with
  | [],hs,_,_ => exact absurd (show 0 + 1 + 1 < z by omega) hs
  | d :: t3,hs,ds,i1 =>
   have i2 : A.indexStr (str (c :: b :: d :: t3)) (.int .i64 2) = some (u8 d) := ixS (i := 2) rfl
   have hd2 : ∀ (kr : Value → Value → H → Option (Value × H)),pacQ (callO prog 4 Q k) k (.int .i64 ((c :: b :: d :: t3).length : Int)) (ptrV o) (.int .i64 (z : Int)) (str (c :: b :: d :: t3)) (u8 c) h2 kr = pafE (callO prog 4 Q k) k (.int .i64 (z : Int)) (str (c :: b :: d :: t3)) (u8 c) (u8 b) (u8 d) h2 kr := by
    intro kr
    simp only [pacQ,pakA,zZ,ds,qZ,qQ,cond_false,palE,i1,palF,qY,Nat.zero_add,ll,dc,lh,dd,papH,bin_leq,dz,pasN,i2]
   rw [hd2]
   simp only [if_neg c1,if_neg c2,if_neg z2]
   by_cases c3 : d.toNat < 128
   · have de : decide ((d.toNat : Int) < 128) = true := decide_eq_true (by omega)
     simp only [if_pos c3]
     refine ⟨65533,1,?_,rfl⟩
     simp only [pafE,pajP,zZ,de,qZ,qQ,cond_true]
   have de : decide ((d.toNat : Int) < 128) = false := decide_eq_false (by omega)
   by_cases c4 : 191 < d.toNat
   · have df : decide ((191 : Int) < (d.toNat : Int)) = true := decide_eq_true (by omega)
     simp only [if_neg c3,if_pos c4]
     refine ⟨65533,1,?_,rfl⟩
     simp only [pafE,pajP,zZ,de,qZ,qQ,cond_false,df,cond_true]
   have df : decide ((191 : Int) < (d.toNat : Int)) = false := decide_eq_false (by omega)
   by_cases z3 : z ≤ 3
   · have dz3 : decide ((z : Int) ≤ 3) = true := decide_eq_true (by omega)
     simp only [if_neg c3,if_neg c4,if_pos z3]
     refine ⟨(orI .i32 (orI .i32 (shlN 12 (IntKind.i32.wrap (andI .u8 (c.toNat : Int) 15))) (shlN 6 (IntKind.i32.wrap (andI .u8 (b.toNat : Int) 63)))) (IntKind.i32.wrap (andI .u8 (d.toNat : Int) 63))),3,?_,rfl⟩
     simp only [pafE,pajP,zZ,de,qZ,qQ,cond_false,df,palG,bin_leq,dz3,cond_true,bin_and,conv521,shl12,shl6,bin_or]
   have dz3 : decide ((z : Int) ≤ 3) = false := decide_eq_false (by omega)
   match t3,hs,i2 with
   | [],hs,_ => exact absurd (show 0 + 1 + 1 + 1 < z by omega) hs
   | e :: t4,hs,i2 =>
    have i3 : A.indexStr (str (c :: b :: d :: e :: t4)) (.int .i64 3) = some (u8 e) := ixS (i := 3) rfl
    simp only [if_neg c3,if_neg c4,if_neg z3]
    by_cases c5 : e.toNat < 128
    · have dh : decide ((e.toNat : Int) < 128) = true := decide_eq_true (by omega)
      simp only [if_pos c5]
      refine ⟨65533,1,?_,rfl⟩
      simp only [pafE,pajP,zZ,de,qZ,qQ,cond_false,df,palG,bin_leq,dz3,panD,i3,dh,cond_true]
    have dh : decide ((e.toNat : Int) < 128) = false := decide_eq_false (by omega)
    by_cases c6 : 191 < e.toNat
    · have di : decide ((191 : Int) < (e.toNat : Int)) = true := decide_eq_true (by omega)
      simp only [if_neg c5,if_pos c6]
      refine ⟨65533,1,?_,rfl⟩
      simp only [pafE,pajP,zZ,de,qZ,qQ,cond_false,df,palG,bin_leq,dz3,panD,i3,dh,di,cond_true]
    have di : decide ((191 : Int) < (e.toNat : Int)) = false := decide_eq_false (by omega)
    simp only [if_neg c5,if_neg c6]
    refine ⟨(orI .i32 (orI .i32 (orI .i32 (shlN 18 (IntKind.i32.wrap (andI .u8 (c.toNat : Int) 7))) (shlN 12 (IntKind.i32.wrap (andI .u8 (b.toNat : Int) 63)))) (shlN 6 (IntKind.i32.wrap (andI .u8 (d.toNat : Int) 63)))) (IntKind.i32.wrap (andI .u8 (e.toNat : Int) 63))),4,?_,rfl⟩
    simp only [pafE,pajP,zZ,de,qZ,qQ,cond_false,df,palG,bin_leq,dz3,panD,i3,dh,di,bin_and,conv521,shl18,shl12,shl6,bin_or]
theorem T212 (k : Nat) {c : UInt8} {t : List UInt8} (hB : Ext B h) (hc : 128 ≤ c.toNat) (hl : t.length ≤ 300) :
 ∃ h' r n,callO prog 4 Q (k + 1) 212 [str (c :: t)] h = some (.tuple ⟨[.int .i32 r,.int .i64 n]⟩,h') ∧ decide ((1 : Int) < n) = whB A' (c :: t) ∧ Ext h h' := by
 rw [F212eq Q k _ h (kb.fr 212 _ (by decide))]
 obtain ⟨x,hx,hx256,hx2⟩ := firstT hc c.toNat_lt
 have hfn : firstN c.toNat = x := by unfold firstN; rw [hx]; rfl
 have ln := qJ (c :: t)
 have d1 : decide (((c :: t).length : Int) < 1) = false := by rw [decide_eq_false_iff_not,List.length_cons]; omega
 have i0 : A.indexStr (str (c :: t)) (.int .i64 0) = some (u8 c) := ixS (i := 0) rfl
 have g0 : h.get 0 = some (.cells (byteL Go.Pinned.utf8FirstZ) none) := by rw [hB.get 0 (by have := bt.n4; omega)]; exact bt.g0
 have g1 : h.get 1 = some (.cells (byteL A') none) := by rw [hB.get 1 (by have := bt.n4; omega)]; exact bt.g1
 have ix0 : A.idxA 256 1 (.pointer (some ⟨0,0,none⟩)) (u8 c) = some (.pointer (some ⟨0,0 + c.toNat * 1,none⟩)) := by
  show (bif Nat.blt c.toNat 256 then _ else none) = _
  rw [blt_iff.2 c.toNat_lt]; rfl
 have l0 : A.load false 1 (.pointer (some ⟨0,0 + c.toNat * 1,none⟩)) h = some (.int .u8 (x : Int)) := by
  rw [qK,g0,Nat.zero_add,Nat.mul_one]
  show (byteL Go.Pinned.utf8FirstZ)[c.toNat]? = _
  unfold byteL
  rw [List.getElem?_map,hx]; rfl
 by_cases h240 : 240 ≤ x
 · have dg : decide ((240 : Int) ≤ (x : Int)) = true := decide_eq_true (by omega)
   have hw : whB A' (c :: t) = false := by
    show (if 240 ≤ firstN c.toNat then false else _) = _
    rw [hfn,if_pos h240]
   refine ⟨h,orI .i32 (andNI .i32 (IntKind.i32.wrap (c.toNat : Int)) (shrN 31 (shlN 31 (IntKind.i32.wrap (x : Int))))) (andI .i32 65533 (shrN 31 (shlN 31 (IntKind.i32.wrap (x : Int))))),1,?_,by rw [hw]; rfl,Ext.refl h⟩
   simp only [F212,p212a,papB,papC,ln,qZ,papD,zZ,d1,qQ,cond_false,papE,i0,papF,ix0,l0,papG,bin_geq,dg,cond_true,conv521,shl31,shr31,bin_andN,bin_and,bin_or]
 have dg : decide ((240 : Int) ≤ (x : Int)) = false := decide_eq_false (by omega)
 have hsz : 2 ≤ x % 8 ∧ x % 8 ≤ 4 := by rcases hx2 with h | h; exact absurd h h240; exact h
 obtain ⟨z,hz⟩ : ∃ z,z = x % 8 := ⟨_,rfl⟩
 obtain ⟨q,hq⟩ : ∃ q,q = x / 16 := ⟨_,rfl⟩
 have hq16 : q < 16 := by omega
 have a7 := and7 hx256
 rw [← hz] at a7 hsz
 have cz := conv53 z (by omega : z < 256)
 have s4 := (shr4 hx256).1
 rw [← hq] at s4
 have ix1 : A.idxA 16 2 (.pointer (some ⟨1,0,none⟩)) (.int .u8 (q : Int)) = some (.pointer (some ⟨1,0 + q * 2,none⟩)) := by
  show (bif Nat.blt q 16 then _ else none) = _
  rw [blt_iff.2 hq16]; rfl
 obtain ⟨lo,hlo⟩ : ∃ lo,A'[2 * q]? = some lo := ⟨_,List.getElem?_eq_getElem (by rw [bt.lA]; omega)⟩
 obtain ⟨hi,hhi⟩ : ∃ hi,A'[2 * q + 1]? = some hi := ⟨_,List.getElem?_eq_getElem (by rw [bt.lA]; omega)⟩
 have l1 : A.load true 2 (.pointer (some ⟨1,0 + q * 2,none⟩)) h = some (.agg ⟨[.int .u8 (lo : Int),.int .u8 (hi : Int)]⟩) := by
  rw [loadN_eq,g1]
  have bl : (byteL A').length = 32 := by unfold byteL; rw [List.length_map,bt.lA]
  have e1 : Nat.ble (0 + q * 2 + 2) (byteL A').length = true := ble_iff.2 (by omega)
  simp only [e1,cond_true]
  have e2 : ((byteL A').drop (0 + q * 2)).take 2 = [.int .u8 (lo : Int),.int .u8 (hi : Int)] := by
   have b1 : (byteL A')[0 + q * 2]? = some (.int .u8 (lo : Int)) := by unfold byteL; rw [List.getElem?_map,show 0 + q * 2 = 2 * q by omega,hlo]; rfl
   have b2 : (byteL A')[0 + q * 2 + 1]? = some (.int .u8 (hi : Int)) := by unfold byteL; rw [List.getElem?_map,show 0 + q * 2 + 1 = 2 * q + 1 by omega,hhi]; rfl
   rw [drop_cons b1,drop_cons b2]; rfl
  rw [e2]
 obtain ⟨h1,hh1⟩ : ∃ h1,h1 = h.push (.cells AnG.Z342L (some 0)) := ⟨_,rfl⟩
 have e1 : A.box 2 AnG.Z342 h = some (ptrV h.next,h1) := by rw [hh1]; rfl
 obtain ⟨h2,hh2⟩ : ∃ h2,h2 = h1.put h.next (.cells [.int .u8 (lo : Int),.int .u8 (hi : Int)] (some 0)) := ⟨_,rfl⟩
 have gz : h1.get h.next = some (.cells AnG.Z342L (some 0)) := by rw [hh1,H.get_push,if_pos rfl]
 have e2 : A.store 2 (ptrV h.next) (.agg ⟨[.int .u8 (lo : Int),.int .u8 (hi : Int)]⟩) h1 = some h2 := by
  rw [qU,gz,hh2]; rfl
 have x2 : Ext h h2 := by rw [hh2]; exact (hh1 ▸ Ext.push h _ : Ext h h1).put _ _ (Nat.le_refl _)
 have g2 : h2.get h.next = some (.cells [.int .u8 (lo : Int),.int .u8 (hi : Int)] (some 0)) := by rw [hh2,H.get_put,if_pos rfl]
 have ll : A.load false 1 (.pointer (some ⟨h.next,0,none⟩)) h2 = some (.int .u8 (lo : Int)) := by rw [qK,g2]; rfl
 have lh : A.load false 1 (.pointer (some ⟨h.next,1,none⟩)) h2 = some (.int .u8 (hi : Int)) := by rw [qK,g2]; rfl
 have wh : whB A' (c :: t) = whG z lo hi t := by
  show (if 240 ≤ firstN c.toNat then false else whG (firstN c.toNat % 8) ((A'[2 * (firstN c.toNat / 16)]?).getD 0) ((A'[2 * (firstN c.toNat / 16) + 1]?).getD 0) t) = _
  rw [hfn,if_neg h240,← hz,← hq,hlo,hhi]
  rfl
 rw [wh]
 have hd : ∀ (kr : Value → Value → H → Option (Value × H)),p212a (callO prog 4 Q k) k (str (c :: t)) h kr = pacQ (callO prog 4 Q k) k (.int .i64 ((c :: t).length : Int)) (ptrV h.next) (.int .i64 (z : Int)) (str (c :: t)) (u8 c) h2 kr := by
  intro kr
  simp only [p212a,papB,papC,ln,qZ,papD,zZ,d1,qQ,cond_false,papE,i0,papF,ix0,l0,papG,bin_geq,dg,pasL,a7,cz,pasM,s4,ix1,l1,e1,qX,e2]
 simp only [F212]
 rw [hd]
 obtain ⟨r,n,e,hn⟩ := t212 kb bt k (t := t) hsz ll lh
 exact ⟨h2,r,n,e,hn,x2⟩
end
end Go.Proofs.YtfodhidpefednaaGreatDoor.An

set_option maxRecDepth 100000
namespace Go.Proofs.YtfodhidpefednaaGreatDoor.An
open Tryz (prog)
open Go Go.AM AnA AnB AnC AnE AnG
def runV (T : List Nat) (s : List UInt8) : Nat → Nat → Bool
 | 0,_ => true
 | f + 1,pos => match A.charAt ⟨⟨s⟩⟩ pos with
  | none => true
  | some (c,w) => if c = 0 then false else if c = 65533 then (if whB T (s.drop pos) then runV T s f (pos + w) else false) else runV T s f (pos + w)
def valB (T : List Nat) (s : List UInt8) : Bool := runV T s (s.length + 1) 0
theorem valB_texts (T : List Nat) : ∀ s ∈ texts,valB T s = true := by
 have : (texts.all fun s => valB T s) = true := by kernel_rfl
 exact fun s hs => List.all_eq_true.1 this s hs
theorem char_err {s : List UInt8} {pos w : Nat} (e : A.charAt ⟨⟨s⟩⟩ pos = some (65533,w)) : ∃ b,s[pos]? = some b ∧ 128 ≤ b.toNat := by
 unfold A.charAt at e
 cases hb : s[pos]? with
 | none =>
  have hb : (⟨⟨s⟩⟩ : ByteArray).data.toList[pos]? = none := hb
  rw [hb] at e; cases e
 | some b =>
  have hb : (⟨⟨s⟩⟩ : ByteArray).data.toList[pos]? = some b := hb
  rw [hb] at e
  simp only at e
  refine ⟨b,rfl,?_⟩
  cases hq : Nat.blt b.toNat 128 with
  | true =>
   rw [hq] at e
   simp only [cond_true,Option.some.injEq,Prod.mk.injEq] at e
   have := b.toNat_lt
   omega
  | false =>
   have : ¬ b.toNat < 128 := fun h => by rw [blt_iff.2 h] at hq; cases hq
   omega
section
variable {Q : Orc} {B : H} {A' : List Nat} (kb : KnB Q) (bt : BaseT B A') {h : H}
include kb bt
theorem T131 (k : Nat) {c : UInt8} {t : List UInt8} (hB : Ext B h) (hc : 128 ≤ c.toNat) (hl : t.length ≤ 300) :
 ∃ h',callO prog 4 Q (k + 3) 131 [str (c :: t)] h = some (.bool (whB A' (c :: t)),h') ∧ Ext h h' := by
 rw [F131eq Q (k + 2) _ h (kb.fr 131 _ (by decide))]
 obtain ⟨h',r,n,e,hn,x⟩ := T212 kb bt (h := h) k (c := c) (t := t) hB hc hl
 have e159 : callO prog 4 Q (k + 2) 159 [str (c :: t)] h = some (.tuple ⟨[.int .i32 r,.int .i64 n]⟩,h') := by
  rw [F159eq Q (k + 1) _ h (kb.fr 159 _ (by decide))]
  have ne := str_ne9 (c :: t) []
  rw [decide_eq_false (by simp)] at ne
  have ne : A.bin prog .neq 9 (str (c :: t)) (.string ⟨⟨[]⟩⟩) = some (.bool true) := ne
  have i0 : A.indexStr (str (c :: t)) (.int .i64 0) = some (u8 c) := ixS (i := 0) rfl
  have d : decide ((c.toNat : Int) < 128) = false := decide_eq_false (by omega)
  have t0 : A.extract 0 (.tuple ⟨[.int .i32 r,.int .i64 n]⟩) = some (.int .i32 r) := rfl
  have t1 : A.extract 1 (.tuple ⟨[.int .i32 r,.int .i64 n]⟩) = some (.int .i64 n) := rfl
  simp only [F159,p159a,ne,qZ,qQ,cond_true,i0,zZ,d,cond_false,e,qX,t0,t1]
 have t0 : A.extract 0 (.tuple ⟨[.int .i32 r,.int .i64 n]⟩) = some (.int .i32 r) := rfl
 have t1 : A.extract 1 (.tuple ⟨[.int .i32 r,.int .i64 n]⟩) = some (.int .i64 n) := rfl
 refine ⟨h',?_,x⟩
 simp only [F131,p131a,e159,qX,t0,t1,qZ,zY,hn,qQ]
theorem lp101 (k L : Nat) {t : Nat} {s : List UInt8} (hl : s.length ≤ 300) (hbt : B.next ≤ t) :
 ∀ (d m : Nat) (h : H) (pos x3 : Nat),s.length < pos + d → d < m → x3 + d ≤ 1000 → h.get t = some (.siter ⟨⟨s⟩⟩ pos) → t < h.next → Ext B h →
  ∃ h' v,pahU (callO prog 4 Q (k + 3)) L (fun x2 h => some (x2,h)) (fun x3 h => pakY (callO prog 4 Q (k + 3)) L x3 h (fun x2 h => some (x2,h))) m (ptrV t) (str s) (.int .i64 (x3 : Int)) h = some (.int .i64 v,h') ∧ decide ((0 : Int) ≤ v) = runV A' s d pos ∧ ExtBut (fun i => i = t) h h' := by
 have b0 : A.extract 0 (.tuple ⟨[.bool false]⟩) = some (.bool false) := rfl
 intro d
 induction d with
 | zero =>
  intro m h pos x3 hi hm hx g lt hB
  obtain ⟨m,rfl⟩ : ∃ r,m = r + 1 := ⟨m - 1,by omega⟩
  have e := nextS_none g (char_none (s := s) (by omega))
  refine ⟨h,(x3 : Int),?_,decide_eq_true (by omega),⟨Nat.le_refl _,fun _ _ _ => rfl⟩⟩
  simp only [pahU,pacY,pajK,e,qX,b0,qZ,qQ,pajL,qW,cond_false,pakY]
 | succ d ih =>
  intro m h pos x3 hi hm hx g lt hB
  obtain ⟨m,rfl⟩ : ∃ r,m = r + 1 := ⟨m - 1,by omega⟩
  cases hc : A.charAt ⟨⟨s⟩⟩ pos with
  | none =>
   have e := nextS_none g hc
   have hr : runV A' s (d + 1) pos = true := by
    show (match A.charAt ⟨⟨s⟩⟩ pos with | none => true | some (c,w) => if c = 0 then false else if c = 65533 then (if whB A' (s.drop pos) then runV A' s d (pos + w) else false) else runV A' s d (pos + w)) = _
    rw [hc]
   refine ⟨h,(x3 : Int),?_,by rw [hr]; exact decide_eq_true (by omega),⟨Nat.le_refl _,fun _ _ _ => rfl⟩⟩
   simp only [pahU,pacY,pajK,e,qX,b0,qZ,qQ,pajL,qW,cond_false,pakY]
  | some cw =>
   obtain ⟨c,w⟩ := cw
   obtain ⟨_,hc2,hw⟩ := char_le hc
   have e := nextS_some g hc
   obtain ⟨h1,hh1⟩ : ∃ h1,h1 = h.put t (.siter ⟨⟨s⟩⟩ (pos + w)) := ⟨_,rfl⟩
   rw [← hh1] at e
   have g1 : h1.get t = some (.siter ⟨⟨s⟩⟩ (pos + w)) := by rw [hh1,H.get_put,if_pos rfl]
   have x1 : ExtBut (fun i => i = t) h h1 := by rw [hh1]; exact ExtBut.put ⟨Nat.le_refl _,fun _ _ _ => rfl⟩ t _ rfl
   have lt1 : t < h1.next := by rw [hh1]; exact lt
   have hB1 : Ext B h1 := base_but hB x1 hbt
   have a0 : A.extract 0 (.tuple ⟨[.bool true,.int .i64 (pos : Int),.int .i32 (c : Int)]⟩) = some (.bool true) := rfl
   have a1 : A.extract 1 (.tuple ⟨[.bool true,.int .i64 (pos : Int),.int .i32 (c : Int)]⟩) = some (.int .i64 (pos : Int)) := rfl
   have a2 : A.extract 2 (.tuple ⟨[.bool true,.int .i64 (pos : Int),.int .i32 (c : Int)]⟩) = some (.int .i32 (c : Int)) := rfl
   have hr : runV A' s (d + 1) pos = (if c = 0 then false else if c = 65533 then (if whB A' (s.drop pos) then runV A' s d (pos + w) else false) else runV A' s d (pos + w)) := by
    show (match A.charAt ⟨⟨s⟩⟩ pos with | none => true | some (c,w) => if c = 0 then false else if c = 65533 then (if whB A' (s.drop pos) then runV A' s d (pos + w) else false) else runV A' s d (pos + w)) = _
    rw [hc]
   rw [hr]
   have hwr : IntKind.i64.wrap ((x3 : Int) + 1) = ((x3 + 1 : Nat) : Int) := wrap_succ (by omega)
   by_cases c0 : c = 0
   · have d0 : decide ((c : Int) = 0) = true := decide_eq_true (by omega)
     rw [if_pos c0]
     refine ⟨h1,-1,?_,rfl,x1⟩
     simp only [pahU,pacY,pajK,e,qX,a0,qZ,qQ,pajL,qW,cond_true,paeI,pakV,a1,a2,pagC,pakW,zQ,d0,pakX]
   have d0 : decide ((c : Int) = 0) = false := decide_eq_false (by omega)
   rw [if_neg c0]
   by_cases cE : c = 65533
   · have dE : decide ((c : Int) = 65533) = true := decide_eq_true (by omega)
     rw [if_pos cE]
     obtain ⟨b,hb,hb8⟩ := char_err (by rw [cE] at hc; exact hc)
     have hpl := (List.getElem?_eq_some_iff.1 hb).1
     have sl := slS (l := s) (k := pos) (by omega)
     rw [drop_cons hb] at sl
     obtain ⟨h2,e2,x2⟩ := T131 kb bt (h := h1) k (c := b) (t := s.drop (pos + 1)) hB1 hb8 (by rw [List.length_drop]; omega)
     rw [drop_cons hb]
     cases hwh : whB A' (b :: s.drop (pos + 1)) with
     | false =>
      rw [hwh] at e2
      refine ⟨h2,-1,?_,rfl,x1.trans x2.but⟩
      simp only [pahU,pacY,pajK,e,qX,a0,qZ,qQ,pajL,qW,cond_true,paeI,pakV,a1,a2,pagC,pakW,zQ,d0,cond_false,dE,sl,e2,un_not,Bool.not_false,pakX]
     | true =>
      rw [hwh] at e2
      obtain ⟨h3,v,e3,hv,x3'⟩ := ih m h2 (pos + w) (x3 + 1) (by omega) (by omega) (by omega) (by rw [x2.get _ lt1]; exact g1) (Nat.lt_of_lt_of_le lt1 x2.next) (hB1.trans x2)
      refine ⟨h3,v,?_,hv,(x1.trans x2.but).trans x3'⟩
      simp only [pahU,pacY,pajK,e,qX,a0,qZ,qQ,pajL,qW,cond_true,paeI,pakV,a1,a2,pagC,pakW,zQ,d0,cond_false,dE,sl,e2,un_not,Bool.not_true,pakX,paoC,bin_add,hwr]
      exact e3
   · have dE : decide ((c : Int) = 65533) = false := decide_eq_false (by omega)
     rw [if_neg cE]
     obtain ⟨h3,v,e3,hv,x3'⟩ := ih m h1 (pos + w) (x3 + 1) (by omega) (by omega) (by omega) g1 lt1 hB1
     refine ⟨h3,v,?_,hv,x1.trans x3'⟩
     simp only [pahU,pacY,pajK,e,qX,a0,qZ,qQ,pajL,qW,cond_true,paeI,pakV,a1,a2,pagC,pakW,zQ,d0,cond_false,dE,pakX,paoC,bin_add,hwr]
     exact e3
theorem T77 (k : Nat) {s : List UInt8} (hl : s.length ≤ 300) (hB : Ext B h) : ∃ h',callO prog 4 Q (k + 400) 77 [str s] h = some (.bool (valB A' s),h') ∧ Ext h h' := by
 cases hq : Q 77 [str s] with
 | some v =>
  obtain ⟨rfl,hs⟩ := kb.vq s v hq
  have : ∀ c ∈ clients,c ∈ texts := by decide
  refine ⟨h,?_,Ext.refl h⟩
  rw [valB_texts A' s (this s hs)]
  exact qB hq (k + 399) h
 | none =>
  rw [F77eq Q (k + 399) _ h hq]
  have e101 : ∃ h' v,callO prog 4 Q (k + 399) 101 [str s] h = some (.int .i64 v,h') ∧ decide ((0 : Int) ≤ v) = valB A' s ∧ Ext h h' := by
   rw [F101eq Q (k + 398) _ h (kb.fr 101 _ (by decide))]
   have d : decide ((65535 : Int) < (s.length : Int)) = false := decide_eq_false (by omega)
   obtain ⟨h1,hh1⟩ : ∃ h1,h1 = h.push (.siter ⟨⟨s⟩⟩ 0) := ⟨_,rfl⟩
   have e1 : A.rangeS (str s) h = some (ptrV h.next,h1) := by rw [hh1]; rfl
   have x1 : Ext h h1 := by rw [hh1]; exact Ext.push h _
   have g1 : h1.get h.next = some (.siter ⟨⟨s⟩⟩ 0) := by rw [hh1,H.get_push,if_pos rfl]
   obtain ⟨h2,v,e,hv,x2⟩ := lp101 kb bt (k + 395) (k + 398) hl hB.next (s.length + 1) (k + 398) h1 0 0 (by omega) (by omega) (by omega) g1 (by rw [hh1]; exact Nat.lt_succ_self _) (hB.trans x1)
   refine ⟨h2,v,?_,hv,⟨Nat.le_trans x1.next x2.next,fun i hi => by rw [x2.get i (Nat.lt_of_lt_of_le hi x1.next) (by omega)]; exact x1.get i hi⟩⟩
   have e : pahU (callO prog 4 Q (k + 398)) (k + 398) (fun x2 h => some (x2,h)) (fun x3 h => pakY (callO prog 4 Q (k + 398)) (k + 398) x3 h (fun x2 h => some (x2,h))) (k + 398) (ptrV h.next) (str s) (.int .i64 0) h1 = _ := e
   generalize k + 398 = M at e ⊢
   simp only [F101,p101a,paqV,paqW,qJ,qZ,zY,d,qQ,cond_false,paqX,pacA,paqY,e1,qX,pacF]
   exact e
  obtain ⟨h',v,e,hv,x⟩ := e101
  refine ⟨h',?_,x⟩
  simp only [F77,p77a,e,qX,bin_geq,hv,qZ,qQ]
theorem va_of : VA Q B (valB A') := ⟨bt.n4,fun k h s hB hl => T77 kb bt k hl hB⟩
theorem T7any (k : Nat) {l : List UInt8} (hl : l.length ≤ 300) (hB : Ext B h) : ∃ h' p w,callO prog 4 Q (k + 1001) 7 [str l] h = some (res7 p w (decF (valB A') (rgtB (valB A') (nmB (valB A')) (fiB (valB A'))) l),h') ∧ Ext h h' :=
 T7 kb.ka (va_of kb bt) (rg_of kb.ka (va_of kb bt) (ok_of kb (va_of kb bt) (valB_texts A'))) k hl hB
theorem dec_any {p : Pk} {l : List Sb} (o : Okp p l) (hlen : (restB p l).length ≤ 100) : decF (valB A') (rgtB (valB A') (nmB (valB A')) (fiB (valB A'))) (encB p l) = ((encB p l).length,0) := by
 have _ := kb
 have _ := bt
 exact dec_enc (valB_texts A') (nmB_names (valB_texts A')) (fiB_filters (valB_texts A')) o hlen
end
end Go.Proofs.YtfodhidpefednaaGreatDoor.An

set_option maxRecDepth 100000
namespace Go.Proofs.YtfodhidpefednaaGreatDoor.An
open Tryz (prog)
open Go Go.AM AnA AnB AnC AnE AnG
abbrev nilP : Value := .pointer none
theorem nil81 : A.bin prog .eql 81 nilP nilP = some (.bool true) := by kernel_rfl
section
variable {Q : Orc} (kb : KnB Q) {h : H}
include kb
theorem T14 (k : Nat) (a lo hi : Nat) : callO prog 4 Q (k + 1) 14 [.int .i64 (a : Int),.int .i64 (lo : Int),.int .i64 (hi : Int)] h = some (.bool (decide (lo ≤ a ∧ a ≤ hi)),h) := by
 rw [F14eq Q k _ _ _ h (kb.ka.fr 14 _ (by decide))]
 by_cases h1 : lo ≤ a
 · have d1 : decide ((lo : Int) ≤ (a : Int)) = true := decide_eq_true (by omega)
   have d2 : decide ((a : Int) ≤ (hi : Int)) = decide (lo ≤ a ∧ a ≤ hi) := decide_eq_decide.2 (by omega)
   simp only [F14,p14a,bin_geq,d1,qZ,qQ,cond_true,bin_leq,d2]
 · have d1 : decide ((lo : Int) ≤ (a : Int)) = false := decide_eq_false (by omega)
   have d2 : decide (lo ≤ a ∧ a ≤ hi) = false := decide_eq_false (by omega)
   simp only [F14,p14a,bin_geq,d1,qZ,qQ,cond_false,d2]
theorem T6 (k : Nat) {a b c d e : Nat} (ha : 1 ≤ a ∧ a ≤ 64) (hb : 1 ≤ b ∧ b ≤ 64) (hc : 16 ≤ c ∧ c ≤ 65536) (hd : 1 ≤ d ∧ d ≤ 1024) (he : 1 ≤ e ∧ e ≤ 1024) :
 ∃ h',callO prog 4 Q (k + 2) 6 [.agg ⟨[.int .i64 (a : Int),.int .i64 (b : Int),.int .i64 (c : Int),.int .i64 (d : Int),.int .i64 (e : Int)]⟩] h = some (.bool true,h') ∧ Ext h h' := by
 rw [F6eq Q (k + 1) _ h (kb.ka.fr 6 _ (by decide))]
 obtain ⟨h1,hh1⟩ : ∃ h1,h1 = h.push (.cells [.int .i64 (a : Int),.int .i64 (b : Int),.int .i64 (c : Int),.int .i64 (d : Int),.int .i64 (e : Int)] (some 0)) := ⟨_,rfl⟩
 have e1 : A.box 5 (.agg ⟨[.int .i64 (a : Int),.int .i64 (b : Int),.int .i64 (c : Int),.int .i64 (d : Int),.int .i64 (e : Int)]⟩) h = some (ptrV h.next,h1) := by rw [hh1]; rfl
 have g1 : h1.get h.next = some (.cells [.int .i64 (a : Int),.int .i64 (b : Int),.int .i64 (c : Int),.int .i64 (d : Int),.int .i64 (e : Int)] (some 0)) := by rw [hh1,H.get_push,if_pos rfl]
 have l0 : A.load false 1 (.pointer (some ⟨h.next,0,none⟩)) h1 = some (.int .i64 (a : Int)) := by rw [qK,g1]; rfl
 have l1 : A.load false 1 (.pointer (some ⟨h.next,1,none⟩)) h1 = some (.int .i64 (b : Int)) := by rw [qK,g1]; rfl
 have l2 : A.load false 1 (.pointer (some ⟨h.next,2,none⟩)) h1 = some (.int .i64 (c : Int)) := by rw [qK,g1]; rfl
 have l3 : A.load false 1 (.pointer (some ⟨h.next,3,none⟩)) h1 = some (.int .i64 (d : Int)) := by rw [qK,g1]; rfl
 have l4 : A.load false 1 (.pointer (some ⟨h.next,4,none⟩)) h1 = some (.int .i64 (e : Int)) := by rw [qK,g1]; rfl
 have ta := T14 kb (h := h1) k a 1 64
 rw [decide_eq_true ha] at ta
 have tb := T14 kb (h := h1) k b 1 64
 rw [decide_eq_true hb] at tb
 have tc := T14 kb (h := h1) k c 16 65536
 rw [decide_eq_true hc] at tc
 have td := T14 kb (h := h1) k d 1 1024
 rw [decide_eq_true hd] at td
 have te := T14 kb (h := h1) k e 1 1024
 rw [decide_eq_true he] at te
 have ta : callO prog 4 Q (k + 1) 14 [.int .i64 (a : Int),.int .i64 1,.int .i64 64] h1 = _ := ta
 have tb : callO prog 4 Q (k + 1) 14 [.int .i64 (b : Int),.int .i64 1,.int .i64 64] h1 = _ := tb
 have tc : callO prog 4 Q (k + 1) 14 [.int .i64 (c : Int),.int .i64 16,.int .i64 65536] h1 = _ := tc
 have td : callO prog 4 Q (k + 1) 14 [.int .i64 (d : Int),.int .i64 1,.int .i64 1024] h1 = _ := td
 have te : callO prog 4 Q (k + 1) 14 [.int .i64 (e : Int),.int .i64 1,.int .i64 1024] h1 = _ := te
 refine ⟨h1,?_,by rw [hh1]; exact Ext.push h _⟩
 simp only [F6,p6a,e1,qX,qY,Nat.zero_add,qZ,l0,ta,qQ,cond_true,l1,tb,l2,tc,l3,td,l4,te]
theorem T20 (k : Nat) {c : Nat} (hc : c < 6) (s : Value) : callO prog 4 Q (k + 2) 20 [nilP,.int .i64 (c : Int),s] h = some (.int .i64 8,h) := by
 rw [F20eq Q (k + 1) _ _ _ h (kb.ka.fr 20 _ (by decide))]
 simp only [F20,p20a,qB (kb.gt c hc) k h,qX,nil81,qZ,qQ,cond_true]
theorem T8f (k : Nat) {e : Ent} (k2 : e.kind = 2) (hc : e.conn < 6) :
 ∃ h',callO prog 4 Q (k + 3) 8 [nilP,.agg ⟨e.cells⟩] h = some (.agg ⟨told 8⟩,h') ∧ Ext h h' := by
 rw [F8eq Q (k + 2) _ _ h (kb.d2 e k2)]
 obtain ⟨ha,hha⟩ : ∃ ha,ha = h.push (.cells e.cells (some 0)) := ⟨_,rfl⟩
 have ea : A.box 7 (.agg ⟨e.cells⟩) h = some (ptrV h.next,ha) := by rw [hha]; rfl
 have na : ha.next = h.next + 1 := by rw [hha]; rfl
 obtain ⟨hb,hhb⟩ : ∃ hb,hb = ha.push (.cells AnC.Z44L (some 0)) := ⟨_,rfl⟩
 have eb : A.box 4 AnC.Z44 ha = some (ptrV ha.next,hb) := by rw [hhb]; rfl
 have nb : hb.next = ha.next + 1 := by rw [hhb]; rfl
 obtain ⟨hc',hhc⟩ : ∃ hc',hc' = hb.push (.cells AnC.Z44L (some 0)) := ⟨_,rfl⟩
 have ec : A.box 4 AnC.Z44 hb = some (ptrV hb.next,hc') := by rw [hhc]; rfl
 have nc : hc'.next = hb.next + 1 := by rw [hhc]; rfl
 have x : Ext h hc' := by rw [hhc,hhb,hha]; exact ((Ext.push h _).trans (Ext.push _ _)).trans (Ext.push _ _)
 have ge : hc'.get h.next = some (.cells e.cells (some 0)) := by
  have x1 : Ext ha hc' := by rw [hhc,hhb]; exact (Ext.push _ _).trans (Ext.push _ _)
  rw [x1.get _ (by omega),hha,H.get_push,if_pos rfl]
 have g4 : hc'.get ha.next = some (.cells AnC.Z44L (some 0)) := by
  have x1 : Ext hb hc' := by rw [hhc]; exact Ext.push _ _
  rw [x1.get _ (by omega),hhb,H.get_push,if_pos rfl]
 have g5 : hc'.get hb.next = some (.cells AnC.Z44L (some 0)) := by rw [hhc,H.get_push,if_pos rfl]
 have lk : A.load false 1 (.pointer (some ⟨h.next,0,none⟩)) hc' = some (.int .u8 (e.kind : Int)) := by rw [qK,ge]; rfl
 have lcn : A.load false 1 (.pointer (some ⟨h.next,1,none⟩)) hc' = some (.int .i64 (e.conn : Int)) := by rw [qK,ge]; rfl
 have lt : A.load false 1 (.pointer (some ⟨h.next,6,none⟩)) hc' = some (str e.text) := by rw [qK,ge]; rfl
 have d1 : decide ((e.kind : Int) = 1) = false := dne (by omega)
 have d2 : decide ((e.kind : Int) = 2) = true := deq (by omega)
 have e20 := T20 kb (h := hc') k hc (str e.text)
 obtain ⟨hx,hhx⟩ : ∃ hx,hx = hc'.put hb.next (.cells (told 8) (some 0)) := ⟨_,rfl⟩
 have sx : A.store 1 (.pointer (some ⟨hb.next,3,none⟩)) (.int .i64 8) hc' = some hx := by rw [qU,g5,hhx]; rfl
 have gx5 : hx.get hb.next = some (.cells (told 8) (some 0)) := by rw [hhx,H.get_put,if_pos rfl]
 have gx4 : hx.get ha.next = some (.cells AnC.Z44L (some 0)) := by rw [hhx,H.get_put,if_neg (by omega)]; exact g4
 obtain ⟨hy,hhy⟩ : ∃ hy,hy = hx.put ha.next (.cells (told 8) (some 0)) := ⟨_,rfl⟩
 have l5 : A.load true 4 (ptrV hb.next) hx = some (.agg ⟨told 8⟩) := by rw [loadN_eq,gx5]; rfl
 have s4 : A.store 4 (ptrV ha.next) (.agg ⟨told 8⟩) hx = some hy := by rw [qU,gx4,hhy]; rfl
 have l4 : A.load true 4 (ptrV ha.next) hy = some (.agg ⟨told 8⟩) := by rw [loadN_eq,hhy,H.get_put,if_pos rfl]; rfl
 refine ⟨hy,?_,by rw [hhy,hhx]; exact (x.put _ _ (by omega)).put _ _ (by omega)⟩
 simp only [F8,p8a,pagA,ea,qX,eb,pagB,ec,pabL,pajI,qY,Nat.zero_add,qZ,lk,pacK,pacN,pauX,zQ,d1,d2,qQ,pafF,qW,cond_true,cond_false,pafV,pauY,pahP,pauZ,lcn,lt,e20,sx,pabQ,l5,s4,l4]
 rfl
end
end Go.Proofs.YtfodhidpefednaaGreatDoor.An

set_option maxRecDepth 100000
namespace Go.Proofs.YtfodhidpefednaaGreatDoor.An
open Tryz (prog)
open Go Go.AM
noncomputable abbrev decA (T : List Nat) : List UInt8 → Nat × Nat := decF (valB T) (rgtB (valB T) (nmB (valB T)) (fiB (valB T)))
structure GoodE (T : List Nat) (e : Ent) : Prop where
 k1 : 1 ≤ e.kind
 k7 : e.kind ≤ 7
 conn : e.conn < 6
 cn : e.kind ≠ 2 → e.kind ≠ 3 → e.kind ≠ 5 → e.conn = 0
 n : e.n < 4
 m1 : e.m1 < 5
 m2 : e.m2 < 8
 m3 : e.m3 < 7
 text : e.kind ≠ 2 → e.text = []
 move : e.kind ≠ 6 → e.m1 = 0 ∧ e.m2 = 0 ∧ e.m3 = 0
 tick : e.kind ≠ 4 → e.n = 0
 len : e.text.length ≤ 300
 dec : 15 < e.text.length → decA T e.text = (e.text.length,0)
theorem T8 {Q : Orc} (kb : KnB Q) {h : H} {T : List Nat} (k : Nat) {e : Ent} (g : GoodE T e) :
 ∃ h' v c,callO prog 4 Q (k + 3) 8 [nilP,.agg ⟨e.cells⟩] h = some (v,h') ∧ A.part false 1 3 v = some (.int .i64 c) ∧ c ≠ 1 ∧ Ext h h' := by
 by_cases k2 : e.kind = 2
 · obtain ⟨h',e8,x⟩ := T8f kb (h := h) k k2 g.conn
   exact ⟨h',_,8,e8,rfl,by omega,x⟩
 · have tab : ∀ {c : Int},c ≠ 1 → Q 8 [nilP,.agg ⟨e.cells⟩] = some (.agg ⟨told c⟩) → ∃ h' v c,callO prog 4 Q (k + 3) 8 [nilP,.agg ⟨e.cells⟩] h = some (v,h') ∧ A.part false 1 3 v = some (.int .i64 c) ∧ c ≠ 1 ∧ Ext h h' :=
    fun hc q => ⟨h,_,_,qB q (k + 2) h,rfl,hc,Ext.refl h⟩
   obtain ⟨kind,conn,n,m1,m2,m3,text⟩ := e
   obtain ⟨a1,a7,ac,acn,an,b1,b2,b3,tx,mv,tk,_,_⟩ := g
   simp only at k2 a1 a7 ac acn an b1 b2 b3 tx mv tk
   obtain rfl := tx k2
   have hk : kind = 1 ∨ kind = 3 ∨ kind = 4 ∨ kind = 5 ∨ kind = 6 ∨ kind = 7 := by omega
   rcases hk with rfl | rfl | rfl | rfl | rfl | rfl
   · obtain rfl := acn (by omega) (by omega) (by omega)
     obtain ⟨rfl,rfl,rfl⟩ := mv (by omega)
     obtain rfl := tk (by omega)
     exact tab (by omega) kb.d1
   · obtain ⟨rfl,rfl,rfl⟩ := mv (by omega)
     obtain rfl := tk (by omega)
     exact tab (by omega) (kb.d3 conn ac)
   · obtain rfl := acn (by omega) (by omega) (by omega)
     obtain ⟨rfl,rfl,rfl⟩ := mv (by omega)
     exact tab (by omega) (kb.d4 n an)
   · obtain ⟨rfl,rfl,rfl⟩ := mv (by omega)
     obtain rfl := tk (by omega)
     exact tab (by omega) (kb.d5 conn ac)
   · obtain rfl := acn (by omega) (by omega) (by omega)
     obtain rfl := tk (by omega)
     exact tab (by omega) (kb.d6 m1 m2 m3 b1 b2 b3)
   · obtain rfl := acn (by omega) (by omega) (by omega)
     obtain ⟨rfl,rfl,rfl⟩ := mv (by omega)
     obtain rfl := tk (by omega)
     exact tab (by omega) kb.d7
theorem le_nxN (full : List UInt8) : ∀ n j,j ≤ nxN full n j
 | 0,j => Nat.le_refl _
 | n + 1,j => Nat.le_trans (le_nx full j) (le_nxN full n _)
section
variable {Q : Orc} {B : H} {T : List Nat} (kb : KnB Q) (bt : BaseT B T)
include kb bt
theorem ent_good (full : List UInt8) (j : Nat) : GoodE T (entA full j).1 := by
 have nil : ∀ {e : Ent},e.text = [] → e.text.length ≤ 300 ∧ (15 < e.text.length → decA T e.text = (e.text.length,0)) := by
  intro e h
  rw [h]
  exact ⟨Nat.zero_le _,fun h => absurd h (by decide)⟩
 unfold entA
 split
 · exact ⟨by show 1 ≤ 1; omega,by show 1 ≤ 7; omega,by show 0 < 6; omega,fun _ _ _ => rfl,by show 0 < 4; omega,by show 0 < 5; omega,by show 0 < 8; omega,by show 0 < 7; omega,fun _ => rfl,fun _ => ⟨rfl,rfl,rfl⟩,fun _ => rfl,(nil rfl).1,(nil rfl).2⟩
 split
 · split
   · refine ⟨by show 1 ≤ 4; omega,by show 4 ≤ 7; omega,by show 0 < 6; omega,fun _ _ _ => rfl,by show _ / 2 % 4 < 4; omega,by show 0 < 5; omega,by show 0 < 8; omega,by show 0 < 7; omega,fun _ => rfl,fun _ => ⟨rfl,rfl,rfl⟩,fun h => absurd rfl h,(nil rfl).1,(nil rfl).2⟩
   · refine ⟨by show 1 ≤ 3; omega,by show 3 ≤ 7; omega,by show _ % 6 < 6; omega,fun _ h _ => absurd rfl h,by show 0 < 4; omega,by show 0 < 5; omega,by show 0 < 8; omega,by show 0 < 7; omega,fun _ => rfl,fun _ => ⟨rfl,rfl,rfl⟩,fun _ => rfl,(nil rfl).1,(nil rfl).2⟩
 split
 · refine ⟨by show 1 ≤ 5; omega,by show 5 ≤ 7; omega,by show _ % 6 < 6; omega,fun _ _ h => absurd rfl h,by show 0 < 4; omega,by show 0 < 5; omega,by show 0 < 8; omega,by show 0 < 7; omega,fun _ => rfl,fun _ => ⟨rfl,rfl,rfl⟩,fun _ => rfl,(nil rfl).1,(nil rfl).2⟩
 split
 · refine ⟨by show 1 ≤ 6; omega,by show 6 ≤ 7; omega,by show 0 < 6; omega,fun _ _ _ => rfl,by show 0 < 4; omega,by show _ % 5 < 5; omega,by show _ % 8 < 8; omega,by show _ % 7 < 7; omega,fun _ => rfl,fun h => absurd rfl h,fun _ => rfl,(nil rfl).1,(nil rfl).2⟩
 split
 · exact ⟨by show 1 ≤ 7; omega,by show 7 ≤ 7; omega,by show 0 < 6; omega,fun _ _ _ => rfl,by show 0 < 4; omega,by show 0 < 5; omega,by show 0 < 8; omega,by show 0 < 7; omega,fun _ => rfl,fun _ => ⟨rfl,rfl,rfl⟩,fun _ => rfl,(nil rfl).1,(nil rfl).2⟩
 · obtain ⟨a,ha⟩ : ∃ a,a = at8 full (nx full (nx full j)) := ⟨_,rfl⟩
   obtain ⟨q,hq⟩ : ∃ q,q = nx full (nx full (nx full j)) := ⟨_,rfl⟩
   obtain ⟨k,hk⟩ : ∃ k,k = at8 full j % 16 := ⟨_,rfl⟩
   rw [← ha,← hq,← hk]
   have tx : (feedA full k a q).1.length ≤ 300 ∧ (15 < (feedA full k a q).1.length → decA T (feedA full k a q).1 = ((feedA full k a q).1.length,0)) := by
    unfold feedA
    split
    · show (rawN full (a % 16) q).length ≤ 300 ∧ (15 < (rawN full (a % 16) q).length → _)
      rw [rawN_len]
      exact ⟨by omega,fun h => absurd h (by omega)⟩
    · have o := fdA_ok full k a q
      have hl := o.len kb.ka.kn
      refine ⟨?_,fun _ => dec_any kb bt o hl⟩
      show ([_,_] ++ restB _ _ : List UInt8).length ≤ 300
      rw [List.length_append]
      show 2 + _ ≤ 300
      omega
   exact ⟨by show 1 ≤ 2; omega,by show 2 ≤ 7; omega,by show _ % 6 < 6; omega,fun h => absurd rfl h,by show 0 < 4; omega,by show 0 < 5; omega,by show 0 < 8; omega,by show 0 < 7; omega,fun h => absurd rfl h,fun _ => ⟨rfl,rfl,rfl⟩,fun _ => rfl,tx.1,tx.2⟩
theorem row_good (full : List UInt8) : ∀ (d j : Nat),∀ e ∈ rowA full d j,GoodE T e
 | 0,_,e,h => by cases h
 | d + 1,j,e,h => by
  unfold rowA at h
  split at h
  · rcases List.mem_cons.1 h with rfl | h
    · exact ent_good kb bt full j
    · exact row_good full d _ e h
  · cases h
omit kb bt in
theorem ent_next {full : List UInt8} {j : Nat} (h : j < full.length) : j < (entA full j).2 := by
 have n1 : nx full j = j + 1 := by unfold nx; rw [if_pos h]
 have up : ∀ {a b : Nat},j < a → a ≤ b → j < b := fun h1 h2 => Nat.lt_of_lt_of_le h1 h2
 have h1 : j < nx full j := by omega
 have l := fun k => le_nx full k
 unfold entA
 split
 · exact h1
 split
 · split
   · exact up h1 (l _)
   · exact up (up h1 (l _)) (l _)
 split
 · exact up h1 (l _)
 split
 · exact up (up (up h1 (l _)) (l _)) (l _)
 split
 · exact h1
 · have h3 : j < nx full (nx full (nx full j)) := up (up h1 (l _)) (l _)
   have fd : ∀ k a q,q ≤ (feedA full k a q).2 := by
    intro k a q
    unfold feedA
    split
    · exact le_nxN full _ _
    · unfold fdA
      split
      · exact l _
      split
      · exact le_nxN full _ _
      split
      · exact le_nxN full _ _
      split
      · exact l _
      split
      · exact Nat.le_refl _
      · exact Nat.le_refl _
   exact up h3 (fd _ _ _)
omit kb bt in
theorem row_len (full : List UInt8) : ∀ (d j : Nat),(rowA full d j).length ≤ d ∧ (rowA full d j).length ≤ full.length - j
 | 0,_ => ⟨Nat.le_refl _,Nat.zero_le _⟩
 | d + 1,j => by
  unfold rowA
  split
  · rename_i h
    have := row_len full d (entA full j).2
    have := ent_next h
    rw [List.length_cons]
    omega
  · exact ⟨Nat.zero_le _,Nat.zero_le _⟩
end
end Go.Proofs.YtfodhidpefednaaGreatDoor.An

set_option maxRecDepth 100000
namespace Go.Proofs.YtfodhidpefednaaGreatDoor.An
open Tryz (prog)
open Go Go.AM AnA AnB AnC AnE AnG
theorem mv31 : A.bin prog .neq 31 (.agg ⟨[.int .i64 ((0 : Nat) : Int),.int .i64 ((0 : Nat) : Int),.int .i64 ((0 : Nat) : Int)]⟩) (.agg ⟨[.int .i64 0,.int .i64 0,.int .i64 0]⟩) = some (.bool false) := by kernel_rfl
section
variable {Q : Orc} {B : H} {T : List Nat} (kb : KnB Q) (bt : BaseT B T)
include kb bt
theorem one3 (C : CF) (L : Nat) {e : Ent} (g : GoodE T e) {h : H} {t : Nat} (ge : h.get t = some (.cells e.cells (some 0))) (x5 x4 : Value) (kr : Value → H → Option (Value × H)) (kn : Value → Value → Value → H → Option (Value × H)) :
 pahK C L (ptrV t) x5 x4 h kr kn = kn (ptrV t) x5 x4 h ∧ pafY C L (ptrV t) x5 x4 h kr kn = kn (ptrV t) x5 x4 h := by
 have _ := kb
 have _ := bt
 have l0 : A.load false 1 (.pointer (some ⟨t,0,none⟩)) h = some (.int .u8 (e.kind : Int)) := by rw [qK,ge]; rfl
 have l1 : A.load false 1 (.pointer (some ⟨t,1,none⟩)) h = some (.int .i64 (e.conn : Int)) := by rw [qK,ge]; rfl
 have l2 : A.load false 1 (.pointer (some ⟨t,2,none⟩)) h = some (.int .i64 (e.n : Int)) := by rw [qK,ge]; rfl
 have l3 : A.load false 1 (.pointer (some ⟨t,3,none⟩)) h = some (.int .i64 (e.m1 : Int)) := by rw [qK,ge]; rfl
 have l4 : A.load false 1 (.pointer (some ⟨t,4,none⟩)) h = some (.int .i64 (e.m2 : Int)) := by rw [qK,ge]; rfl
 have l5 : A.load false 1 (.pointer (some ⟨t,5,none⟩)) h = some (.int .i64 (e.m3 : Int)) := by rw [qK,ge]; rfl
 have l6 : A.load false 1 (.pointer (some ⟨t,6,none⟩)) h = some (str e.text) := by rw [qK,ge]; rfl
 have lm : A.load true 3 (.pointer (some ⟨t,3,none⟩)) h = some (.agg ⟨[.int .i64 (e.m1 : Int),.int .i64 (e.m2 : Int),.int .i64 (e.m3 : Int)]⟩) := by rw [loadN_eq,ge]; rfl
 obtain ⟨k1,k7,hc,_,hn,hm1,hm2,hm3,htx,hmv,htk,hlen,hdec⟩ := g
 refine ⟨?_,?_⟩
 · have a1 : decide ((e.kind : Int) < 1) = false := decide_eq_false (by omega)
   have a2 : decide ((7 : Int) < (e.kind : Int)) = false := decide_eq_false (by omega)
   have a3 : decide ((e.conn : Int) < 0) = false := decide_eq_false (by omega)
   have a4 : decide ((5 : Int) < (e.conn : Int)) = false := decide_eq_false (by omega)
   have a5 : decide ((e.n : Int) < 0) = false := decide_eq_false (by omega)
   have a6 : decide ((3 : Int) < (e.n : Int)) = false := decide_eq_false (by omega)
   have a7 : decide ((4 : Int) < (e.m1 : Int)) = false := decide_eq_false (by omega)
   have a8 : decide ((7 : Int) < (e.m2 : Int)) = false := decide_eq_false (by omega)
   have a9 : decide ((6 : Int) < (e.m3 : Int)) = false := decide_eq_false (by omega)
   simp only [pahK,patR,qY,Nat.zero_add,Nat.add_zero,Nat.reduceAdd,qZ,l0,zZ,a1,qQ,cond_false,zY,a2,l1,a3,a4,l2,a5,a6,l3,a7,l4,a8,l5,a9,patS,qW]
 · have bl : A.build AnA.Z31L [] = some (.agg ⟨[.int .i64 0,.int .i64 0,.int .i64 0]⟩) := by kernel_rfl
   have ne := str_ne9 e.text []
   have ne : A.bin prog .neq 9 (str e.text) (.string ⟨⟨[]⟩⟩) = _ := ne
   have mv : e.kind ≠ 6 → A.bin prog .neq 31 (.agg ⟨[.int .i64 (e.m1 : Int),.int .i64 (e.m2 : Int),.int .i64 (e.m3 : Int)]⟩) (.agg ⟨[.int .i64 0,.int .i64 0,.int .i64 0]⟩) = some (.bool false) := by
    intro h
    obtain ⟨h1,h2,h3⟩ := hmv h
    rw [h1,h2,h3]
    exact mv31
   have tk : e.kind ≠ 4 → decide ((e.n : Int) = 0) = true := fun h => decide_eq_true (by have := htk h; omega)
   by_cases k2 : e.kind = 2
   · have d2 : decide ((e.kind : Int) = 2) = true := deq (by omega)
     have d6 : decide ((e.kind : Int) = 6) = false := dne (by omega)
     have d4 : decide ((e.kind : Int) = 4) = false := dne (by omega)
     simp only [pafY,palU,qY,Nat.zero_add,qZ,l0,bin_neq,d2,Bool.not_true,qQ,cond_false,d6,Bool.not_false,cond_true,lm,bl,mv (by omega),d4,l2,tk (by omega),palV,qW]
   have d2 : decide ((e.kind : Int) = 2) = false := dne (by omega)
   rw [decide_eq_true (htx k2)] at ne
   by_cases k6 : e.kind = 6
   · have d6 : decide ((e.kind : Int) = 6) = true := deq (by omega)
     have d4 : decide ((e.kind : Int) = 4) = false := dne (by omega)
     simp only [pafY,palU,qY,Nat.zero_add,qZ,l0,bin_neq,d2,Bool.not_true,qQ,cond_false,d6,Bool.not_false,cond_true,l6,ne,d4,l2,tk (by omega),palV,qW]
   have d6 : decide ((e.kind : Int) = 6) = false := dne (by omega)
   by_cases k4 : e.kind = 4
   · have d4 : decide ((e.kind : Int) = 4) = true := deq (by omega)
     simp only [pafY,palU,qY,Nat.zero_add,qZ,l0,bin_neq,d2,Bool.not_true,qQ,cond_false,d6,Bool.not_false,cond_true,l6,ne,lm,bl,mv k6,d4,palV,qW]
   · have d4 : decide ((e.kind : Int) = 4) = false := dne (by omega)
     simp only [pafY,palU,qY,Nat.zero_add,qZ,l0,bin_neq,d2,Bool.not_true,qQ,cond_false,d6,Bool.not_false,cond_true,l6,ne,lm,bl,mv k6,d4,l2,tk k4,palV,qW]
theorem lp3 (K L : Nat) (kr : Value → H → Option (Value × H)) (kx : H → Option (Value × H)) {w : Value} {l : List Ent} (hl : l.length ≤ 1000) (hg : ∀ e ∈ l,GoodE T e) :
 ∀ (d i m : Nat) (h : H),i + d = l.length → d < m → Ext B h → SliceE 7 h w (l.map Ent.cells) → ∃ h',pahR (callO prog 4 Q (K + 2023)) L kr kx m (.int .i64 (i : Int)) w h = kx h' ∧ Ext h h' := by
 intro d
 induction d with
 | zero =>
  intro i m h hi hm hB sl
  obtain ⟨m,rfl⟩ : ∃ r,m = r + 1 := ⟨m - 1,by omega⟩
  have hlen : A.lenS w = some (.int .i64 (l.length : Int)) := by have := sl.len.1; rwa [List.length_map] at this
  have hd : decide ((i : Int) < (l.length : Int)) = false := by rw [decide_eq_false_iff_not]; omega
  refine ⟨h,?_,Ext.refl h⟩
  simp only [pahR,pabR,paqB,hlen,qZ,zZ,hd,qQ,cond_false]
 | succ d ih =>
  intro i m h hi hm hB sl
  obtain ⟨m,rfl⟩ : ∃ r,m = r + 1 := ⟨m - 1,by omega⟩
  have hlen : A.lenS w = some (.int .i64 (l.length : Int)) := by have := sl.len.1; rwa [List.length_map] at this
  have hd : decide ((i : Int) < (l.length : Int)) = true := by rw [decide_eq_true_iff]; omega
  obtain ⟨e,he⟩ : ∃ e,l[i]? = some e := ⟨_,List.getElem?_eq_getElem (by omega)⟩
  have g := hg e (List.mem_of_getElem? he)
  obtain ⟨id,off,cells,own,ix,_,hgt,h4,h5,_⟩ := sl.at (i := i) (e := e.cells) (by rw [List.getElem?_map,he]; rfl) .i64
  have ld : A.load true 7 (.pointer (some ⟨id,off,none⟩)) h = some (.agg ⟨e.cells⟩) := load_of hgt h4 h5
  obtain ⟨h1,hh1⟩ : ∃ h1,h1 = h.push (.cells AnA.Z33L (some 0)) := ⟨_,rfl⟩
  have e1 : A.box 7 AnA.Z33 h = some (ptrV h.next,h1) := by rw [hh1]; rfl
  have g1 : h1.get h.next = some (.cells AnA.Z33L (some 0)) := by rw [hh1,H.get_push,if_pos rfl]
  obtain ⟨h2,hh2⟩ : ∃ h2,h2 = h1.put h.next (.cells e.cells (some 0)) := ⟨_,rfl⟩
  have e2 : A.store 7 (ptrV h.next) (.agg ⟨e.cells⟩) h1 = some h2 := by rw [qU,g1,hh2]; rfl
  have g2 : h2.get h.next = some (.cells e.cells (some 0)) := by rw [hh2,H.get_put,if_pos rfl]
  have n2 : h.next < h2.next := by rw [hh2,hh1]; exact Nat.lt_succ_self _
  have x2 : Ext h h2 := by rw [hh2,hh1]; exact (Ext.push h _).put _ _ (Nat.le_refl _)
  have lt : A.load false 1 (.pointer (some ⟨h.next,6,none⟩)) h2 = some (str e.text) := by rw [qK,g2]; rfl
  obtain ⟨q1,q2⟩ := one3 kb bt (callO prog 4 Q (K + 2023)) L g g2 (.int .i64 (i : Int)) w kr (fun x6 x5 x4 h => padF (callO prog 4 Q (K + 2023)) L x6 x5 x4 h kr (fun x5 x4 h => pakE (callO prog 4 Q (K + 2023)) L x5 x4 h (fun x5 x4 h => pahR (callO prog 4 Q (K + 2023)) L kr kx m x5 x4 h)))
  obtain ⟨q1',q2'⟩ := one3 kb bt (callO prog 4 Q (K + 2023)) L g g2 (.int .i64 (i : Int)) w kr (fun x6 x5 x4 h => paeX (callO prog 4 Q (K + 2023)) L x6 x5 x4 h kr (fun x5 x4 h => pakE (callO prog 4 Q (K + 2023)) L x5 x4 h (fun x5 x4 h => pahR (callO prog 4 Q (K + 2023)) L kr kx m x5 x4 h)))
  obtain ⟨h3,p,w3,e7,x3⟩ := T7any kb bt (h := h2) (K + 1022) (l := e.text) g.len (hB.trans x2)
  have e7 : callO prog 4 Q (K + 2023) 7 [str e.text] h2 = _ := e7
  obtain ⟨U,hU⟩ : ∃ U,U = decF (valB T) (rgtB (valB T) (nmB (valB T)) (fiB (valB T))) e.text := ⟨_,rfl⟩
  rw [← hU] at e7
  have t0 : A.extract 0 (res7 p w3 U) = some (.agg ⟨p.cells w3⟩) := rfl
  have t1 : A.extract 1 (res7 p w3 U) = some (.int .i64 (U.1 : Int)) := rfl
  have t2 : A.extract 2 (res7 p w3 U) = some (.int .i64 (U.2 : Int)) := rfl
  obtain ⟨h4',hh4⟩ : ∃ h4',h4' = h3.push (.cells AnA.Z39L (some 0)) := ⟨_,rfl⟩
  have e4 : A.box 24 AnA.Z39 h3 = some (ptrV h3.next,h4') := by rw [hh4]; rfl
  have g4 : h4'.get h3.next = some (.cells AnA.Z39L (some 0)) := by rw [hh4,H.get_push,if_pos rfl]
  obtain ⟨h5',hh5⟩ : ∃ h5',h5' = h4'.put h3.next (.cells (p.cells w3) (some 0)) := ⟨_,rfl⟩
  have e5 : A.store 24 (ptrV h3.next) (.agg ⟨p.cells w3⟩) h4' = some h5' := by
   have hcl : cellsL (.agg ⟨p.cells w3⟩) = some (p.cells w3) := rfl
   rw [qU,g4,hcl,hh5]; rfl
  have x5 : Ext h2 h5' := by rw [hh5,hh4]; exact (x3.trans (Ext.push h3 _)).put _ _ x3.next
  have g5 : h5'.get h.next = some (.cells e.cells (some 0)) := by rw [x5.get _ n2]; exact g2
  have lt5 : A.load false 1 (.pointer (some ⟨h.next,6,none⟩)) h5' = some (str e.text) := by rw [qK,g5]; rfl
  have le5 : A.load true 7 (ptrV h.next) h5' = some (.agg ⟨e.cells⟩) := by rw [loadN_eq,g5]; rfl
  have hwr : IntKind.i64.wrap ((i : Int) + 1) = ((i + 1 : Nat) : Int) := wrap_succ (by omega)
  have mid : ∀ (kn : Value → Value → Value → H → Option (Value × H)),pahE (callO prog 4 Q (K + 2023)) L (.int .i64 (U.2 : Int)) (.int .i64 (U.1 : Int)) (ptrV h.next) (.int .i64 (i : Int)) w h5' kr kn = kn (ptrV h.next) (.int .i64 (i : Int)) w h5' := by
   intro kn
   by_cases c15 : 15 < e.text.length
   · have d15 : decide ((15 : Int) < (e.text.length : Int)) = true := decide_eq_true (by omega)
     have hdc := g.dec c15
     have hU1 : U.1 = e.text.length := by rw [hU]; exact congrArg Prod.fst hdc
     have hU2 : U.2 = 0 := by rw [hU]; exact congrArg Prod.snd hdc
     have dz : decide ((U.2 : Int) = 0) = true := decide_eq_true (by omega)
     have dl : decide ((U.1 : Int) = (e.text.length : Int)) = true := decide_eq_true (by omega)
     simp only [pahE,paqC,qY,Nat.zero_add,qZ,lt5,qJ,zY,d15,qQ,cond_true,bin_neq,dz,Bool.not_true,cond_false,dl,paqD,qW]
   · have d15 : decide ((15 : Int) < (e.text.length : Int)) = false := decide_eq_false (by omega)
     simp only [pahE,paqC,qY,Nat.zero_add,qZ,lt5,qJ,zY,d15,qQ,cond_false,paqD,qW]
  have head : pahR (callO prog 4 Q (K + 2023)) L kr kx (m + 1) (.int .i64 (i : Int)) w h = panI (callO prog 4 Q (K + 2023)) L (ptrV h.next) (.int .i64 (i : Int)) w h5' kr (fun x5 x4 h => pakE (callO prog 4 Q (K + 2023)) L x5 x4 h (fun x5 x4 h => pahR (callO prog 4 Q (K + 2023)) L kr kx m x5 x4 h)) := by
   simp only [pahR,pabR,paqB,hlen,qZ,zZ,hd,qQ,cond_true,pacC,patQ,ix,ld,e1,qX,e2]
   rw [q1]
   simp only [padF]
   rw [q2']
   simp only [paeX,patT,qY,Nat.zero_add,qZ,lt,e7,qX,t0,t1,t2,e4,e5]
   rw [mid]
  rw [head]
  have next : ∀ {hx : H},Ext h hx → ∃ h',pakE (callO prog 4 Q (K + 2023)) L (.int .i64 (i : Int)) w hx (fun x5 x4 h => pahR (callO prog 4 Q (K + 2023)) L kr kx m x5 x4 h) = kx h' ∧ Ext h h' := by
   intro hx xx
   obtain ⟨h',eh,y⟩ := ih (i + 1) m hx (by omega) (by omega) (hB.trans xx) (sl.ext xx)
   refine ⟨h',?_,xx.trans y⟩
   simp only [pakE,bin_add,hwr,qZ]
   exact eh
  by_cases c100 : l.length ≤ 100
  · have dc : decide ((l.length : Int) ≤ 100) = true := decide_eq_true (by omega)
    obtain ⟨h6,v,c,e8,pt,hc1,x6⟩ := T8 kb (h := h5') (K + 2020) (e := e) g
    have e8 : callO prog 4 Q (K + 2023) 8 [.pointer none,.agg ⟨e.cells⟩] h5' = _ := e8
    have d1 : decide (c = 1) = false := decide_eq_false hc1
    obtain ⟨h',eh,y⟩ := next (x2.trans (x5.trans x6))
    refine ⟨h',?_,y⟩
    simp only [panI,hlen,qZ,bin_leq,dc,qQ,cond_true,le5,e8,qX,pt,zQ,d1,cond_false]
    exact eh
  · have dc : decide ((l.length : Int) ≤ 100) = false := decide_eq_false (by omega)
    obtain ⟨h',eh,y⟩ := next (x2.trans x5)
    refine ⟨h',?_,y⟩
    simp only [panI,hlen,qZ,bin_leq,dc,qQ,cond_false]
    exact eh
theorem law3 (K : Nat) {h : H} {O : Nat} {full : List UInt8} {v : Value} (hB : Ext B h) (hlv : A.lenS v = some (.int .i64 (full.length : Int))) (hO : O ≤ h.next)
 (hv : ((∃ p c,v = .slice p 0 c) ∧ full = []) ∨ (∃ cap cs own,v = .slice (some ⟨O,0,none⟩) full.length (2 * cap + 1) ∧ full.length ≤ cap ∧ O < h.next ∧ h.get O = some (.cells cs own) ∧ cs.take full.length = full.map u8)) :
 ∃ h',callO prog 4 Q (K + 2024) 3 [v] h = some (.bool true,h') := by
 rw [F3eq Q (K + 2023) _ h (kb.ka.kn.fr 3 _ (by decide))]
 have aw : ∀ h,callO prog 4 Q (K + 2023) 4 [] h = some (.bool true,h) := fun h => qB kb.aw (K + 2022) h
 by_cases c15 : 1500 < full.length
 · have d : decide ((1500 : Int) < (full.length : Int)) = true := decide_eq_true (by omega)
   refine ⟨h,?_⟩
   simp only [F3,p3a,pagI,pagJ,hlv,qZ,zY,d,qQ,cond_true,aw,qX]
 have d : decide ((1500 : Int) < (full.length : Int)) = false := decide_eq_false (by omega)
 obtain ⟨h1,w,e5,sl,x1⟩ := T5 kb.ka.kn K hO hv
 obtain ⟨l,hl⟩ : ∃ l,l = rowA full 1000 (nxN full 5 0) := ⟨_,rfl⟩
 rw [← hl] at sl
 have hlen := row_len full 1000 (nxN full 5 0)
 rw [← hl] at hlen
 have t0 : A.extract 0 (.tuple ⟨[.agg ⟨cfgA full⟩,w]⟩) = some (.agg ⟨cfgA full⟩) := rfl
 have t1 : A.extract 1 (.tuple ⟨[.agg ⟨cfgA full⟩,w]⟩) = some w := rfl
 have b0 := at8_lt full 0
 have b2 := at8_lt full (nxN full 2 0)
 obtain ⟨a1,ha1⟩ : ∃ a,a = 1 + at8 full 0 % 4 := ⟨_,rfl⟩
 obtain ⟨a2,ha2⟩ : ∃ a,a = 1 + at8 full (nxN full 1 0) % 2 := ⟨_,rfl⟩
 obtain ⟨a3,ha3⟩ : ∃ a,a = 16 + at8 full (nxN full 2 0) := ⟨_,rfl⟩
 obtain ⟨a4,ha4⟩ : ∃ a,a = 1 + at8 full (nxN full 3 0) % 5 := ⟨_,rfl⟩
 obtain ⟨a5,ha5⟩ : ∃ a,a = 1 + at8 full (nxN full 4 0) % 3 := ⟨_,rfl⟩
 obtain ⟨cf,hcf⟩ : ∃ cf : List Value,cf = [.int .i64 (a1 : Int),.int .i64 (a2 : Int),.int .i64 (a3 : Int),.int .i64 (a4 : Int),.int .i64 (a5 : Int)] := ⟨_,rfl⟩
 have hcA : cfgA full = cf := by rw [hcf,ha1,ha2,ha3,ha4,ha5]; rfl
 rw [hcA] at e5 t0 t1
 obtain ⟨h2,hh2⟩ : ∃ h2,h2 = h1.push (.cells AnA.Z25L (some 0)) := ⟨_,rfl⟩
 have e2 : A.box 5 AnA.Z25 h1 = some (ptrV h1.next,h2) := by rw [hh2]; rfl
 have g2 : h2.get h1.next = some (.cells AnA.Z25L (some 0)) := by rw [hh2,H.get_push,if_pos rfl]
 obtain ⟨h3,hh3⟩ : ∃ h3,h3 = h2.put h1.next (.cells cf (some 0)) := ⟨_,rfl⟩
 have e3 : A.store 5 (ptrV h1.next) (.agg ⟨cf⟩) h2 = some h3 := by rw [qU,g2,hh3,hcf]; rfl
 have g3 : h3.get h1.next = some (.cells cf (some 0)) := by rw [hh3,H.get_put,if_pos rfl]
 have x3 : Ext h1 h3 := by rw [hh3,hh2]; exact (Ext.push h1 _).put _ _ (Nat.le_refl _)
 have lc : A.load true 5 (ptrV h1.next) h3 = some (.agg ⟨cf⟩) := by rw [loadN_eq,g3,hcf]; rfl
 obtain ⟨h4,e6,x4⟩ := T6 kb (h := h3) (K + 2021) (a := a1) (b := a2) (c := a3) (d := a4) (e := a5) (by omega) (by omega) (by omega) (by omega) (by omega)
 rw [← hcf] at e6
 have e6 : callO prog 4 Q (K + 2023) 6 [.agg ⟨cf⟩] h3 = _ := e6
 have g4 : h4.get h1.next = some (.cells cf (some 0)) := by rw [x4.get _ (by rw [hh3,hh2]; exact Nat.lt_succ_self _)]; exact g3
 have l0 : A.load false 1 (.pointer (some ⟨h1.next,0,none⟩)) h4 = some (.int .i64 (a1 : Int)) := by rw [qK,g4,hcf]; rfl
 have l1 : A.load false 1 (.pointer (some ⟨h1.next,1,none⟩)) h4 = some (.int .i64 (a2 : Int)) := by rw [qK,g4,hcf]; rfl
 have l2 : A.load false 1 (.pointer (some ⟨h1.next,2,none⟩)) h4 = some (.int .i64 (a3 : Int)) := by rw [qK,g4,hcf]; rfl
 have l3 : A.load false 1 (.pointer (some ⟨h1.next,3,none⟩)) h4 = some (.int .i64 (a4 : Int)) := by rw [qK,g4,hcf]; rfl
 have l4 : A.load false 1 (.pointer (some ⟨h1.next,4,none⟩)) h4 = some (.int .i64 (a5 : Int)) := by rw [qK,g4,hcf]; rfl
 have d1 : decide ((4 : Int) < (a1 : Int)) = false := decide_eq_false (by omega)
 have d2 : decide ((2 : Int) < (a2 : Int)) = false := decide_eq_false (by omega)
 have d3 : decide ((271 : Int) < (a3 : Int)) = false := decide_eq_false (by omega)
 have d4 : decide ((5 : Int) < (a4 : Int)) = false := decide_eq_false (by omega)
 have d5 : decide ((3 : Int) < (a5 : Int)) = false := decide_eq_false (by omega)
 have lw : A.lenS w = some (.int .i64 (l.length : Int)) := by have := sl.len.1; rwa [List.length_map] at this
 have d6 : decide ((1000 : Int) < (l.length : Int)) = false := decide_eq_false (by omega)
 have d7 : decide ((full.length : Int) < (l.length : Int)) = false := decide_eq_false (by omega)
 obtain ⟨h5,elp,x5⟩ := lp3 kb bt K (K + 2023) (fun x2 h => some (x2,h)) (fun h => padZ (callO prog 4 Q (K + 2023)) (K + 2023) h (fun x2 h => some (x2,h))) (l := l) (by omega) (by rw [hl]; exact row_good kb bt full 1000 _) l.length 0 (K + 2023) h4 (by omega) (by omega) (((hB.trans x1).trans x3).trans x4) ((sl.ext x3).ext x4)
 have elp : pahR (callO prog 4 Q (K + 2023)) (K + 2023) (fun x2 h => some (x2,h)) (fun h => padZ (callO prog 4 Q (K + 2023)) (K + 2023) h (fun x2 h => some (x2,h))) (K + 2023) (.int .i64 0) w h4 = _ := elp
 refine ⟨h5,?_⟩
 generalize K + 2023 = M at aw e5 e6 elp ⊢
 simp only [F3,p3a,pagI,pagJ,hlv,qZ,zY,d,qQ,cond_false,paaS,e5,qX,t0,t1,e2,e3,pahA,patN,lc,e6,un_not,Bool.not_true,qY,Nat.zero_add,l0,d1,l1,d2,l2,d3,l3,d4,l4,d5,lw,d6,d7,patO,qW,pabD,patP,pabG]
 rw [elp]
 simp only [padZ,aw,qX,qQ]
end
end Go.Proofs.YtfodhidpefednaaGreatDoor.An
