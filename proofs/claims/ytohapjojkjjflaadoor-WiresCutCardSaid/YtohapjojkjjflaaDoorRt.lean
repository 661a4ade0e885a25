import Derived.Test.YtohapjojkjjflaaDoorRs
import Derived.Test.YtohapjojkjjflaaDoorRr
set_option maxRecDepth 100000
namespace Go.Proofs.YtohapjojkjjflaaDoor.Wc
open Go Go.AM WcA
structure BaseT (B : H) (A : List Nat) : Prop where
 n4 : 2 ≤ B.next
 g0 : B.get 0 = some (.cells (byteL Go.Pinned.utf8FirstZ) none)
 g1 : B.get 1 = some (.cells (byteL A) none)
 lA : A.length = 32
theorem firstT {c : Nat} (h1 : 128 ≤ c) (h2 : c < 256) : ∃ x,Go.Pinned.utf8FirstZ[c]? = some x ∧ x < 256 ∧ (240 ≤ x ∨ (2 ≤ x % 8 ∧ x % 8 ≤ 4)) := by
 have all : ((List.range 256).all fun c => Nat.blt c 128 || (match Go.Pinned.utf8FirstZ[c]? with | some x => Nat.blt x 256 && (Nat.ble 240 x || (Nat.ble 2 (x % 8) && Nat.ble (x % 8) 4)) | none => false)) = true := by kernel_rfl
 have := List.all_eq_true.1 all c (List.mem_range.2 h2)
 rw [Bool.or_eq_true,blt_iff] at this
 rcases this with h | h
 · omega
 · cases e : Go.Pinned.utf8FirstZ[c]? with
   | none => rw [e] at h; cases h
   | some x =>
    rw [e] at h
    simp only [Bool.and_eq_true,Bool.or_eq_true,blt_iff,ble_iff] at h
    exact ⟨x,rfl,h.1,h.2⟩
def firstN (c : Nat) : Nat := (Go.Pinned.utf8FirstZ[c]?).getD 0
def whG (z lo hi : Nat) (t : List UInt8) : Bool :=
 if t.length + 1 < z then false else
 match t with
 | [] => false
 | b :: t2 =>
  if b.toNat < lo then false else if hi < b.toNat then false else
  if z ≤ 2 then true else
  match t2 with
  | [] => false
  | d :: t3 =>
   if d.toNat < 128 then false else if 191 < d.toNat then false else
   if z ≤ 3 then true else
   match t3 with
   | [] => false
   | e :: _ => if e.toNat < 128 then false else if 191 < e.toNat then false else true
def whB (A : List Nat) : List UInt8 → Bool
 | [] => false
 | c :: t => if 240 ≤ firstN c.toNat then false else whG (firstN c.toNat % 8) ((A[2 * (firstN c.toNat / 16)]?).getD 0) ((A[2 * (firstN c.toNat / 16) + 1]?).getD 0) t
def andI (k : IntKind) (x y : Int) : Int := k.wrap (BitVec.ofInt k.bits x &&& BitVec.ofInt k.bits y).toNat
def orI (k : IntKind) (x y : Int) : Int := k.wrap (BitVec.ofInt k.bits x ||| BitVec.ofInt k.bits y).toNat
def andNI (k : IntKind) (x y : Int) : Int := k.wrap (BitVec.ofInt k.bits x &&& ~~~ BitVec.ofInt k.bits y).toNat
theorem bin_and (t : TypeId) (k : IntKind) (x y : Int) : A.bin Tryd.prog .and t (.int k x) (.int k y) = some (.int k (andI k x y)) := bin_int Tryd.prog .and t k x y (by simp) (by simp)
theorem bin_or (t : TypeId) (k : IntKind) (x y : Int) : A.bin Tryd.prog .or t (.int k x) (.int k y) = some (.int k (orI k x y)) := bin_int Tryd.prog .or t k x y (by simp) (by simp)
theorem bin_andN (t : TypeId) (k : IntKind) (x y : Int) : A.bin Tryd.prog .andNot t (.int k x) (.int k y) = some (.int k (andNI k x y)) := bin_int Tryd.prog .andNot t k x y (by simp) (by simp)
def shlN (n : Nat) (x : Int) : Int := IntKind.i32.wrap (x * 2 ^ (min n IntKind.i32.bits))
def shrN (n : Nat) (x : Int) : Int := x.fdiv (2 ^ (min n IntKind.i32.bits))
theorem shl6 (x : Int) : A.bin Tryd.prog .shl 21 (.int .i32 x) (.int .u64 6) = some (.int .i32 (shlN 6 x)) := rfl
theorem shl12 (x : Int) : A.bin Tryd.prog .shl 21 (.int .i32 x) (.int .u64 12) = some (.int .i32 (shlN 12 x)) := rfl
theorem shl18 (x : Int) : A.bin Tryd.prog .shl 21 (.int .i32 x) (.int .u64 18) = some (.int .i32 (shlN 18 x)) := rfl
theorem shl31 (x : Int) : A.bin Tryd.prog .shl 21 (.int .i32 x) (.int .u64 31) = some (.int .i32 (shlN 31 x)) := rfl
theorem shr31 (x : Int) : A.bin Tryd.prog .shr 21 (.int .i32 x) (.int .u64 31) = some (.int .i32 (shrN 31 x)) := rfl
theorem conv521 (x : Int) : A.conv Tryd.prog 5 21 (.int .u8 x) = some (.int .i32 (IntKind.i32.wrap x)) := by kernel_rfl
theorem and7 {x : Nat} (hx : x < 256) : A.bin Tryd.prog .and 5 (.int .u8 (x : Int)) (.int .u8 7) = some (.int .u8 ((x % 8 : Nat) : Int)) := by
 have all : ((List.range 256).all fun x => match A.bin Tryd.prog .and 5 (.int .u8 (x : Int)) (.int .u8 7) with | some v => AM.same v (.int .u8 ((x % 8 : Nat) : Int)) | none => false) = true := by kernel_rfl
 have := List.all_eq_true.1 all x (List.mem_range.2 hx)
 split at this
 · rename_i v hv
   rw [hv,same_eq _ _ this]
 · cases this
section
variable {Q : Orc} {B : H} {A' : List Nat} (kb : KnA Q) (bt : BaseT B A') {h : H}
include kb bt
theorem t212 (k : Nat) {c : UInt8} {t : List UInt8} {z lo hi o : Nat} {h2 : H} (hsz : 2 ≤ z ∧ z ≤ 4) (ll : A.load false 1 (.pointer (some ⟨o,0,none⟩)) h2 = some (.int .u8 (lo : Int))) (lh : A.load false 1 (.pointer (some ⟨o,1,none⟩)) h2 = some (.int .u8 (hi : Int))) :
 ∃ r n,pabU (callO Tryd.prog 2 Q k) k (.int .i64 ((c :: t).length : Int)) (ptrV o) (.int .i64 (z : Int)) (str (c :: t)) (u8 c) h2 (fun x2 x3 h => some (Value.tuple ⟨[x2,x3]⟩,h)) = some (Value.tuple ⟨[.int .i32 r,.int .i64 n]⟩,h2) ∧ decide ((1 : Int) < n) = whG z lo hi t := by
 have _ := kb
 have _ := bt
 have lw : (c :: t).length = t.length + 1 := rfl
 unfold whG
 by_cases hs : t.length + 1 < z
 · have ds : decide (((c :: t).length : Int) < (z : Int)) = true := decide_eq_true (by omega)
   rw [if_pos hs]
   refine ⟨65533,1,?_,rfl⟩
   simp only [pabU,pajB,zZ,ds,qZ,qQ,cond_true]
 have ds : decide (((c :: t).length : Int) < (z : Int)) = false := decide_eq_false (by omega)
 rw [if_neg hs]
 match t,hs,ds with
 | [],hs,_ => exact absurd (show 0 + 1 < z by omega) hs
 | b :: t2,hs,ds =>
  have i1 : A.indexStr (str (c :: b :: t2)) (.int .i64 1) = some (u8 b) := ixS (i := 1) rfl
  by_cases c1 : b.toNat < lo
  · have dc : decide ((b.toNat : Int) < (lo : Int)) = true := decide_eq_true (by omega)
    simp only [if_pos c1]
    refine ⟨65533,1,?_,rfl⟩
    simp only [pabU,pajB,zZ,ds,qZ,qQ,cond_false,pakV,i1,pakW,qY,Nat.zero_add,ll,dc,cond_true]
  have dc : decide ((b.toNat : Int) < (lo : Int)) = false := decide_eq_false (by omega)
  by_cases c2 : hi < b.toNat
  · have dd : decide ((hi : Int) < (b.toNat : Int)) = true := decide_eq_true (by omega)
    simp only [if_neg c1,if_pos c2]
    refine ⟨65533,1,?_,rfl⟩
    simp only [pabU,pajB,zZ,ds,qZ,qQ,cond_false,pakV,i1,pakW,qY,Nat.zero_add,ll,dc,lh,dd,cond_true]
  have dd : decide ((hi : Int) < (b.toNat : Int)) = false := decide_eq_false (by omega)
  by_cases z2 : z ≤ 2
  · have dz : decide ((z : Int) ≤ 2) = true := decide_eq_true (by omega)
    simp only [if_neg c1,if_neg c2,if_pos z2]
    refine ⟨(orI .i32 (shlN 6 (IntKind.i32.wrap (andI .u8 (c.toNat : Int) 31))) (IntKind.i32.wrap (andI .u8 (b.toNat : Int) 63))),2,?_,rfl⟩
    simp only [pabU,pajB,zZ,ds,qZ,qQ,cond_false,pakV,i1,pakW,qY,Nat.zero_add,ll,dc,lh,dd,paoI,bin_leq,dz,cond_true,bin_and,conv521,shl6,bin_or]
  have dz : decide ((z : Int) ≤ 2) = false := decide_eq_false (by omega)
  match t2,hs,ds,i1 with
  | [],hs,_,_ => exact absurd (show 0 + 1 + 1 < z by omega) hs
  | d :: t3,hs,ds,i1 =>
   have i2 : A.indexStr (str (c :: b :: d :: t3)) (.int .i64 2) = some (u8 d) := ixS (i := 2) rfl
   have hd2 : ∀ (kr : Value → Value → H → Option (Value × H)),pabU (callO Tryd.prog 2 Q k) k (.int .i64 ((c :: b :: d :: t3).length : Int)) (ptrV o) (.int .i64 (z : Int)) (str (c :: b :: d :: t3)) (u8 c) h2 kr = paeM (callO Tryd.prog 2 Q k) k (.int .i64 (z : Int)) (str (c :: b :: d :: t3)) (u8 c) (u8 b) (u8 d) h2 kr := by
    intro kr
    simp only [pabU,pajB,zZ,ds,qZ,qQ,cond_false,pakV,i1,pakW,qY,Nat.zero_add,ll,dc,lh,dd,paoI,bin_leq,dz,pasR,i2]
   rw [hd2]
   simp only [if_neg c1,if_neg c2,if_neg z2]
   by_cases c3 : d.toNat < 128
   · have de : decide ((d.toNat : Int) < 128) = true := decide_eq_true (by omega)
     simp only [if_pos c3]
     refine ⟨65533,1,?_,rfl⟩
     simp only [paeM,paiM,zZ,de,qZ,qQ,cond_true]
   have de : decide ((d.toNat : Int) < 128) = false := decide_eq_false (by omega)
   by_cases c4 : 191 < d.toNat
   · have df : decide ((191 : Int) < (d.toNat : Int)) = true := decide_eq_true (by omega)
     simp only [if_neg c3,if_pos c4]
     refine ⟨65533,1,?_,rfl⟩
     simp only [paeM,paiM,zZ,de,qZ,qQ,cond_false,df,cond_true]
   have df : decide ((191 : Int) < (d.toNat : Int)) = false := decide_eq_false (by omega)
   by_cases z3 : z ≤ 3
   · have dz3 : decide ((z : Int) ≤ 3) = true := decide_eq_true (by omega)
     simp only [if_neg c3,if_neg c4,if_pos z3]
     refine ⟨(orI .i32 (orI .i32 (shlN 12 (IntKind.i32.wrap (andI .u8 (c.toNat : Int) 15))) (shlN 6 (IntKind.i32.wrap (andI .u8 (b.toNat : Int) 63)))) (IntKind.i32.wrap (andI .u8 (d.toNat : Int) 63))),3,?_,rfl⟩
     simp only [paeM,paiM,zZ,de,qZ,qQ,cond_false,df,pakX,bin_leq,dz3,cond_true,bin_and,conv521,shl12,shl6,bin_or]
   have dz3 : decide ((z : Int) ≤ 3) = false := decide_eq_false (by omega)
   match t3,hs,i2 with
   | [],hs,_ => exact absurd (show 0 + 1 + 1 + 1 < z by omega) hs
   | e :: t4,hs,i2 =>
    have i3 : A.indexStr (str (c :: b :: d :: e :: t4)) (.int .i64 3) = some (u8 e) := ixS (i := 3) rfl
    simp only [if_neg c3,if_neg c4,if_neg z3]
    by_cases c5 : e.toNat < 128
    · have dh : decide ((e.toNat : Int) < 128) = true := decide_eq_true (by omega)
      simp only [if_pos c5]
      refine ⟨65533,1,?_,rfl⟩
      simp only [paeM,paiM,zZ,de,qZ,qQ,cond_false,df,pakX,bin_leq,dz3,pamM,i3,dh,cond_true]
    have dh : decide ((e.toNat : Int) < 128) = false := decide_eq_false (by omega)
    by_cases c6 : 191 < e.toNat
    · have di : decide ((191 : Int) < (e.toNat : Int)) = true := decide_eq_true (by omega)
      simp only [if_neg c5,if_pos c6]
      refine ⟨65533,1,?_,rfl⟩
      simp only [paeM,paiM,zZ,de,qZ,qQ,cond_false,df,pakX,bin_leq,dz3,pamM,i3,dh,di,cond_true]
    have di : decide ((191 : Int) < (e.toNat : Int)) = false := decide_eq_false (by omega)
    simp only [if_neg c5,if_neg c6]
    refine ⟨(orI .i32 (orI .i32 (orI .i32 (shlN 18 (IntKind.i32.wrap (andI .u8 (c.toNat : Int) 7))) (shlN 12 (IntKind.i32.wrap (andI .u8 (b.toNat : Int) 63)))) (shlN 6 (IntKind.i32.wrap (andI .u8 (d.toNat : Int) 63)))) (IntKind.i32.wrap (andI .u8 (e.toNat : Int) 63))),4,?_,rfl⟩
    simp only [paeM,paiM,zZ,de,qZ,qQ,cond_false,df,pakX,bin_leq,dz3,pamM,i3,dh,di,bin_and,conv521,shl18,shl12,shl6,bin_or]
theorem T212 (k : Nat) {c : UInt8} {t : List UInt8} (hB : Ext B h) (hc : 128 ≤ c.toNat) (hl : t.length ≤ 1000300) :
 ∃ h' r n,callO Tryd.prog 2 Q (k + 1) 73 [str (c :: t)] h = some (.tuple ⟨[.int .i32 r,.int .i64 n]⟩,h') ∧ decide ((1 : Int) < n) = whB A' (c :: t) ∧ Ext h h' := by
 rw [F73eq Q k _ h (kb.fr 73 _ (by decide))]
 obtain ⟨x,hx,hx256,hx2⟩ := firstT hc c.toNat_lt
 have hfn : firstN c.toNat = x := by unfold firstN; rw [hx]; rfl
 have ln := qJ (c :: t)
 have d1 : decide (((c :: t).length : Int) < 1) = false := by rw [decide_eq_false_iff_not,List.length_cons]; omega
 have i0 : A.indexStr (str (c :: t)) (.int .i64 0) = some (u8 c) := ixS (i := 0) rfl
 have g0 : h.get 0 = some (.cells (byteL Go.Pinned.utf8FirstZ) none) := by rw [hB.get 0 (by have := bt.n4; omega)]; exact bt.g0
 have g1 : h.get 1 = some (.cells (byteL A') none) := by rw [hB.get 1 (by have := bt.n4; omega)]; exact bt.g1
 have ix0 : A.idxA 256 1 (.pointer (some ⟨0,0,none⟩)) (u8 c) = some (.pointer (some ⟨0,0 + c.toNat * 1,none⟩)) := by
  show (bif Nat.blt c.toNat 256 then _ else none) = _
  rw [blt_iff.2 c.toNat_lt]; rfl
 have l0 : A.load false 1 (.pointer (some ⟨0,0 + c.toNat * 1,none⟩)) h = some (.int .u8 (x : Int)) := by
  rw [qK,g0,Nat.zero_add,Nat.mul_one]
  show (byteL Go.Pinned.utf8FirstZ)[c.toNat]? = _
  unfold byteL
  rw [List.getElem?_map,hx]; rfl
 by_cases h240 : 240 ≤ x
 · have dg : decide ((240 : Int) ≤ (x : Int)) = true := decide_eq_true (by omega)
   have hw : whB A' (c :: t) = false := by
    show (if 240 ≤ firstN c.toNat then false else _) = _
    rw [hfn,if_pos h240]
   refine ⟨h,orI .i32 (andNI .i32 (IntKind.i32.wrap (c.toNat : Int)) (shrN 31 (shlN 31 (IntKind.i32.wrap (x : Int))))) (andI .i32 65533 (shrN 31 (shlN 31 (IntKind.i32.wrap (x : Int))))),1,?_,by rw [hw]; rfl,Ext.refl h⟩
   simp only [F73,p73a,paoC,paoD,ln,qZ,paoE,zZ,d1,qQ,cond_false,paoF,i0,paoG,ix0,l0,paoH,bin_geq,dg,cond_true,conv521,shl31,shr31,bin_andN,bin_and,bin_or]
 have dg : decide ((240 : Int) ≤ (x : Int)) = false := decide_eq_false (by omega)
 have hsz : 2 ≤ x % 8 ∧ x % 8 ≤ 4 := by rcases hx2 with h | h; exact absurd h h240; exact h
 obtain ⟨z,hz⟩ : ∃ z,z = x % 8 := ⟨_,rfl⟩
 obtain ⟨q,hq⟩ : ∃ q,q = x / 16 := ⟨_,rfl⟩
 have hq16 : q < 16 := by omega
 have a7 := and7 hx256
 rw [← hz] at a7 hsz
 have cz := conv53 z (by omega : z < 256)
 have s4 := (shr4 hx256).1
 rw [← hq] at s4
 have ix1 : A.idxA 16 2 (.pointer (some ⟨1,0,none⟩)) (.int .u8 (q : Int)) = some (.pointer (some ⟨1,0 + q * 2,none⟩)) := by
  show (bif Nat.blt q 16 then _ else none) = _
  rw [blt_iff.2 hq16]; rfl
 obtain ⟨lo,hlo⟩ : ∃ lo,A'[2 * q]? = some lo := ⟨_,List.getElem?_eq_getElem (by rw [bt.lA]; omega)⟩
 obtain ⟨hi,hhi⟩ : ∃ hi,A'[2 * q + 1]? = some hi := ⟨_,List.getElem?_eq_getElem (by rw [bt.lA]; omega)⟩
 have l1 : A.load true 2 (.pointer (some ⟨1,0 + q * 2,none⟩)) h = some (.agg ⟨[.int .u8 (lo : Int),.int .u8 (hi : Int)]⟩) := by
  rw [loadN_eq,g1]
  have bl : (byteL A').length = 32 := by unfold byteL; rw [List.length_map,bt.lA]
  have e1 : Nat.ble (0 + q * 2 + 2) (byteL A').length = true := ble_iff.2 (by omega)
  simp only [e1,cond_true]
  have e2 : ((byteL A').drop (0 + q * 2)).take 2 = [.int .u8 (lo : Int),.int .u8 (hi : Int)] := by
   have b1 : (byteL A')[0 + q * 2]? = some (.int .u8 (lo : Int)) := by unfold byteL; rw [List.getElem?_map,show 0 + q * 2 = 2 * q by omega,hlo]; rfl
   have b2 : (byteL A')[0 + q * 2 + 1]? = some (.int .u8 (hi : Int)) := by unfold byteL; rw [List.getElem?_map,show 0 + q * 2 + 1 = 2 * q + 1 by omega,hhi]; rfl
   rw [drop_cons b1,drop_cons b2]; rfl
  rw [e2]
 obtain ⟨h1,hh1⟩ : ∃ h1,h1 = h.push (.cells WcA.Z114L (some 0)) := ⟨_,rfl⟩
 have e1 : A.box 2 WcA.Z114 h = some (ptrV h.next,h1) := by rw [hh1]; rfl
 obtain ⟨h2,hh2⟩ : ∃ h2,h2 = h1.put h.next (.cells [.int .u8 (lo : Int),.int .u8 (hi : Int)] (some 0)) := ⟨_,rfl⟩
 have gz : h1.get h.next = some (.cells WcA.Z114L (some 0)) := by rw [hh1,H.get_push,if_pos rfl]
 have e2 : A.store 2 (ptrV h.next) (.agg ⟨[.int .u8 (lo : Int),.int .u8 (hi : Int)]⟩) h1 = some h2 := by
  rw [qU,gz,hh2]; rfl
 have x2 : Ext h h2 := by rw [hh2]; exact (hh1 ▸ Ext.push h _ : Ext h h1).put _ _ (Nat.le_refl _)
 have g2 : h2.get h.next = some (.cells [.int .u8 (lo : Int),.int .u8 (hi : Int)] (some 0)) := by rw [hh2,H.get_put,if_pos rfl]
 have ll : A.load false 1 (.pointer (some ⟨h.next,0,none⟩)) h2 = some (.int .u8 (lo : Int)) := by rw [qK,g2]; rfl
 have lh : A.load false 1 (.pointer (some ⟨h.next,1,none⟩)) h2 = some (.int .u8 (hi : Int)) := by rw [qK,g2]; rfl
 have wh : whB A' (c :: t) = whG z lo hi t := by
  show (if 240 ≤ firstN c.toNat then false else whG (firstN c.toNat % 8) ((A'[2 * (firstN c.toNat / 16)]?).getD 0) ((A'[2 * (firstN c.toNat / 16) + 1]?).getD 0) t) = _
  rw [hfn,if_neg h240,← hz,← hq,hlo,hhi]
  rfl
 rw [wh]
 have hd : ∀ (kr : Value → Value → H → Option (Value × H)),p73a (callO Tryd.prog 2 Q k) k (str (c :: t)) h kr = pabU (callO Tryd.prog 2 Q k) k (.int .i64 ((c :: t).length : Int)) (ptrV h.next) (.int .i64 (z : Int)) (str (c :: t)) (u8 c) h2 kr := by
  intro kr
  simp only [p73a,paoC,paoD,ln,qZ,paoE,zZ,d1,qQ,cond_false,paoF,i0,paoG,ix0,l0,paoH,bin_geq,dg,pasP,a7,cz,pasQ,s4,ix1,l1,e1,qX,e2]
 simp only [F73]
 rw [hd]
 obtain ⟨r,n,e,hn⟩ := t212 kb bt k (t := t) hsz ll lh
 exact ⟨h2,r,n,e,hn,x2⟩
end
end Go.Proofs.YtohapjojkjjflaaDoor.Wc

set_option maxRecDepth 100000
namespace Go.Proofs.YtohapjojkjjflaaDoor.Wc
open Go Go.AM WcA
def runV (T : List Nat) (s : List UInt8) : Nat → Nat → Bool
 | 0,_ => true
 | f + 1,pos => match A.charAt ⟨⟨s⟩⟩ pos with
  | none => true
  | some (c,w) => if c = 0 then false else if c = 65533 then (if whB T (s.drop pos) then runV T s f (pos + w) else false) else runV T s f (pos + w)
def valB (T : List Nat) (s : List UInt8) : Bool := if 65535 < s.length then false else runV T s (s.length + 1) 0
theorem valB_mq (T : List Nat) : valB T MQTT = true := by kernel_rfl
theorem char_err {s : List UInt8} {pos w : Nat} (e : A.charAt ⟨⟨s⟩⟩ pos = some (65533,w)) : ∃ b,s[pos]? = some b ∧ 128 ≤ b.toNat := by
 unfold A.charAt at e
 cases hb : s[pos]? with
 | none =>
  have hb : (⟨⟨s⟩⟩ : ByteArray).data.toList[pos]? = none := hb
  rw [hb] at e; cases e
 | some b =>
  have hb : (⟨⟨s⟩⟩ : ByteArray).data.toList[pos]? = some b := hb
  rw [hb] at e
  simp only at e
  refine ⟨b,rfl,?_⟩
  cases hq : Nat.blt b.toNat 128 with
  | true =>
   rw [hq] at e
   simp only [cond_true,Option.some.injEq,Prod.mk.injEq] at e
   have := b.toNat_lt
   omega
  | false =>
   have : ¬ b.toNat < 128 := fun h => by rw [blt_iff.2 h] at hq; cases hq
   omega
section
variable {Q : Orc} {B : H} {A' : List Nat} (kb : KnA Q) (bt : BaseT B A') {h : H}
include kb bt
theorem T131 (k : Nat) {c : UInt8} {t : List UInt8} (hB : Ext B h) (hc : 128 ≤ c.toNat) (hl : t.length ≤ 1000300) :
 ∃ h',callO Tryd.prog 2 Q (k + 3) 61 [str (c :: t)] h = some (.bool (whB A' (c :: t)),h') ∧ Ext h h' := by
 rw [F61eq Q (k + 2) _ h (kb.fr 61 _ (by decide))]
 obtain ⟨h',r,n,e,hn,x⟩ := T212 kb bt (h := h) k (c := c) (t := t) hB hc hl
 have e159 : callO Tryd.prog 2 Q (k + 2) 65 [str (c :: t)] h = some (.tuple ⟨[.int .i32 r,.int .i64 n]⟩,h') := by
  rw [F65eq Q (k + 1) _ h (kb.fr 65 _ (by decide))]
  have ne := str_ne9 (c :: t) []
  rw [decide_eq_false (by simp)] at ne
  have ne : A.bin Tryd.prog .neq 9 (str (c :: t)) (.string ⟨⟨[]⟩⟩) = some (.bool true) := ne
  have i0 : A.indexStr (str (c :: t)) (.int .i64 0) = some (u8 c) := ixS (i := 0) rfl
  have d : decide ((c.toNat : Int) < 128) = false := decide_eq_false (by omega)
  have t0 : A.extract 0 (.tuple ⟨[.int .i32 r,.int .i64 n]⟩) = some (.int .i32 r) := rfl
  have t1 : A.extract 1 (.tuple ⟨[.int .i32 r,.int .i64 n]⟩) = some (.int .i64 n) := rfl
  simp only [F65,p65a,ne,qZ,qQ,cond_true,i0,zZ,d,cond_false,e,qX,t0,t1]
 have t0 : A.extract 0 (.tuple ⟨[.int .i32 r,.int .i64 n]⟩) = some (.int .i32 r) := rfl
 have t1 : A.extract 1 (.tuple ⟨[.int .i32 r,.int .i64 n]⟩) = some (.int .i64 n) := rfl
 refine ⟨h',?_,x⟩
 simp only [F61,p61a,e159,qX,t0,t1,qZ,zY,hn,qQ]
theorem lp101 (k L : Nat) {t : Nat} {s : List UInt8} (hl : s.length ≤ 1000300) (hbt : B.next ≤ t) :
 ∀ (d m : Nat) (h : H) (pos x3 : Nat),s.length < pos + d → d < m → x3 + d ≤ 1001000 → h.get t = some (.siter ⟨⟨s⟩⟩ pos) → t < h.next → Ext B h →
  ∃ h' v,pagU (callO Tryd.prog 2 Q (k + 3)) L (fun x2 h => some (x2,h)) (fun x3 h => pakR (callO Tryd.prog 2 Q (k + 3)) L x3 h (fun x2 h => some (x2,h))) m (ptrV t) (str s) (.int .i64 (x3 : Int)) h = some (.int .i64 v,h') ∧ decide ((0 : Int) ≤ v) = runV A' s d pos ∧ ExtBut (fun i => i = t) h h' := by
 have b0 : A.extract 0 (.tuple ⟨[.bool false]⟩) = some (.bool false) := rfl
 intro d
 induction d with
 | zero =>
  intro m h pos x3 hi hm hx g lt hB
  obtain ⟨m,rfl⟩ : ∃ r,m = r + 1 := ⟨m - 1,by omega⟩
  have e := nextS_none g (char_none (s := s) (by omega))
  refine ⟨h,(x3 : Int),?_,decide_eq_true (by omega),⟨Nat.le_refl _,fun _ _ _ => rfl⟩⟩
  simp only [pagU,pacA,paiI,e,qX,b0,qZ,qQ,paiJ,qW,cond_false,pakR]
 | succ d ih =>
  intro m h pos x3 hi hm hx g lt hB
  obtain ⟨m,rfl⟩ : ∃ r,m = r + 1 := ⟨m - 1,by omega⟩
  cases hc : A.charAt ⟨⟨s⟩⟩ pos with
  | none =>
   have e := nextS_none g hc
   have hr : runV A' s (d + 1) pos = true := by
    show (match A.charAt ⟨⟨s⟩⟩ pos with | none => true | some (c,w) => if c = 0 then false else if c = 65533 then (if whB A' (s.drop pos) then runV A' s d (pos + w) else false) else runV A' s d (pos + w)) = _
    rw [hc]
   refine ⟨h,(x3 : Int),?_,by rw [hr]; exact decide_eq_true (by omega),⟨Nat.le_refl _,fun _ _ _ => rfl⟩⟩
   simp only [pagU,pacA,paiI,e,qX,b0,qZ,qQ,paiJ,qW,cond_false,pakR]
  | some cw =>
   obtain ⟨c,w⟩ := cw
   obtain ⟨_,hc2,hw⟩ := char_le hc
   have e := nextS_some g hc
   obtain ⟨h1,hh1⟩ : ∃ h1,h1 = h.put t (.siter ⟨⟨s⟩⟩ (pos + w)) := ⟨_,rfl⟩
   rw [← hh1] at e
   have g1 : h1.get t = some (.siter ⟨⟨s⟩⟩ (pos + w)) := by rw [hh1,H.get_put,if_pos rfl]
   have x1 : ExtBut (fun i => i = t) h h1 := by rw [hh1]; exact ExtBut.put ⟨Nat.le_refl _,fun _ _ _ => rfl⟩ t _ rfl
   have lt1 : t < h1.next := by rw [hh1]; exact lt
   have hB1 : Ext B h1 := base_but hB x1 hbt
   have a0 : A.extract 0 (.tuple ⟨[.bool true,.int .i64 (pos : Int),.int .i32 (c : Int)]⟩) = some (.bool true) := rfl
   have a1 : A.extract 1 (.tuple ⟨[.bool true,.int .i64 (pos : Int),.int .i32 (c : Int)]⟩) = some (.int .i64 (pos : Int)) := rfl
   have a2 : A.extract 2 (.tuple ⟨[.bool true,.int .i64 (pos : Int),.int .i32 (c : Int)]⟩) = some (.int .i32 (c : Int)) := rfl
   have hr : runV A' s (d + 1) pos = (if c = 0 then false else if c = 65533 then (if whB A' (s.drop pos) then runV A' s d (pos + w) else false) else runV A' s d (pos + w)) := by
    show (match A.charAt ⟨⟨s⟩⟩ pos with | none => true | some (c,w) => if c = 0 then false else if c = 65533 then (if whB A' (s.drop pos) then runV A' s d (pos + w) else false) else runV A' s d (pos + w)) = _
    rw [hc]
   rw [hr]
   have hwr : IntKind.i64.wrap ((x3 : Int) + 1) = ((x3 + 1 : Nat) : Int) := wrap_succ (by omega)
   by_cases c0 : c = 0
   · have d0 : decide ((c : Int) = 0) = true := decide_eq_true (by omega)
     rw [if_pos c0]
     refine ⟨h1,-1,?_,rfl,x1⟩
     simp only [pagU,pacA,paiI,e,qX,a0,qZ,qQ,paiJ,qW,cond_true,padN,pakO,a1,a2,pafM,pakP,zQ,d0,pakQ]
   have d0 : decide ((c : Int) = 0) = false := decide_eq_false (by omega)
   rw [if_neg c0]
   by_cases cE : c = 65533
   · have dE : decide ((c : Int) = 65533) = true := decide_eq_true (by omega)
     rw [if_pos cE]
     obtain ⟨b,hb,hb8⟩ := char_err (by rw [cE] at hc; exact hc)
     have hpl := (List.getElem?_eq_some_iff.1 hb).1
     have sl := slS (l := s) (k := pos) (by omega)
     rw [drop_cons hb] at sl
     obtain ⟨h2,e2,x2⟩ := T131 kb bt (h := h1) k (c := b) (t := s.drop (pos + 1)) hB1 hb8 (by rw [List.length_drop]; omega)
     rw [drop_cons hb]
     cases hwh : whB A' (b :: s.drop (pos + 1)) with
     | false =>
      rw [hwh] at e2
      refine ⟨h2,-1,?_,rfl,x1.trans x2.but⟩
      simp only [pagU,pacA,paiI,e,qX,a0,qZ,qQ,paiJ,qW,cond_true,padN,pakO,a1,a2,pafM,pakP,zQ,d0,cond_false,dE,sl,e2,un_not,Bool.not_false,pakQ]
     | true =>
      rw [hwh] at e2
      obtain ⟨h3,v,e3,hv,x3'⟩ := ih m h2 (pos + w) (x3 + 1) (by omega) (by omega) (by omega) (by rw [x2.get _ lt1]; exact g1) (Nat.lt_of_lt_of_le lt1 x2.next) (hB1.trans x2)
      refine ⟨h3,v,?_,hv,(x1.trans x2.but).trans x3'⟩
      simp only [pagU,pacA,paiI,e,qX,a0,qZ,qQ,paiJ,qW,cond_true,padN,pakO,a1,a2,pafM,pakP,zQ,d0,cond_false,dE,sl,e2,un_not,Bool.not_true,pakQ,panL,bin_add,hwr]
      exact e3
   · have dE : decide ((c : Int) = 65533) = false := decide_eq_false (by omega)
     rw [if_neg cE]
     obtain ⟨h3,v,e3,hv,x3'⟩ := ih m h1 (pos + w) (x3 + 1) (by omega) (by omega) (by omega) g1 lt1 hB1
     refine ⟨h3,v,?_,hv,x1.trans x3'⟩
     simp only [pagU,pacA,paiI,e,qX,a0,qZ,qQ,paiJ,qW,cond_true,padN,pakO,a1,a2,pafM,pakP,zQ,d0,cond_false,dE,pakQ,panL,bin_add,hwr]
     exact e3
theorem T77 (k : Nat) {s : List UInt8} (hl : s.length ≤ 1000300) (hB : Ext B h) : ∃ h',callO Tryd.prog 2 Q (k + 1000400) 38 [str s] h = some (.bool (valB A' s),h') ∧ Ext h h' := by
 cases hq : Q 38 [str s] with
 | some v => exact absurd hq (by rw [kb.fr 38 _ (by decide)]; intro c; cases c)
 | none =>
  rw [F38eq Q (k + 1000399) _ h hq]
  have e101 : ∃ h' v,callO Tryd.prog 2 Q (k + 1000399) 54 [str s] h = some (.int .i64 v,h') ∧ decide ((0 : Int) ≤ v) = valB A' s ∧ Ext h h' := by
   rw [F54eq Q (k + 1000398) _ h (kb.fr 54 _ (by decide))]
   by_cases hlong : 65535 < s.length
   · have d : decide ((65535 : Int) < (s.length : Int)) = true := decide_eq_true (by omega)
     refine ⟨h,-1,?_,by unfold valB; rw [if_pos hlong]; rfl,Ext.refl h⟩
     simp only [F54,p54a,panJ,panK,qJ,qZ,zY,d,qQ,cond_true]
   have d : decide ((65535 : Int) < (s.length : Int)) = false := decide_eq_false (by omega)
   have hvb : valB A' s = runV A' s (s.length + 1) 0 := by unfold valB; exact if_neg hlong
   rw [hvb]
   obtain ⟨h1,hh1⟩ : ∃ h1,h1 = h.push (.siter ⟨⟨s⟩⟩ 0) := ⟨_,rfl⟩
   have e1 : A.rangeS (str s) h = some (ptrV h.next,h1) := by rw [hh1]; rfl
   have x1 : Ext h h1 := by rw [hh1]; exact Ext.push h _
   have g1 : h1.get h.next = some (.siter ⟨⟨s⟩⟩ 0) := by rw [hh1,H.get_push,if_pos rfl]
   obtain ⟨h2,v,e,hv,x2⟩ := lp101 kb bt (k + 1000395) (k + 1000398) hl hB.next (s.length + 1) (k + 1000398) h1 0 0 (by omega) (by omega) (by omega) g1 (by rw [hh1]; exact Nat.lt_succ_self _) (hB.trans x1)
   refine ⟨h2,v,?_,hv,⟨Nat.le_trans x1.next x2.next,fun i hi => by rw [x2.get i (Nat.lt_of_lt_of_le hi x1.next) (by omega)]; exact x1.get i hi⟩⟩
   have e : pagU (callO Tryd.prog 2 Q (k + 1000398)) (k + 1000398) (fun x2 h => some (x2,h)) (fun x3 h => pakR (callO Tryd.prog 2 Q (k + 1000398)) (k + 1000398) x3 h (fun x2 h => some (x2,h))) (k + 1000398) (ptrV h.next) (str s) (.int .i64 0) h1 = _ := e
   obtain ⟨M,hM⟩ : ∃ M,M = k + 1000398 := ⟨_,rfl⟩
   rw [← hM] at e ⊢
   simp only [F54,p54a,panJ,panK,qJ,qZ,zY,d,qQ,cond_false,parH,pabG,parI,e1,qX,pabN]
   exact e
  obtain ⟨h',v,e,hv,x⟩ := e101
  refine ⟨h',?_,x⟩
  simp only [F38,p38a,e,qX,bin_geq,hv,qZ,qQ]
theorem va_of : VA Q B (valB A') := ⟨bt.n4,fun k h s hB hl => T77 kb bt k hl hB⟩
theorem T7any (k : Nat) {l : List UInt8} (hl : l.length ≤ 1000300) (hB : Ext B h) : D7 (callO Tryd.prog 2 Q (k + 1001001) 16 [str l] h) h (decP (valB A') (nmB (valB A')) (fiB (valB A')) l) :=
 T7 kb (va_of kb bt) (rg_of kb (va_of kb bt) (ok_of kb (va_of kb bt))) k hl hB
theorem vl_of : Vl (valB A') (nmB (valB A')) (fiB (valB A')) := by
 have _ := kb
 have _ := bt
 refine ⟨fun s hs => ?_,fun s hs => ?_,fun s hs => ?_,valB_mq A'⟩
 · unfold valB at hs
   split at hs
   · cases hs
   · omega
 · unfold nmB at hs
   split at hs
   · cases hs
   · split at hs
     · rename_i h; exact h
     · cases hs
 · unfold fiB at hs
   split at hs
   · cases hs
   · split at hs
     · rename_i h; exact h
     · cases hs
end
end Go.Proofs.YtohapjojkjjflaaDoor.Wc
