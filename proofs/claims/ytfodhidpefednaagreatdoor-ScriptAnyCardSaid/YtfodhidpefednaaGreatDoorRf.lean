import Derived.Test.YtfodhidpefednaaGreatDoorAnA
import Derived.Test.YtfodhidpefednaaGreatDoorAnB
namespace Go.Proofs.YtfodhidpefednaaGreatDoor.An
open Tryz (prog)
open Go Go.AM AnA AnB
abbrev ptrV (p : Nat) : Value := .pointer (some ⟨p,0,none⟩)
abbrev u8 (b : UInt8) : Value := .int .u8 (b.toNat : Int)
abbrev str (l : List UInt8) : Value := .string ⟨⟨l⟩⟩
theorem toBytes_u8 : ∀ l : List UInt8,A.toBytes (l.map u8) = some l
 | [] => rfl
 | b :: l => by
  show (A.toBytes (l.map u8)).map (fun r => UInt8.ofNat ((b.toNat : Int).toNat) :: r) = _
  rw [toBytes_u8 l]
  simp
def free : List Nat := [3,5,12,13,29,48,49,50,51,75,97,36,99,100,55,56,57,58,60,127,128,129,130,80,158]
def Free (Q : Orc) : Prop := ∀ f args,f ∈ free → Q f args = none
def at8 (full : List UInt8) (k : Nat) : Nat := (full[k]?.map UInt8.toNat).getD 0
def nx (full : List UInt8) (k : Nat) : Nat := if k < full.length then k + 1 else k
theorem at8_lt (full : List UInt8) (k : Nat) : at8 full k < 256 := by
 unfold at8
 cases full[k]? with
 | none => exact (by decide)
 | some b => exact b.toNat_lt
theorem le_nx (full : List UInt8) (k : Nat) : k ≤ nx full k := by unfold nx; split <;> omega
structure Rd (h : H) (a O : Nat) (full : List UInt8) (k : Nat) : Prop where
 le : k ≤ full.length
 ha : a < h.next
 get : ∃ v,h.get a = some (.cells [v] (some 0)) ∧ (((∃ p c,v = .slice p 0 c) ∧ full = []) ∨ (∃ cap cs own,v = .slice (some ⟨O,k,none⟩) (full.length - k) (2 * cap + 1 - 2 * k) ∧ full.length ≤ cap ∧ O ≠ a ∧ O < h.next ∧ h.get O = some (.cells cs own) ∧ cs.take full.length = full.map u8))
theorem Rd.but {S : Nat → Prop} {h h' : H} {a O : Nat} {full : List UInt8} {k : Nat} (r : Rd h a O full k) (x : ExtBut S h h') (s1 : ¬ S a) (s2 : ¬ S O) : Rd h' a O full k := by
 obtain ⟨v,hv,hc⟩ := r.get
 refine ⟨r.le,Nat.lt_of_lt_of_le r.ha x.next,v,by rw [x.get a r.ha s1]; exact hv,?_⟩
 rcases hc with hc | ⟨cap,cs,own,h1,h0,h2,h3,h4,h5⟩
 · exact .inl hc
 · exact .inr ⟨cap,cs,own,h1,h0,h2,Nat.lt_of_lt_of_le h3 x.next,by rw [x.get O h3 s2]; exact h4,h5⟩
theorem Rd.ext {h h' : H} {a O : Nat} {full : List UInt8} {k : Nat} (r : Rd h a O full k) (x : Ext h h') : Rd h' a O full k := r.but (S := fun _ => False) x.but (fun h => h) (fun h => h)
theorem conv53 (n : Nat) (hn : n < 256) : A.conv prog 5 3 (.int .u8 (n : Int)) = some (.int .i64 (n : Int)) := by
 have u5 : prog.underlying 5 = some (.int .u8) := Tryz.underlying5
 have u3 : prog.underlying 3 = some (.int .i64) := Tryz.underlying3
 simp only [A.conv,u5,u3]
 rw [wrap64 (by omega) (by omega)]
section
variable {Q : Orc} (q : Free Q) {h : H} {a O : Nat} {full : List UInt8} {k : Nat}
include q
theorem T10 (n : Nat) (r : Rd h a O full k) : ∃ h',callO prog 4 Q (n + 1) 12 [ptrV a] h = some (.int .i64 (at8 full k : Int),h') ∧ Rd h' a O full (nx full k) ∧ ExtBut (fun i => i = a) h h' ∧ h'.next = h.next := by
 rw [F12eq Q n _ h (q 12 _ (by decide))]
 obtain ⟨v,hv,hc⟩ := r.get
 have l0 : A.load false 1 (.pointer (some ⟨a,0,none⟩)) h = some v := by rw [qK,hv]; rfl
 have hle := r.le
 rcases hc with ⟨⟨p,c,rfl⟩,rfl⟩ | ⟨cap,cs,own,rfl,hcap,hO,hOn,hg,ht⟩
 · have hz : A.lenS (.slice p 0 c) = some (.int .i64 0) := rfl
   have hk : nx ([] : List UInt8) k = k := by unfold nx; rw [if_neg]; simp
   refine ⟨h,?_,by rw [hk]; exact r,⟨Nat.le_refl _,fun _ _ _ => rfl⟩,rfl⟩
   simp only [F12,p12a,qV,qZ,qY,Nat.zero_add,l0,hz,zQ,decide_true,qQ,cond_true]
   rfl
 · have hl : A.lenS (.slice (some ⟨O,k,none⟩) (full.length - k) (2 * cap + 1 - 2 * k)) = some (.int .i64 ((full.length - k : Nat) : Int)) := rfl
   by_cases hk : k < full.length
   · have hd : decide (((full.length - k : Nat) : Int) = 0) = false := by rw [decide_eq_false_iff_not]; omega
     obtain ⟨b,hb⟩ : ∃ b,full[k]? = some b := ⟨full[k],List.getElem?_eq_getElem hk⟩
     have hat : at8 full k = b.toNat := by unfold at8; rw [hb]; rfl
     have hnx : nx full k = k + 1 := by unfold nx; rw [if_pos hk]
     have ix := idxS_eq 1 O k (full.length - k) (2 * cap + 1 - 2 * k) 0 .i64 (by omega)
     have ix : A.idxS 1 (.slice (some ⟨O,k,none⟩) (full.length - k) (2 * cap + 1 - 2 * k)) (.int .i64 0) = some (.pointer (some ⟨O,k,none⟩)) := by simpa using ix
     have ld : A.load false 1 (.pointer (some ⟨O,k,none⟩)) h = some (u8 b) := by
      rw [qK,hg]
      have h1 : (cs.take full.length)[k]? = (full.map u8)[k]? := by rw [ht]
      rw [List.getElem?_take,if_pos hk,List.getElem?_map,hb] at h1
      exact h1
     have sl : A.sliceS 1 (.slice (some ⟨O,k,none⟩) (full.length - k) (2 * cap + 1 - 2 * k)) (some (.int .i64 1)) none none h = some (.slice (some ⟨O,k + 1,none⟩) (full.length - (k + 1)) (2 * cap + 1 - 2 * (k + 1))) := by
      have hes : Nat.beq ((2 * cap + 1 - 2 * k) % 2) 1 = true := by rw [show (2 * cap + 1 - 2 * k) % 2 = 1 by omega]; rfl
      have h1 : 1 ≤ full.length - k := by omega
      have b1 : A.bound ((2 * cap + 1 - 2 * k) / 2) (none : Option Value) = some none := rfl
      have b2 : A.bound (full.length - k) (some (.int .i64 1)) = some (some 1) := by
       show (bif Nat.ble 1 (full.length - k) then _ else none) = _
       rw [ble_iff.2 h1]; rfl
      simp only [A.sliceS,A.bound,Option.isSome_none,Bool.false_and,cond_false,Option.getD_none]
      rw [show Nat.ble 1 (full.length - k) = true from ble_iff.2 h1]
      simp only [cond_true,Option.getD_some,hes,Bool.true_or,Nat.mul_one]
      congr 2 <;> omega
     obtain ⟨h',hh⟩ : ∃ h',h' = h.put a (.cells [.slice (some ⟨O,k + 1,none⟩) (full.length - (k + 1)) (2 * cap + 1 - 2 * (k + 1))] (some 0)) := ⟨_,rfl⟩
     have st : A.store 1 (.pointer (some ⟨a,0,none⟩)) (.slice (some ⟨O,k + 1,none⟩) (full.length - (k + 1)) (2 * cap + 1 - 2 * (k + 1))) h = some h' := by
      rw [qU,hv,hh]; rfl
     have cv := conv53 b.toNat b.toNat_lt
     refine ⟨h',?_,?_,by rw [hh]; exact ExtBut.put ⟨Nat.le_refl _,fun _ _ _ => rfl⟩ a _ rfl,by rw [hh]; rfl⟩
     · rw [hat]
       simp only [F12,p12a,qV,qZ,qY,Nat.zero_add,l0,hl,zQ,hd,qQ,cond_false,ix,ld,sl,st,cv]
     · rw [hnx]
       exact ⟨hk,by rw [hh]; exact r.ha,_,by rw [hh,H.get_put,if_pos rfl],.inr ⟨cap,cs,own,rfl,hcap,hO,by rw [hh]; exact hOn,by rw [hh,H.get_put,if_neg hO]; exact hg,ht⟩⟩
   · have he : k = full.length := by omega
     have hd : decide (((full.length - k : Nat) : Int) = 0) = true := by rw [decide_eq_true_iff]; omega
     have hat : at8 full k = 0 := by unfold at8; rw [List.getElem?_eq_none_iff.2 (by omega)]; rfl
     have hnx : nx full k = k := by unfold nx; rw [if_neg hk]
     refine ⟨h,?_,by rw [hnx]; exact r,⟨Nat.le_refl _,fun _ _ _ => rfl⟩,rfl⟩
     rw [hat]
     simp only [F12,p12a,qV,qZ,qY,Nat.zero_add,l0,hl,zQ,hd,qQ,cond_true]
     rfl
end
end Go.Proofs.YtfodhidpefednaaGreatDoor.An

namespace Go.Proofs.YtfodhidpefednaaGreatDoor.An
open Go Go.AM
structure Buf (h : H) (v : Value) (q cap : Nat) (es : List UInt8) : Prop where
 eq : v = .slice (some ⟨q,0,none⟩) es.length (2 * cap + 1)
 lt : q < h.next
 le : es.length ≤ cap
 get : ∃ cs,h.get q = some (.cells cs (some 1)) ∧ cs.length = cap ∧ cs.take es.length = es.map u8
theorem Buf.but {S : Nat → Prop} {h h' : H} {v : Value} {q cap : Nat} {es : List UInt8} (b : Buf h v q cap es) (x : ExtBut S h h') (s : ¬ S q) : Buf h' v q cap es := by
 obtain ⟨cs,hg,r⟩ := b.get
 exact ⟨b.eq,Nat.lt_of_lt_of_le b.lt x.next,b.le,cs,by rw [x.get q b.lt s]; exact hg,r⟩
theorem Buf.ext {h h' : H} {v : Value} {q cap : Nat} {es : List UInt8} (b : Buf h v q cap es) (x : Ext h h') : Buf h' v q cap es := b.but (S := fun _ => False) x.but (fun h => h)
theorem Buf.make (h : H) {z : List Value} (hz : z.length = 1) (cap : Nat) (hc : cap ≤ 100000) : ∃ h',A.makeSlice 1 1 z (.int .i64 0) (.int .i64 (cap : Int)) h = some (.slice (some ⟨h.next,0,none⟩) 0 (2 * cap + 1),h') ∧ Buf h' (.slice (some ⟨h.next,0,none⟩) 0 (2 * cap + 1)) h.next cap [] ∧ Ext h h' ∧ h'.next = h.next + 1 := by
 obtain ⟨h',hh⟩ : ∃ h',h' = h.push (.cells (A.zeros z cap) (some 1)) := ⟨_,rfl⟩
 have hl : ∀ n,(A.zeros z n).length = n := fun n => by
  induction n with
  | zero => rfl
  | succ n ih => simp only [A.zeros,List.length_append,hz] at ih ⊢; omega
 refine ⟨h',?_,⟨rfl,by rw [hh]; exact Nat.lt_succ_self _,Nat.zero_le _,_,by rw [hh,H.get_push,if_pos rfl],hl cap,by simp⟩,by rw [hh]; exact Ext.push h _,by rw [hh]; rfl⟩
 have e1 : Nat.ble (1 * cap) (2 ^ 47) = true := ble_iff.2 (by omega)
 have e2 : Nat.ble cap (2 ^ 47) = true := ble_iff.2 (by omega)
 show (bif Nat.ble 0 cap && Nat.ble (1 * cap) (2 ^ 47) && Nat.ble cap (2 ^ 47) then some (Value.slice (some ⟨h.next,0,none⟩) 0 (2 * cap + 1),h.push (.cells (A.zeros z cap) (some 1))) else none) = _
 rw [e1,e2,← hh,show Nat.ble 0 cap = true from ble_iff.2 (Nat.zero_le _)]; rfl
theorem Buf.app {h : H} {v x : Value} {q cap : Nat} {es new : List UInt8} (b : Buf h v q cap es) (he : A.elems 1 x h = some (new.map u8)) (hn : A.lenOf x = new.length) (hc : es.length + new.length ≤ cap) :
 ∃ v' h',A.append 1 1 v x h = some (v',h') ∧ Buf h' v' q cap (es ++ new) ∧ ExtBut (fun i => i = q) h h' ∧ h'.next = h.next := by
 obtain ⟨cs,hg,hl,ht⟩ := b.get
 rw [b.eq]
 by_cases h0 : new = []
 · subst h0
   have : A.append 1 1 (.slice (some ⟨q,0,none⟩) es.length (2 * cap + 1)) x h = some (.slice (some ⟨q,0,none⟩) es.length (2 * cap + 1),h) := by
    simp only [A.append,he,hn]; rfl
   exact ⟨_,h,this,by rw [List.append_nil,← b.eq]; exact b,⟨Nat.le_refl _,fun _ _ _ => rfl⟩,rfl⟩
 · have hpos : 0 < new.length := List.length_pos_iff.2 h0
   have e0 : Nat.beq new.length 0 = false := by rw [T.beq_dec,decide_eq_false_iff_not]; omega
   have e1 : Nat.ble (es.length + new.length) ((2 * cap + 1) / 2) = true := ble_iff.2 (by omega)
   have e2 : Nat.ble (0 + (es.length + new.length) * 1) cs.length = true := ble_iff.2 (by omega)
   obtain ⟨h',hh⟩ : ∃ h',h' = h.put q (.cells (splice cs (0 + es.length * 1) (new.map u8)) (some 1)) := ⟨_,rfl⟩
   refine ⟨.slice (some ⟨q,0,none⟩) (es ++ new).length (2 * cap + 1),h',?_,⟨rfl,by rw [hh]; exact b.lt,by rw [List.length_append]; exact hc,_,by rw [hh,H.get_put,if_pos rfl],?_,?_⟩,by rw [hh]; exact ExtBut.put ⟨Nat.le_refl _,fun _ _ _ => rfl⟩ q _ rfl,by rw [hh]; rfl⟩
   · simp only [A.append,he,hn,e0,cond_false,hg,e1,cond_true,e2,List.length_append]
     rw [← hh]
   · rw [splice_length]; exact hl
     simp only [List.length_map]; omega
   · have hle : es.length ≤ cs.length := by omega
     simp only [splice,Nat.zero_add,Nat.mul_one]
     rw [List.take_append_of_le_length (by simp only [List.length_append,List.length_take,List.length_map]; omega),List.map_append,ht]
     rw [List.take_of_length_le (by simp)]
theorem elems_str (l : List UInt8) (h : H) : A.elems 1 (str l) h = some (l.map u8) := rfl
theorem lenOf_str (l : List UInt8) : A.lenOf (str l) = l.length := rfl
theorem Buf.b2s {h : H} {v : Value} {q cap : Nat} {es : List UInt8} (b : Buf h v q cap es) : A.b2s v h = some (str es) := by
 obtain ⟨cs,hg,hl,ht⟩ := b.get
 have hle := b.le
 have he : A.elems 1 v h = some (es.map u8) := by
  rw [b.eq]
  simp only [A.elems]
  by_cases h0 : es.length = 0
  · have : es = [] := List.length_eq_zero_iff.1 h0
    subst this
    rfl
  · rw [show Nat.beq es.length 0 = false by rw [T.beq_dec,decide_eq_false_iff_not]; exact h0]
    simp only [cond_false,hg]
    rw [show Nat.ble (0 + es.length * 1) cs.length = true from ble_iff.2 (by omega)]
    simp only [cond_true,List.drop_zero,Nat.mul_one,ht]
 rw [b.eq] at he ⊢
 simp only [A.b2s,he,toBytes_u8]; rfl
theorem lit1 (h : H) {z : List Value} (hz : z.length = 1) (a : Int) (b : UInt8) (ha : a = (b.toNat : Int)) : ∃ h',A.buildSlice 1 1 z [(0,1,.int .u8 a)] h = some (.slice (some ⟨h.next,0,none⟩) 1 3,h') ∧ A.elems 1 (.slice (some ⟨h.next,0,none⟩) 1 3) h' = some ([b].map u8) ∧ Ext h h' ∧ h'.next = h.next + 1 := by
 subst ha
 obtain ⟨h',hh⟩ : ∃ h',h' = h.push (.cells [u8 b] (some 1)) := ⟨_,rfl⟩
 refine ⟨h',by rw [hh]; exact buildSlice_one h hz rfl rfl,?_,by rw [hh]; exact Ext.push h _,by rw [hh]; rfl⟩
 have hg : h'.get h.next = some (.cells [u8 b] (some 1)) := by rw [hh,H.get_push,if_pos rfl]
 simp only [A.elems,hg]; rfl
end Go.Proofs.YtfodhidpefednaaGreatDoor.An

namespace Go.Proofs.YtfodhidpefednaaGreatDoor.An
open Tryz (prog)
open Go Go.AM AnA AnB
theorem qB {Q : Orc} {f : Nat} {args : List Value} {v : Value} (hq : Q f args = some v) (n : Nat) (h : H) : callO prog 4 Q (n + 1) f args h = some (v,h) := by
 simp only [callO,hq]
def clients : List (List UInt8) := [[120],[121],[122],[]]
def names : List (List UInt8) := [[97],[97,47,98],[98],[97,47,119],[36,115,47,120],[99]]
def filters : List (List UInt8) := [[97],[97,47,43],[35],[43,47,98],[97,47,35],[98],[36,115,47,35],[43]]
def texts : List (List UInt8) := [[77,81,84,84],[119]] ++ clients ++ names ++ filters
theorem texts_small : ∀ s ∈ texts,s.length ≤ 4 := by decide
def fieldB (s : List UInt8) : List UInt8 := [0,UInt8.ofNat s.length] ++ s
def wordB (n : Nat) : List UInt8 := [0,UInt8.ofNat n]
theorem fieldB_len (s : List UInt8) : (fieldB s).length = 2 + s.length := by simp [fieldB]; omega
structure Kn (Q : Orc) : Prop where
 fr : Free Q
 pd : ∀ s ∈ texts,Q 157 [str s] = some (.tuple ⟨[str (fieldB s),.int .i64 0]⟩)
 va : ∀ s ∈ clients,Q 77 [str s] = some (.bool true)
 nm : ∀ s ∈ names,Q 78 [str s] = some (.bool true)
 fi : ∀ s ∈ filters,Q 79 [str s] = some (.bool true)
 ln : ∀ n : Nat,n < 128 → Q 98 [.int .i64 (n : Int)] = some (.tuple ⟨[str [UInt8.ofNat n],.int .i64 0]⟩)
 sz : ∀ n : Nat,n < 128 → Q 126 [.int .i64 (n : Int)] = some (.int .i64 1)
section
variable {Q : Orc} (kn : Kn Q) {h : H}
include kn
theorem T112 (k : Nat) (b : Bool) {n : Nat} (hn : n < 8) : callO prog 4 Q (k + 1) 127 [.bool b,.int .u64 (n : Int)] h = some (.int .u8 ((if b then 2 ^ n else 0 : Nat) : Int),h) := by
 rw [F127eq Q k _ _ h (kn.fr 127 _ (by decide))]
 have sh : A.bin prog .shl 5 (.int .u8 1) (.int .u64 (n : Int)) = some (.int .u8 ((2 ^ n : Nat) : Int)) := by
  have all : ((List.range 8).all fun m => match A.bin prog .shl 5 (.int .u8 1) (.int .u64 (m : Int)) with | some v => AM.same v (.int .u8 ((2 ^ m : Nat) : Int)) | none => false) = true := by kernel_rfl
  have := List.all_eq_true.1 all n (List.mem_range.2 hn)
  split at this
  · rename_i v hv
    rw [hv,same_eq _ _ this]
  · cases this
 cases b with
 | true => simp only [F127,p127a,qQ,cond_true,sh,qZ,if_true]
 | false => simp only [F127,p127a,qQ,cond_false]; rfl
theorem T114 (k : Nat) {v : Value} {q cap : Nat} {es s : List UInt8} (b : Buf h v q cap es) (hs : s ∈ texts) (hc : es.length + (2 + s.length) ≤ cap) :
 ∃ v' h',callO prog 4 Q (k + 2) 129 [v,str s] h = some (v',h') ∧ Buf h' v' q cap (es ++ fieldB s) ∧ ExtBut (fun i => i = q) h h' ∧ h'.next = h.next := by
 rw [F129eq Q (k + 1) _ _ h (kn.fr 129 _ (by decide))]
 have e144 := qB (kn.pd s hs) k h
 have t0 : A.extract 0 (.tuple ⟨[str (fieldB s),.int .i64 0]⟩) = some (str (fieldB s)) := rfl
 have t1 : A.extract 1 (.tuple ⟨[str (fieldB s),.int .i64 0]⟩) = some (.int .i64 0) := rfl
 obtain ⟨v',h',e,b',x,n⟩ := b.app (elems_str (fieldB s) h) (lenOf_str _) (by rw [fieldB_len]; exact hc)
 refine ⟨v',h',?_,b',x,n⟩
 simp only [F129,p129a,e144,qX,t0,t1,qZ,e]
theorem lit2 (h : H) {z : List Value} (hz : z.length = 1) (a b : Int) (a' b' : UInt8) (ha : a = (a'.toNat : Int)) (hb : b = (b'.toNat : Int)) :
 ∃ h',A.buildSlice 1 2 z [(0,1,.int .u8 a),(1,1,.int .u8 b)] h = some (.slice (some ⟨h.next,0,none⟩) 2 5,h') ∧ A.elems 1 (.slice (some ⟨h.next,0,none⟩) 2 5) h' = some ([a',b'].map u8) ∧ Ext h h' ∧ h'.next = h.next + 1 := by
 have _ := kn
 subst ha; subst hb
 obtain ⟨h',hh⟩ : ∃ h',h' = h.push (.cells [u8 a',u8 b'] (some 1)) := ⟨_,rfl⟩
 have hg : h'.get h.next = some (.cells [u8 a',u8 b'] (some 1)) := by rw [hh,H.get_push,if_pos rfl]
 refine ⟨h',?_,?_,by rw [hh]; exact Ext.push h _,by rw [hh]; rfl⟩
 · match z,hz with
   | [z0],_ => rw [hh]; rfl
 · simp only [A.elems,hg]; rfl
theorem T145 (k : Nat) {n : Nat} (hn : n < 256) {x : Value} (sx : SliceE 1 h x [[.int .i64 (n : Int)]]) : ∃ h',callO prog 4 Q (k + 3) 158 [x] h = some (.tuple ⟨[str (wordB n),.int .i64 0]⟩,h') ∧ Ext h h' := by
 rw [F158eq Q (k + 2) _ h (kn.fr 158 _ (by decide))]
 have hl : A.lenS x = some (.int .i64 1) := sx.len.1
 obtain ⟨h1,e1,b1,x1,n1⟩ := Buf.make h (z := AnA.Z5L) rfl 2 (by omega)
 have e1 : A.makeSlice 1 1 AnA.Z5L (.int .i64 0) (.int .i64 2) h = some (.slice (some ⟨h.next,0,none⟩) 0 (2 * 2 + 1),h1) := e1
 obtain ⟨id,off,cells,own,ix,_,hg,_,_,hc⟩ := (sx.ext x1).at (i := 0) (e := [.int .i64 (n : Int)]) rfl .i64
 have ix : A.idxS 1 x (.int .i64 0) = some (.pointer (some ⟨id,off,none⟩)) := ix
 have ld : A.load false 1 (.pointer (some ⟨id,off,none⟩)) h1 = some (.int .i64 (n : Int)) := by
  rw [qK,hg]
  have := hc 0 (by omega)
  simpa using this
 have w2 : A.bin prog .mul 3 (.int .i64 2) (.int .i64 1) = some (.int .i64 2) := by kernel_rfl
 have d1 : decide ((n : Int) < 0) = false := by rw [decide_eq_false_iff_not]; omega
 have d2 : decide ((65535 : Int) < (n : Int)) = false := by rw [decide_eq_false_iff_not]; omega
 have c1 : decide ((0 : Int) < 1) = true := rfl
 have c2 : decide ((1 : Int) < 1) = false := rfl
 have sh : A.bin prog .shr 3 (.int .i64 (n : Int)) (.int .u64 8) = some (.int .i64 0) := by
  have : ∀ m : Fin 256,A.bin prog .shr 3 (.int .i64 ((m.val : Nat) : Int)) (.int .u64 8) = some (.int .i64 0) := by
   have all : ((List.range 256).all fun m => match A.bin prog .shr 3 (.int .i64 (m : Int)) (.int .u64 8) with | some v => AM.same v (.int .i64 0) | none => false) = true := by kernel_rfl
   intro m
   have := List.all_eq_true.1 all m.val (List.mem_range.2 m.isLt)
   split at this
   · rename_i v hv
     rw [hv,same_eq _ _ this]
   · cases this
  exact this ⟨n,hn⟩
 have cv0 : A.conv prog 3 5 (.int .i64 0) = some (.int .u8 0) := by kernel_rfl
 have cvn : A.conv prog 3 5 (.int .i64 (n : Int)) = some (.int .u8 (n : Int)) := by
  have u5 : prog.underlying 5 = some (.int .u8) := Tryz.underlying5
  have u3 : prog.underlying 3 = some (.int .i64) := Tryz.underlying3
  simp only [A.conv,u5,u3]
  have : IntKind.u8.wrap (n : Int) = (n : Int) := by
   have e : IntKind.u8.wrap (n : Int) = (n : Int) % 256 := rfl
   rw [e]; omega
  rw [this]
 obtain ⟨h2,e2,el2,x2,n2⟩ := lit2 kn h1 (z := AnA.Z5L) rfl 0 (n : Int) 0 (UInt8.ofNat n) rfl (by rw [UInt8.toNat_ofNat',Nat.mod_eq_of_lt hn])
 obtain ⟨v3,h3,e3,b3,x3,n3⟩ := (b1.ext x2).app (new := [0,UInt8.ofNat n]) el2 rfl (by simp)
 have eb := b3.b2s
 refine ⟨h3,?_,?_⟩
 · simp only [F158,p158a,parP,parQ,hl,qZ,w2,e1,qX,paeC,parR,paeU,panA,pafT,parS,zZ,c1,parT,qW,cond_true,parU,ix,ld,d1,qQ,cond_false,zY,d2,sh,cv0,cvn,e2,e3,parV,bin_add]
   have w1 : IntKind.i64.wrap ((0 : Int) + 1) = 1 := rfl
   simp only [w1,c2,cond_false,parW,eb,qZ]
   rfl
 · refine ⟨by rw [n3]; exact Nat.le_trans x1.next x2.next,fun q hq => ?_⟩
   rw [x3.get q (by have := x1.next; have := x2.next; omega) (by omega),x2.get q (by have := x1.next; omega),x1.get q hq]
end
end Go.Proofs.YtfodhidpefednaaGreatDoor.An

namespace Go.Proofs.YtfodhidpefednaaGreatDoor.An
open Tryz (prog)
open Go Go.AM AnA AnB
structure Pk where
 kind : Nat
 dup : Bool
 qos : Nat
 retain : Bool
 id : Nat
 topic : List UInt8
 payload : List UInt8
 level : Nat
 clean : Bool
 keep : Nat
 client : List UInt8
 will : Bool
 wt : List UInt8
 wp : List UInt8
 wq : Nat
def Pk.cells (p : Pk) (w : Value) : List Value := [.int .u8 (p.kind : Int),.bool p.dup,.int .u8 (p.qos : Int),.bool p.retain,.int .u16 (p.id : Int),str p.topic,str p.payload,.int .u8 (p.level : Int),.bool p.clean,.int .u16 (p.keep : Int),str p.client,.bool p.will,str p.wt,str p.wp,.int .u8 (p.wq : Int),.bool false,.bool false,.bool false,str [],str [],.bool false,.int .u8 0,w,str []]
def Bx (h : H) (t : Nat) (p : Pk) (w : Value) : Prop := h.get t = some (.cells (p.cells w) (some 0)) ∧ t < h.next
theorem Bx.ld {h : H} {t : Nat} {p : Pk} {w : Value} (b : Bx h t p w) {i : Nat} {v : Value} (hv : (p.cells w)[i]? = some v) : A.load false 1 (.pointer (some ⟨t,i,none⟩)) h = some v := by
 rw [qK,b.1]; exact hv
theorem Bx.all {h : H} {t : Nat} {p : Pk} {w : Value} (b : Bx h t p w) : A.load true 24 (ptrV t) h = some (.agg ⟨p.cells w⟩) := by
 rw [loadN_eq,b.1]; rfl
theorem Bx.but {S : Nat → Prop} {h h' : H} {t : Nat} {p : Pk} {w : Value} (b : Bx h t p w) (x : ExtBut S h h') (s : ¬ S t) : Bx h' t p w := ⟨by rw [x.get t b.2 s]; exact b.1,Nat.lt_of_lt_of_le b.2 x.next⟩
theorem Bx.ext {h h' : H} {t : Nat} {p : Pk} {w : Value} (b : Bx h t p w) (x : Ext h h') : Bx h' t p w := b.but (S := fun _ => False) x.but (fun h => h)
theorem box_pk (p : Pk) {w : Value} (hw : cellsL w = some [w]) (h : H) : ∃ h',A.box 24 (.agg ⟨p.cells w⟩) h = some (ptrV h.next,h') ∧ Bx h' h.next p w ∧ Ext h h' ∧ h'.next = h.next + 1 := by
 obtain ⟨h',hh⟩ : ∃ h',h' = h.push (.cells (p.cells w) (some 0)) := ⟨_,rfl⟩
 refine ⟨h',?_,⟨by rw [hh,H.get_push,if_pos rfl],by rw [hh]; exact Nat.lt_succ_self _⟩,by rw [hh]; exact Ext.push h _,by rw [hh]; rfl⟩
 rw [box_eq,hh]; rfl
theorem chk1 {v : Value} (hv : AM.same v v = true) : chk (some v) v = true := hv
theorem chk_u8 (n : Int) : chk (some (.int .u8 n)) (.int .u8 n) = true := chk1 (by simp [AM.same])
theorem chk_b (b : Bool) : chk (some (.bool b)) (.bool b) = true := chk1 (by cases b <;> rfl)
theorem chk_s (l : List UInt8) : chk (some (str l)) (str l) = true := chk1 (by simp [AM.same])
section
variable {Q : Orc} (kn : Kn Q) {h : H}
include kn
theorem T115 (k : Nat) {v : Value} {q cap : Nat} {es : List UInt8} {n : Nat} (b : Buf h v q cap es) (hn : n < 256) (hc : es.length + 2 ≤ cap) :
 ∃ v' h',callO prog 4 Q (k + 4) 130 [v,.int .u16 (n : Int)] h = some (v',h') ∧ Buf h' v' q cap (es ++ wordB n) ∧ ExtBut (fun i => i = q) h h' := by
 rw [F130eq Q (k + 3) _ _ h (kn.fr 130 _ (by decide))]
 have cv : A.conv prog 34 3 (.int .u16 (n : Int)) = some (.int .i64 (n : Int)) := by
  have u5 : prog.underlying 34 = some (.int .u16) := Tryz.underlying34
  have u3 : prog.underlying 3 = some (.int .i64) := Tryz.underlying3
  simp only [A.conv,u5,u3]
  rw [wrap64 (by omega) (by omega)]
 obtain ⟨h1,hh1⟩ : ∃ h1,h1 = h.push (.cells [.int .i64 (n : Int)] (some 1)) := ⟨_,rfl⟩
 have e1 : A.buildSlice 1 1 AnA.Z3L [(0,1,.int .i64 (n : Int))] h = some (.slice (some ⟨h.next,0,none⟩) 1 3,h1) := by
  rw [hh1]; exact buildSlice_one h rfl rfl rfl
 have x1 : Ext h h1 := by rw [hh1]; exact Ext.push h _
 have s1 : SliceE 1 h1 (.slice (some ⟨h.next,0,none⟩) 1 3) [[.int .i64 (n : Int)]] := by rw [hh1]; exact slice_one rfl
 obtain ⟨h2,e2,x2⟩ := T145 kn k hn s1
 obtain ⟨v',h',e3,b3,x3,_⟩ := ((b.ext x1).ext x2).app (new := wordB n) (elems_str _ h2) (lenOf_str _) (by simpa [wordB] using hc)
 have t0 : A.extract 0 (.tuple ⟨[str (wordB n),.int .i64 0]⟩) = some (str (wordB n)) := rfl
 have t1 : A.extract 1 (.tuple ⟨[str (wordB n),.int .i64 0]⟩) = some (.int .i64 0) := rfl
 refine ⟨v',h',?_,b3,((x1.trans x2).but).trans x3⟩
 simp only [F130,p130a,cv,qZ,e1,qX,e2,t0,t1,e3]
def flagsN (p : Pk) : Nat := if p.kind = 3 then (if p.dup then 8 else 0) + 2 * p.qos + (if p.retain then 1 else 0) else if p.kind = 6 ∨ p.kind = 8 ∨ p.kind = 10 then 2 else 0
omit kn in
theorem bits3 (d r : Bool) {q : Nat} (hq : q ≤ 2) : A.bin prog .shl 5 (.int .u8 (q : Int)) (.int .u64 1) = some (.int .u8 ((2 * q : Nat) : Int)) ∧ A.bin prog .or 5 (.int .u8 ((if d then 2 ^ 3 else 0 : Nat) : Int)) (.int .u8 ((2 * q : Nat) : Int)) = some (.int .u8 (((if d then 8 else 0) + 2 * q : Nat) : Int)) ∧
 A.bin prog .or 5 (.int .u8 (((if d then 8 else 0) + 2 * q : Nat) : Int)) (.int .u8 ((if r then 2 ^ 0 else 0 : Nat) : Int)) = some (.int .u8 (((if d then 8 else 0) + 2 * q + (if r then 1 else 0) : Nat) : Int)) := by
 have h3 : q = 0 ∨ q = 1 ∨ q = 2 := by omega
 rcases h3 with rfl | rfl | rfl <;> cases d <;> cases r <;> refine ⟨?_,?_,?_⟩ <;> kernel_rfl
theorem T86 (k : Nat) (p : Pk) {w : Value} (hw : cellsL w = some [w]) (hq : p.qos ≤ 2) : ∃ h',callO prog 4 Q (k + 2) 99 [.agg ⟨p.cells w⟩] h = some (.int .u8 (flagsN p : Int),h') ∧ Ext h h' := by
 rw [F99eq Q (k + 1) _ h (kn.fr 99 _ (by decide))]
 obtain ⟨h1,e1,b1,x1,_⟩ := box_pk p hw h
 have l0 := b1.ld (i := 0) rfl
 have l1 := b1.ld (i := 1) rfl
 have l2 := b1.ld (i := 2) rfl
 have l3 := b1.ld (i := 3) rfl
 refine ⟨h1,?_,x1⟩
 by_cases h3 : p.kind = 3
 · have d3 : decide ((p.kind : Int) = 3) = true := by rw [decide_eq_true_iff]; omega
   obtain ⟨o1,o2,o3⟩ := bits3 p.dup p.retain hq
   have c1 := T112 kn (h := h1) k p.dup (n := 3) (by omega)
   have c2 := T112 kn (h := h1) k p.retain (n := 0) (by omega)
   have c1 : callO prog 4 Q (k + 1) 127 [.bool p.dup,.int .u64 3] h1 = _ := c1
   have c2 : callO prog 4 Q (k + 1) 127 [.bool p.retain,.int .u64 0] h1 = _ := c2
   have hf : flagsN p = (if p.dup then 8 else 0) + 2 * p.qos + (if p.retain then 1 else 0) := if_pos h3
   rw [hf]
   simp only [F99,p99a,pakS,e1,qX,padB,pakT,qY,Nat.zero_add,qZ,l0,padV,pakU,zQ,d3,qQ,paeZ,qW,cond_true,pavA,l1,c1,l2,chk_u8,Bool.and_true,o1,o2,l3,chk_b,c2,o3]
 · have d3 : decide ((p.kind : Int) = 3) = false := by rw [decide_eq_false_iff_not]; omega
   have hf : flagsN p = if p.kind = 6 ∨ p.kind = 8 ∨ p.kind = 10 then 2 else 0 := if_neg h3
   rw [hf]
   by_cases h6 : p.kind = 6
   · have d6 : decide ((p.kind : Int) = 6) = true := by rw [decide_eq_true_iff]; omega
     rw [if_pos (.inl h6)]
     simp only [F99,p99a,pakS,e1,qX,padB,pakT,qY,Nat.zero_add,qZ,l0,padV,pakU,zQ,d3,qQ,paeZ,qW,cond_false,pagO,pamP,d6,cond_true,pamQ]
     rfl
   have d6 : decide ((p.kind : Int) = 6) = false := by rw [decide_eq_false_iff_not]; omega
   by_cases h8 : p.kind = 8
   · have d8 : decide ((p.kind : Int) = 8) = true := by rw [decide_eq_true_iff]; omega
     rw [if_pos (.inr (.inl h8))]
     simp only [F99,p99a,pakS,e1,qX,padB,pakT,qY,Nat.zero_add,qZ,l0,padV,pakU,zQ,d3,qQ,paeZ,qW,cond_false,pagO,pamP,d6,d8,cond_true,pamQ]
     rfl
   have d8 : decide ((p.kind : Int) = 8) = false := by rw [decide_eq_false_iff_not]; omega
   by_cases h10 : p.kind = 10
   · have d10 : decide ((p.kind : Int) = 10) = true := by rw [decide_eq_true_iff]; omega
     rw [if_pos (.inr (.inr h10))]
     simp only [F99,p99a,pakS,e1,qX,padB,pakT,qY,Nat.zero_add,qZ,l0,padV,pakU,zQ,d3,qQ,paeZ,qW,cond_false,pagO,pamP,d6,d8,d10,cond_true,pamQ]
     rfl
   have d10 : decide ((p.kind : Int) = 10) = false := by rw [decide_eq_false_iff_not]; omega
   rw [if_neg (by omega)]
   simp only [F99,p99a,pakS,e1,qX,padB,pakT,qY,Nat.zero_add,qZ,l0,padV,pakU,zQ,d3,qQ,paeZ,qW,cond_false,pagO,pamP,d6,d8,d10,pamQ,pavB]
   rfl
end
end Go.Proofs.YtfodhidpefednaaGreatDoor.An

namespace Go.Proofs.YtfodhidpefednaaGreatDoor.An
open Tryz (prog)
open Go Go.AM AnA AnB
def cfN (p : Pk) : Nat := 8 * p.wq + (if p.will then 4 else 0) + (if p.clean then 2 else 0)
def connB (p : Pk) : List UInt8 := fieldB [77,81,84,84] ++ [UInt8.ofNat p.level,UInt8.ofNat (cfN p)] ++ wordB p.keep ++ fieldB p.client ++ (if p.will then fieldB p.wt ++ fieldB p.wp else [])
theorem bitsC (wl cl : Bool) {q : Nat} (hq : q ≤ 2) : A.bin prog .shl 5 (.int .u8 (q : Int)) (.int .u64 3) = some (.int .u8 ((8 * q : Nat) : Int)) ∧ A.bin prog .or 5 (.int .u8 0) (.int .u8 ((8 * q : Nat) : Int)) = some (.int .u8 ((8 * q : Nat) : Int)) ∧
 A.bin prog .or 5 (.int .u8 ((8 * q : Nat) : Int)) (.int .u8 ((if wl then 2 ^ 2 else 0 : Nat) : Int)) = some (.int .u8 ((8 * q + (if wl then 4 else 0) : Nat) : Int)) ∧
 A.bin prog .or 5 (.int .u8 ((8 * q + (if wl then 4 else 0) : Nat) : Int)) (.int .u8 ((if cl then 2 ^ 1 else 0 : Nat) : Int)) = some (.int .u8 ((8 * q + (if wl then 4 else 0) + (if cl then 2 else 0) : Nat) : Int)) := by
 have h3 : q = 0 ∨ q = 1 ∨ q = 2 := by omega
 rcases h3 with rfl | rfl | rfl <;> cases wl <;> cases cl <;> refine ⟨?_,?_,?_,?_⟩ <;> kernel_rfl
theorem or00 : A.bin prog .or 5 (.int .u8 0) (.int .u8 0) = some (.int .u8 0) := by kernel_rfl
theorem cf_lt {p : Pk} (hq : p.wq ≤ 2) : cfN p < 256 := by unfold cfN; split <;> split <;> omega
theorem ofNat_int {n : Nat} (hn : n < 256) : (n : Int) = ((UInt8.ofNat n).toNat : Int) := by rw [UInt8.toNat_ofNat',Nat.mod_eq_of_lt hn]
section
variable {Q : Orc} (kn : Kn Q) {h : H}
include kn
theorem T113 (k : Nat) (p : Pk) {w : Value} (hw : cellsL w = some [w]) {v : Value} {q cap : Nat} {es : List UInt8} (b : Buf h v q cap es) (hl : p.level < 256) (hk : p.keep < 256) (hq : p.wq ≤ 2) (hc : p.client ∈ texts) (hwl : p.will = true → p.wt ∈ texts ∧ p.wp ∈ texts) (hcap : es.length + (connB p).length ≤ cap) :
 ∃ v' h',callO prog 4 Q (k + 5) 128 [v,.agg ⟨p.cells w⟩] h = some (v',h') ∧ Buf h' v' q cap (es ++ connB p) ∧ ExtBut (fun i => i = q) h h' := by
 rw [F128eq Q (k + 4) _ _ h (kn.fr 128 _ (by decide))]
 have hlen : (connB p).length = 6 + 2 + 2 + (2 + p.client.length) + (if p.will then (2 + p.wt.length) + (2 + p.wp.length) else 0) := by
  unfold connB
  cases p.will <;> simp [fieldB_len,wordB] <;> omega
 obtain ⟨h1,e1,bx1,x1,n1⟩ := box_pk p hw h
 have hqn := b.lt
 have htq : h.next ≠ q := by omega
 obtain ⟨v2,h2,e2,b2,y2,_⟩ := T114 kn (k + 2) (b.ext x1) (s := [77,81,84,84]) (by decide) (by simp only [List.length_cons,List.length_nil]; omega)
 have bx2 := bx1.but y2 htq
 have l7 := bx2.ld (i := 7) rfl
 have l16 := bx2.ld (i := 16) rfl
 have l17 := bx2.ld (i := 17) rfl
 have l15 := bx2.ld (i := 15) rfl
 have l14 := bx2.ld (i := 14) rfl
 have l11 := bx2.ld (i := 11) rfl
 have l8 := bx2.ld (i := 8) rfl
 have c7 : callO prog 4 Q (k + 4) 127 [.bool false,.int .u64 7] h2 = some (.int .u8 0,h2) := T112 kn (k + 3) false (n := 7) (by omega)
 have c6 : callO prog 4 Q (k + 4) 127 [.bool false,.int .u64 6] h2 = some (.int .u8 0,h2) := T112 kn (k + 3) false (n := 6) (by omega)
 have c5 : callO prog 4 Q (k + 4) 127 [.bool false,.int .u64 5] h2 = some (.int .u8 0,h2) := T112 kn (k + 3) false (n := 5) (by omega)
 have c2 : callO prog 4 Q (k + 4) 127 [.bool p.will,.int .u64 2] h2 = _ := T112 kn (k + 3) p.will (n := 2) (by omega)
 have c1 : callO prog 4 Q (k + 4) 127 [.bool p.clean,.int .u64 1] h2 = _ := T112 kn (k + 3) p.clean (n := 1) (by omega)
 obtain ⟨s3,o1,o2,o3⟩ := bitsC p.will p.clean hq
 obtain ⟨h3,e3,el3,x3,n3⟩ := lit2 kn h2 (z := AnA.Z5L) rfl (p.level : Int) (cfN p : Int) _ _ (ofNat_int hl) (ofNat_int (cf_lt hq))
 have e3 : A.buildSlice 1 2 AnA.Z5L [(0,1,.int .u8 (p.level : Int)),(1,1,.int .u8 ((8 * p.wq + (if p.will then 4 else 0) + (if p.clean then 2 else 0) : Nat) : Int))] h2 = _ := e3
 obtain ⟨v4,h4,e4,b4,y4,_⟩ := (b2.ext x3).app (new := [UInt8.ofNat p.level,UInt8.ofNat (cfN p)]) el3 rfl (by simp only [List.length_append,fieldB_len,List.length_cons,List.length_nil]; omega)
 have bx4 := (bx2.ext x3).but y4 htq
 have m9 := bx4.ld (i := 9) rfl
 have m10 := bx4.ld (i := 10) rfl
 obtain ⟨v5,h5,e5,b5,y5⟩ := T115 kn k b4 hk (by simp only [List.length_append,fieldB_len,List.length_cons,List.length_nil]; omega)
 have bx5 := bx4.but y5 htq
 have n10 := bx5.ld (i := 10) rfl
 obtain ⟨v6,h6,e6,b6,y6,_⟩ := T114 kn (k + 2) b5 hc (by simp only [List.length_append,fieldB_len,List.length_cons,List.length_nil,wordB]; omega)
 have bx6 := bx5.but y6 htq
 have r11 := bx6.ld (i := 11) rfl
 have y16 : ExtBut (fun i => i = q) h h6 := (((((x1.but).trans y2).trans x3.but).trans y4).trans y5).trans y6
 cases hwil : p.will with
 | false =>
  have r16 := bx6.ld (i := 16) rfl
  have r17 := bx6.ld (i := 17) rfl
  rw [hwil] at r11 l11 c2 o2 o3 e3
  refine ⟨v6,h6,?_,?_,y16⟩
  · simp only [F128,p128a,paoD,e1,qX,paoE,e2,paoF,qY,Nat.zero_add,Nat.add_zero,Nat.reduceAdd,qZ,l7,l16,qQ,c7,chk_u8,Bool.and_true,cond_true,l17,chk_b,c6,or00,l15,c5,l14,s3,o1,l11,c2,o2,l8,c1,o3,e3,e4,paoG,m9,e5,m10,n10,chk_s,e6,paoH,r11,cond_false,paoI,r16,r17]
  · have : es ++ connB p = es ++ fieldB [77,81,84,84] ++ [UInt8.ofNat p.level,UInt8.ofNat (cfN p)] ++ wordB p.keep ++ fieldB p.client := by
     unfold connB; rw [hwil]; simp
    rw [this]; exact b6
 | true =>
  obtain ⟨ht,hp⟩ := hwl hwil
  rw [hwil] at hlen
  simp only [if_true] at hlen
  have r12 := bx6.ld (i := 12) rfl
  obtain ⟨v7,h7,e7,b7,y7,_⟩ := T114 kn (k + 2) b6 ht (by simp only [List.length_append,fieldB_len,List.length_cons,List.length_nil,wordB]; omega)
  have bx7 := bx6.but y7 htq
  have r13 := bx6.ld (i := 13) rfl
  have q13 := bx7.ld (i := 13) rfl
  obtain ⟨v8,h8,e8,b8,y8,_⟩ := T114 kn (k + 2) b7 hp (by simp only [List.length_append,fieldB_len,List.length_cons,List.length_nil,wordB]; omega)
  have bx8 := bx7.but y8 htq
  have r16 := bx8.ld (i := 16) rfl
  have r17 := bx8.ld (i := 17) rfl
  rw [hwil] at r11 l11 c2 o2 o3 e3
  simp only [if_true] at c2 o2 o3 e3
  refine ⟨v8,h8,?_,?_,(y16.trans y7).trans y8⟩
  · simp only [F128,p128a,paoD,e1,qX,paoE,e2,paoF,qY,Nat.zero_add,Nat.add_zero,Nat.reduceAdd,qZ,l7,l16,qQ,c7,chk_u8,Bool.and_true,cond_true,l17,chk_b,c6,or00,l15,c5,l14,s3,o1,l11,c2,o2,l8,c1,o3,e3,e4,paoG,m9,e5,m10,n10,chk_s,e6,paoH,r11,r12,e7,r13,q13,e8,cond_false,paoI,r16,r17]
  · have : es ++ connB p = es ++ fieldB [77,81,84,84] ++ [UInt8.ofNat p.level,UInt8.ofNat (cfN p)] ++ wordB p.keep ++ fieldB p.client ++ fieldB p.wt ++ fieldB p.wp := by
     unfold connB; rw [hwil]; simp
    rw [this]; exact b8
end
end Go.Proofs.YtfodhidpefednaaGreatDoor.An

namespace Go.Proofs.YtfodhidpefednaaGreatDoor.An
open Tryz (prog)
open Go Go.AM AnA AnB
abbrev Sb := List UInt8 × Nat
def sbC (s : Sb) : List Value := [str s.1,.int .u8 (s.2 : Int)]
def subB (kind : Nat) (s : Sb) : List UInt8 := fieldB s.1 ++ (if kind = 8 then [UInt8.ofNat s.2] else [])
def subsB (kind : Nat) (l : List Sb) : List UInt8 := (l.map (subB kind)).flatten
def restB (p : Pk) (l : List Sb) : List UInt8 := if p.kind = 1 then connB p else (if p.kind = 3 then fieldB p.topic else []) ++ (if 0 < p.id then wordB p.id else []) ++ subsB p.kind l ++ p.payload
theorem subsB_cons (kind : Nat) (s : Sb) (l : List Sb) : subsB kind (s :: l) = subB kind s ++ subsB kind l := by simp [subsB]
theorem drop_cons {α : Type} {l : List α} {i : Nat} {x : α} (hx : l[i]? = some x) : l.drop i = x :: l.drop (i + 1) := by
 obtain ⟨hi,rfl⟩ := List.getElem?_eq_some_iff.1 hx
 exact List.drop_eq_getElem_cons hi
theorem load_of {h : H} {id off n : Nat} {cells e : List Value} {own : Option Nat} (e3 : h.get id = some (.cells cells own)) (e4 : off + n ≤ cells.length) (e5 : (cells.drop off).take n = e) : A.load true n (.pointer (some ⟨id,off,none⟩)) h = some (.agg ⟨e⟩) := by
 rw [loadN_eq,e3]
 have : Nat.ble (off + n) cells.length = true := by rw [ble_dec,decide_eq_true_iff]; exact e4
 simp only [this,cond_true,e5]
section
variable {Q : Orc} (kn : Kn Q)
include kn
theorem lp87 (k L : Nat) {β : Type} (kx : Value → Value → H → Option β) {p : Pk} {w : Value} {t q cap : Nat} {l : List Sb} (hl : l.length ≤ 1000) (hs : ∀ s ∈ l,s.1 ∈ texts ∧ s.2 < 256) (htq : t ≠ q) (hsq : sid w ≠ some q) :
 ∀ (d i m : Nat) (h : H) (v : Value) (es : List UInt8),i + d = l.length → d < m → Buf h v q cap es → Bx h t p w → SliceE 2 h w (l.map sbC) → es.length + (subsB p.kind (l.drop i)).length ≤ cap →
  ∃ v' h',pajJ (callO prog 4 Q (k + 2)) L kx m (.int .i64 (l.length : Int)) (.int .i64 (i : Int)) w v (ptrV t) h = kx v' (ptrV t) h' ∧ Buf h' v' q cap (es ++ subsB p.kind (l.drop i)) ∧ ExtBut (fun i => i = q) h h' := by
 intro d
 induction d with
 | zero =>
  intro i m h v es hi hm b bx sl hc
  obtain ⟨m,rfl⟩ : ∃ r,m = r + 1 := ⟨m - 1,by omega⟩
  have hd : decide ((i : Int) < (l.length : Int)) = false := by rw [decide_eq_false_iff_not]; omega
  have hdr : l.drop i = [] := List.drop_eq_nil_of_le (by omega)
  refine ⟨v,h,?_,by rw [hdr]; simpa [subsB] using b,⟨Nat.le_refl _,fun _ _ _ => rfl⟩⟩
  simp only [pajJ,pamU,zZ,hd,qZ,qW,cond_false]
 | succ d ih =>
  intro i m h v es hi hm b bx sl hc
  obtain ⟨m,rfl⟩ : ∃ r,m = r + 1 := ⟨m - 1,by omega⟩
  have hd : decide ((i : Int) < (l.length : Int)) = true := by rw [decide_eq_true_iff]; omega
  have hil : i < l.length := by omega
  obtain ⟨s,hsi⟩ : ∃ s,l[i]? = some s := ⟨l[i],List.getElem?_eq_getElem hil⟩
  obtain ⟨hs1,hs2⟩ := hs s (List.mem_of_getElem? hsi)
  rw [drop_cons hsi,subsB_cons] at hc ⊢
  simp only [List.length_append] at hc
  obtain ⟨id,off,cells,own,ix,_,hg,h4,h5,_⟩ := sl.at (i := i) (e := sbC s) (by rw [List.getElem?_map,hsi]; rfl) .i64
  have ld : A.load true 2 (.pointer (some ⟨id,off,none⟩)) h = some (.agg ⟨sbC s⟩) := load_of hg h4 h5
  obtain ⟨h1,hh1⟩ : ∃ h1,h1 = h.push (.cells AnA.Z120L (some 0)) := ⟨_,rfl⟩
  have e1 : A.box 2 AnA.Z120 h = some (ptrV h.next,h1) := by rw [hh1]; rfl
  obtain ⟨h2,hh2⟩ : ∃ h2,h2 = h1.put h.next (.cells (sbC s) (some 0)) := ⟨_,rfl⟩
  have g1 : h1.get h.next = some (.cells AnA.Z120L (some 0)) := by rw [hh1,H.get_push,if_pos rfl]
  have hcl : cellsL (.agg ⟨sbC s⟩) = some (sbC s) := rfl
  have e2 : A.store 2 (ptrV h.next) (.agg ⟨sbC s⟩) h1 = some h2 := by
   rw [qU,g1,hcl,hh2]; rfl
  have x2 : Ext h h2 := by rw [hh2]; exact (hh1 ▸ Ext.push h _ : Ext h h1).put _ _ (Nat.le_refl _)
  have g2 : h2.get h.next = some (.cells (sbC s) (some 0)) := by rw [hh2,H.get_put,if_pos rfl]
  have n2 : h2.next = h.next + 1 := by rw [hh2,hh1]; rfl
  have l0 : A.load false 1 (.pointer (some ⟨h.next,0,none⟩)) h2 = some (str s.1) := by rw [qK,g2]; rfl
  have hq0 := b.lt
  have hfl := fieldB_len s.1
  have hsb : (subB p.kind s).length = 2 + s.1.length + (if p.kind = 8 then 1 else 0) := by
   unfold subB; rw [List.length_append,hfl]; split <;> rfl
  obtain ⟨v3,h3,e3,b3,y3,n3⟩ := T114 kn k (b.ext x2) hs1 (by omega)
  have bx3 := (bx.ext x2).but y3 htq
  have sl3 : SliceE 2 h3 w (l.map sbC) := (sl.ext x2).extBut y3 fun j hj e => hsq (by rw [hj,e])
  have g3 : h3.get h.next = some (.cells (sbC s) (some 0)) := by rw [y3.get _ (by omega) (by omega)]; exact g2
  have k0 := bx3.ld (i := 0) rfl
  have hwr : IntKind.i64.wrap ((i : Int) + 1) = ((i + 1 : Nat) : Int) := wrap_succ (by omega)
  by_cases h8 : p.kind = 8
  · have d8 : decide ((p.kind : Int) = 8) = true := by rw [decide_eq_true_iff]; omega
    rw [if_pos h8] at hsb
    have l1 : A.load false 1 (.pointer (some ⟨h.next,1,none⟩)) h3 = some (.int .u8 (s.2 : Int)) := by rw [qK,g3]; rfl
    obtain ⟨h4',e4,el4,x4,n4⟩ := lit1 h3 (z := AnA.Z5L) rfl (s.2 : Int) (UInt8.ofNat s.2) (ofNat_int hs2)
    obtain ⟨v5,h5',e5,b5,y5,_⟩ := (b3.ext x4).app (new := [UInt8.ofNat s.2]) el4 rfl (by simp only [List.length_append,hfl,List.length_cons,List.length_nil]; omega)
    have es5 : es ++ fieldB s.1 ++ [UInt8.ofNat s.2] = es ++ subB p.kind s := by unfold subB; rw [if_pos h8,List.append_assoc]
    rw [es5] at b5
    obtain ⟨v',h',e,b',y⟩ := ih (i + 1) m h5' v5 (es ++ subB p.kind s) (by omega) (by omega) b5 ((bx3.ext x4).but y5 htq) ((sl3.ext x4).extBut y5 fun j hj e => hsq (by rw [hj,e])) (by rw [List.length_append]; omega)
    refine ⟨v',h',?_,by rw [← List.append_assoc]; exact b',((((x2.but).trans y3).trans x4.but).trans y5).trans y⟩
    simp only [pajJ,pamU,zZ,hd,qZ,qW,cond_true,ix,ld,e1,qX,e2,qY,Nat.zero_add,l0,e3,k0,zQ,d8,qQ,l1,e4,e5,bin_add,hwr]
    exact e
  · have d8 : decide ((p.kind : Int) = 8) = false := by rw [decide_eq_false_iff_not]; omega
    rw [if_neg h8] at hsb
    have es5 : es ++ fieldB s.1 = es ++ subB p.kind s := by unfold subB; rw [if_neg h8,List.append_nil]
    rw [es5] at b3
    obtain ⟨v',h',e,b',y⟩ := ih (i + 1) m h3 v3 (es ++ subB p.kind s) (by omega) (by omega) b3 bx3 sl3 (by rw [List.length_append]; omega)
    refine ⟨v',h',?_,by rw [← List.append_assoc]; exact b',((x2.but).trans y3).trans y⟩
    simp only [pajJ,pamU,zZ,hd,qZ,qW,cond_true,ix,ld,e1,qX,e2,qY,Nat.zero_add,l0,e3,k0,zQ,d8,qQ,cond_false,bin_add,hwr]
    exact e
variable {h : H}
theorem T87 (k : Nat) (p : Pk) {w : Value} (hw : cellsL w = some [w]) {l : List Sb} (sl : SliceE 2 h w (l.map sbC)) (hll : l.length ≤ 1000) (hs : ∀ s ∈ l,s.1 ∈ texts ∧ s.2 < 256) {v : Value} {q cap : Nat} {es : List UInt8} (b : Buf h v q cap es) (hsq : sid w ≠ some q)
 (h2 : p.kind ≠ 2) (h1 : p.kind = 1 → p.level < 256 ∧ p.keep < 256 ∧ p.wq ≤ 2 ∧ p.client ∈ texts ∧ (p.will = true → p.wt ∈ texts ∧ p.wp ∈ texts)) (h3 : p.kind = 3 → p.topic ∈ texts) (hid : p.id < 256) (hcap : es.length + (restB p l).length ≤ cap) :
 ∃ v' h',callO prog 4 Q (k + 2006) 100 [v,.agg ⟨p.cells w⟩] h = some (v',h') ∧ Buf h' v' q cap (es ++ restB p l) ∧ ExtBut (fun i => i = q) h h' := by
 rw [F100eq Q (k + 2005) _ _ h (kn.fr 100 _ (by decide))]
 obtain ⟨ha,ea,bxa,xa,na⟩ := box_pk p hw h
 have hqn := b.lt
 have htq : h.next ≠ q := by omega
 have l0 := bxa.ld (i := 0) rfl
 by_cases hk1 : p.kind = 1
 · have d1 : decide ((p.kind : Int) = 1) = true := by rw [decide_eq_true_iff]; omega
   obtain ⟨c1,c2,c3,c4,c5⟩ := h1 hk1
   have hr : restB p l = connB p := if_pos hk1
   rw [hr] at hcap ⊢
   obtain ⟨v',h',e,b',y⟩ := T113 kn (k + 2000) p hw (b.ext xa) c1 c2 c3 c4 c5 hcap
   have e : callO prog 4 Q (k + 2005) 128 [v,.agg ⟨p.cells w⟩] ha = _ := e
   refine ⟨v',h',?_,b',xa.but.trans y⟩
   simp only [F100,p100a,panZ,ea,qX,paeG,pamR,qY,Nat.zero_add,qZ,l0,pafJ,pamS,zQ,d1,qQ,pahF,qW,cond_true,paqT,bxa.all,e]
 have d1 : decide ((p.kind : Int) = 1) = false := by rw [decide_eq_false_iff_not]; omega
 have d2 : decide ((p.kind : Int) = 2) = false := by rw [decide_eq_false_iff_not]; omega
 have hr : restB p l = (if p.kind = 3 then fieldB p.topic else []) ++ (if 0 < p.id then wordB p.id else []) ++ subsB p.kind l ++ p.payload := if_neg hk1
 rw [hr] at hcap ⊢
 simp only [List.length_append] at hcap
 have step1 : ∃ vb hb,paeG (callO prog 4 Q (k + 2005)) (k + 2005) v (ptrV h.next) ha (fun x4 h => some (x4,h)) (fun x0 x3 h => padY (callO prog 4 Q (k + 2005)) (k + 2005) x0 x3 h (fun x4 h => some (x4,h))) = padY (callO prog 4 Q (k + 2005)) (k + 2005) vb (ptrV h.next) hb (fun x4 h => some (x4,h)) ∧
  Buf hb vb q cap (es ++ (if p.kind = 3 then fieldB p.topic else [])) ∧ ExtBut (fun i => i = q) ha hb := by
  by_cases hk3 : p.kind = 3
  · have d3 : decide ((p.kind : Int) = 3) = true := by rw [decide_eq_true_iff]; omega
    rw [if_pos hk3] at hcap ⊢
    have l5 := bxa.ld (i := 5) rfl
    obtain ⟨vb,hb,e,bb,y,_⟩ := T114 kn (k + 2003) (b.ext xa) (h3 hk3) (by have := fieldB_len p.topic; omega)
    have e : callO prog 4 Q (k + 2005) 129 [v,str p.topic] ha = _ := e
    refine ⟨vb,hb,?_,bb,y⟩
    simp only [paeG,pamR,qY,Nat.zero_add,qZ,l0,pafJ,pamS,zQ,d1,qQ,pahF,qW,cond_false,paoA,d2,d3,cond_true,l5,e,qX]
  · have d3 : decide ((p.kind : Int) = 3) = false := by rw [decide_eq_false_iff_not]; omega
    rw [if_neg hk3,List.append_nil]
    refine ⟨v,ha,?_,b.ext xa,⟨Nat.le_refl _,fun _ _ _ => rfl⟩⟩
    simp only [paeG,pamR,qY,Nat.zero_add,qZ,l0,pafJ,pamS,zQ,d1,qQ,pahF,qW,cond_false,paoA,d2,d3]
 obtain ⟨vb,hb,es1,bb,yb⟩ := step1
 have bxb := bxa.but yb htq
 have l4 := bxb.ld (i := 4) rfl
 have step2 : ∃ vc hc,(∀ (K : Value → Value → H → Option (Value × H)),pamT (callO prog 4 Q (k + 2005)) (k + 2005) vb (ptrV h.next) hb K = K vc (ptrV h.next) hc) ∧
  Buf hc vc q cap (es ++ (if p.kind = 3 then fieldB p.topic else []) ++ (if 0 < p.id then wordB p.id else [])) ∧ ExtBut (fun i => i = q) hb hc := by
  by_cases hi0 : 0 < p.id
  · have d : decide ((0 : Int) < (p.id : Int)) = true := by rw [decide_eq_true_iff]; omega
    rw [if_pos hi0] at hcap ⊢
    obtain ⟨vc,hc,e,bc,y⟩ := T115 kn (k + 2001) bb hid (by rw [List.length_append]; simp only [wordB,List.length_cons,List.length_nil] at hcap; omega)
    have e : callO prog 4 Q (k + 2005) 130 [vb,.int .u16 (p.id : Int)] hb = _ := e
    refine ⟨vc,hc,fun K => ?_,bc,y⟩
    simp only [pamT,qY,Nat.zero_add,qZ,l4,zY,d,qQ,cond_true,e,qX]
  · have d : decide ((0 : Int) < (p.id : Int)) = false := by rw [decide_eq_false_iff_not]; omega
    rw [if_neg hi0,List.append_nil]
    refine ⟨vb,hb,fun K => ?_,bb,⟨Nat.le_refl _,fun _ _ _ => rfl⟩⟩
    simp only [pamT,qY,Nat.zero_add,qZ,l4,zY,d,qQ,cond_false]
 obtain ⟨vc,hc,es2,bc,yc⟩ := step2
 have bxc := bxb.but yc htq
 have l22 := bxc.ld (i := 22) rfl
 have slc : SliceE 2 hc w (l.map sbC) := ((sl.ext xa).extBut yb fun j hj e => hsq (by rw [hj,e])).extBut yc fun j hj e => hsq (by rw [hj,e])
 have hlen : A.lenS w = some (.int .i64 (l.length : Int)) := by have := slc.len.1; rwa [List.length_map] at this
 obtain ⟨vd,hd,es3,bd,yd⟩ := lp87 kn (k + 2003) (k + 2005) (fun x0 x3 h => paoB (callO prog 4 Q (k + 2005)) (k + 2005) x0 x3 h (fun x4 h => some (x4,h))) hll hs htq hsq l.length 0 (k + 2005) hc vc _ (by omega) (by omega) bc bxc slc (by rw [List.drop_zero]; simp only [List.length_append]; omega)
 rw [List.drop_zero] at bd
 have bxd := bxc.but yd htq
 have l23 := bxd.ld (i := 23) rfl
 obtain ⟨ve,he,e4,be,ye,_⟩ := bd.app (new := []) (elems_str [] hd) rfl (by have := bd.le; simpa using this)
 rw [List.append_nil] at be
 have bxe := bxd.but ye htq
 have l6 := bxe.ld (i := 6) rfl
 obtain ⟨vf,hf,e5,bf,yf,_⟩ := be.app (elems_str p.payload he) (lenOf_str _) (by simp only [List.length_append]; omega)
 refine ⟨vf,hf,?_,?_,((((xa.but.trans yb).trans yc).trans yd).trans ye).trans yf⟩
 · simp only [F100,p100a,panZ,ea,qX]
   rw [es1]
   simp only [padY]
   rw [es2]
   simp only [pafK,paqU,qY,Nat.zero_add,qZ,l22,hlen,pagW]
   refine Eq.trans es3 ?_
   simp only [paoB,qY,Nat.zero_add,qZ,l23,e4,qX,l6,e5]
 · have : es ++ ((if p.kind = 3 then fieldB p.topic else []) ++ (if 0 < p.id then wordB p.id else []) ++ subsB p.kind l ++ p.payload) = es ++ (if p.kind = 3 then fieldB p.topic else []) ++ (if 0 < p.id then wordB p.id else []) ++ subsB p.kind l ++ p.payload := by simp only [List.append_assoc]
   rw [this]; exact bf
end
end Go.Proofs.YtfodhidpefednaaGreatDoor.An

namespace Go.Proofs.YtfodhidpefednaaGreatDoor.An
open Tryz (prog)
open Go Go.AM AnA AnB
structure PkF where
 i : Nat → Int
 s : Nat → ByteArray
 b : Nat → Bool
 w : Value
def PkF.cells (f : PkF) : List Value :=
 [.int .u8 (f.i 0),.bool (f.b 1),.int .u8 (f.i 2),.bool (f.b 3),.int .u16 (f.i 4),.string (f.s 5),.string (f.s 6),.int .u8 (f.i 7),.bool (f.b 8),.int .u16 (f.i 9),.string (f.s 10),.bool (f.b 11),.string (f.s 12),.string (f.s 13),.int .u8 (f.i 14),.bool (f.b 15),.bool (f.b 16),.bool (f.b 17),.string (f.s 18),.string (f.s 19),.bool (f.b 20),.int .u8 (f.i 21),f.w,.string (f.s 23)]
theorem ld_pk {h : H} {t : Nat} {f : PkF} {o : Option Nat} (hg : h.get t = some (.cells f.cells o)) {i : Nat} {v : Value} (hv : f.cells[i]? = some v) : A.load false 1 (.pointer (some ⟨t,i,none⟩)) h = some v := by
 rw [qK,hg]; exact hv
theorem ld_will {h : H} {t : Nat} {f : PkF} {o : Option Nat} (hg : h.get t = some (.cells f.cells o)) : A.load true 4 (.pointer (some ⟨t,12,none⟩)) h = some (.agg ⟨[.string (f.s 12),.string (f.s 13),.int .u8 (f.i 14),.bool (f.b 15)]⟩) := by
 rw [loadN_eq,hg]; rfl
def plainF (f : PkF) : List Value := [.int .u8 (f.i 0),.int .u8 (f.i 2),.int .u8 (f.i 7),.int .u8 (f.i 21),.bool (f.b 1),.bool (f.b 3),.bool (f.b 8),.bool (f.b 11),.bool (f.b 16),.bool (f.b 17),.bool (f.b 20),.int .u16 (f.i 4),.int .u16 (f.i 9),.string (f.s 5),.string (f.s 6),.string (f.s 10),.string (f.s 18),.string (f.s 19),.string (f.s 23),.string (f.s 12),.string (f.s 13),.int .u8 (f.i 14),.bool (f.b 15)]
theorem build230 (f : PkF) : A.build AnB.Z150L [(0,1,.int .u8 (f.i 0)),(1,1,.int .u8 (f.i 2)),(2,1,.int .u8 (f.i 7)),(3,1,.int .u8 (f.i 21)),(4,1,.bool (f.b 1)),(5,1,.bool (f.b 3)),(6,1,.bool (f.b 8)),(7,1,.bool (f.b 11)),(8,1,.bool (f.b 16)),(9,1,.bool (f.b 17)),(10,1,.bool (f.b 20)),(11,1,.int .u16 (f.i 4)),(12,1,.int .u16 (f.i 9)),(13,1,.string (f.s 5)),(14,1,.string (f.s 6)),(15,1,.string (f.s 10)),(16,1,.string (f.s 18)),(17,1,.string (f.s 19)),(18,1,.string (f.s 23)),(19,4,.agg ⟨[.string (f.s 12),.string (f.s 13),.int .u8 (f.i 14),.bool (f.b 15)]⟩)] = some (.agg ⟨plainF f⟩) := by kernel_rfl
theorem splice230 (f : PkF) : splice AnB.Z150L 0 (plainF f) = plainF f := by kernel_rfl
theorem T143F {Q : Orc} (kn : Kn Q) (k : Nat) (h : H) (f : PkF) : ∃ h',callO prog 4 Q (k + 1) 80 [.agg ⟨f.cells⟩] h = some (.agg ⟨plainF f⟩,h') ∧ Ext h h' := by
 rw [F80eq Q k _ h (kn.fr 80 _ (by decide))]
 obtain ⟨h1,hh1⟩ : ∃ h1,h1 = h.push (.cells f.cells (some 0)) := ⟨_,rfl⟩
 obtain ⟨h2,hh2⟩ : ∃ h2,h2 = h1.push (.cells AnB.Z150L (some 0)) := ⟨_,rfl⟩
 have b1 : A.box 24 (.agg ⟨f.cells⟩) h = some (ptrV h.next,h1) := by rw [hh1]; rfl
 have b2 : A.box 23 AnB.Z150 h1 = some (ptrV h1.next,h2) := by rw [hh2]; rfl
 have x1 : Ext h h1 := hh1 ▸ Ext.push h _
 have x2 : Ext h1 h2 := hh2 ▸ Ext.push h1 _
 have n1 : h1.next = h.next + 1 := by rw [hh1]; rfl
 have g2 : h2.get h.next = some (.cells f.cells (some 0)) := by rw [x2.get _ (by omega),hh1,H.get_push,if_pos rfl]
 have g3 : h2.get h1.next = some (.cells AnB.Z150L (some 0)) := by rw [hh2,H.get_push,if_pos rfl]
 have a0 := ld_pk g2 (i := 0) (v := .int .u8 (f.i 0)) rfl
 have a2 := ld_pk g2 (i := 2) (v := .int .u8 (f.i 2)) rfl
 have a7 := ld_pk g2 (i := 7) (v := .int .u8 (f.i 7)) rfl
 have a21 := ld_pk g2 (i := 21) (v := .int .u8 (f.i 21)) rfl
 have a1 := ld_pk g2 (i := 1) (v := .bool (f.b 1)) rfl
 have a3 := ld_pk g2 (i := 3) (v := .bool (f.b 3)) rfl
 have a8 := ld_pk g2 (i := 8) (v := .bool (f.b 8)) rfl
 have a11 := ld_pk g2 (i := 11) (v := .bool (f.b 11)) rfl
 have a16 := ld_pk g2 (i := 16) (v := .bool (f.b 16)) rfl
 have a17 := ld_pk g2 (i := 17) (v := .bool (f.b 17)) rfl
 have a20 := ld_pk g2 (i := 20) (v := .bool (f.b 20)) rfl
 have a4 := ld_pk g2 (i := 4) (v := .int .u16 (f.i 4)) rfl
 have a9 := ld_pk g2 (i := 9) (v := .int .u16 (f.i 9)) rfl
 have a5 := ld_pk g2 (i := 5) (v := .string (f.s 5)) rfl
 have a6 := ld_pk g2 (i := 6) (v := .string (f.s 6)) rfl
 have a10 := ld_pk g2 (i := 10) (v := .string (f.s 10)) rfl
 have a18 := ld_pk g2 (i := 18) (v := .string (f.s 18)) rfl
 have a19 := ld_pk g2 (i := 19) (v := .string (f.s 19)) rfl
 have a23 := ld_pk g2 (i := 23) (v := .string (f.s 23)) rfl
 have aw := ld_will g2
 obtain ⟨h3,hh3⟩ : ∃ h3,h3 = h2.put h1.next (.cells (plainF f) (some 0)) := ⟨_,rfl⟩
 have es : A.store 23 (ptrV h1.next) (.agg ⟨plainF f⟩) h2 = some h3 := by
  rw [qU,g3,hh3]
  have c1 : Nat.beq (plainF f).length 23 = true := rfl
  have c2 : Nat.ble (0 + 23) AnB.Z150L.length = true := rfl
  simp only [cellsL_agg,c1,c2,Bool.and_self,cond_true,splice230]
 have gr : h3.get h1.next = some (.cells (plainF f) (some 0)) := by rw [hh3,H.get_put,if_pos rfl]
 have lr : A.load true 23 (ptrV h1.next) h3 = some (.agg ⟨plainF f⟩) := by rw [loadN_eq,gr]; rfl
 have bl := build230 f
 refine ⟨h3,?_,hh3 ▸ (x1.trans x2).put _ _ (by omega)⟩
 simp only [F80,p80a,pauU,b1,b2,qX,pauV,qY,Nat.zero_add,qZ,qQ,aw,a0,a2,a7,a21,a1,a3,a8,a11,a16,a17,a20,a4,a9,a5,a6,a10,a18,a19,a23,bl,es,pauW,lr,resC,packA]
theorem plain_refl (f : PkF) : A.eqV prog 20 150 (.agg ⟨plainF f⟩) (.agg ⟨plainF f⟩) = some true := by
 have e : A.eqV prog 20 150 (.agg ⟨plainF f⟩) (.agg ⟨plainF f⟩) = (bif (f.i 0 == f.i 0) then (bif (f.i 2 == f.i 2) then (bif (f.i 7 == f.i 7) then (bif (f.i 21 == f.i 21) then (bif (f.b 1 == f.b 1) then (bif (f.b 3 == f.b 3) then (bif (f.b 8 == f.b 8) then (bif (f.b 11 == f.b 11) then (bif (f.b 16 == f.b 16) then (bif (f.b 17 == f.b 17) then (bif (f.b 20 == f.b 20) then (bif (f.i 4 == f.i 4) then (bif (f.i 9 == f.i 9) then (bif ((f.s 5).data.toList == (f.s 5).data.toList) then (bif ((f.s 6).data.toList == (f.s 6).data.toList) then (bif ((f.s 10).data.toList == (f.s 10).data.toList) then (bif ((f.s 18).data.toList == (f.s 18).data.toList) then (bif ((f.s 19).data.toList == (f.s 19).data.toList) then (bif ((f.s 23).data.toList == (f.s 23).data.toList) then (match (bif ((f.s 12).data.toList == (f.s 12).data.toList) then (bif ((f.s 13).data.toList == (f.s 13).data.toList) then (bif (f.i 14 == f.i 14) then (bif (f.b 15 == f.b 15) then some true else some false) else some false) else some false) else some false) with | some q => (bif q then some true else some false) | none => none) else some false) else some false) else some false) else some false) else some false) else some false) else some false) else some false) else some false) else some false) else some false) else some false) else some false) else some false) else some false) else some false) else some false) else some false) else some false) := by kernel_rfl
 rw [e]
 simp only [beq_self_eq_true,cond_true]
theorem plain_eql (f : PkF) : A.bin prog .eql 150 (.agg ⟨plainF f⟩) (.agg ⟨plainF f⟩) = some (.bool true) := bin_agg_eql rfl rfl (by kernel_rfl) (plain_refl f)
def Pk.F (p : Pk) (w : Value) : PkF where
 i := fun n => if n = 0 then p.kind else if n = 2 then p.qos else if n = 4 then p.id else if n = 7 then p.level else if n = 9 then p.keep else if n = 14 then p.wq else 0
 b := fun n => if n = 1 then p.dup else if n = 3 then p.retain else if n = 8 then p.clean else if n = 11 then p.will else false
 s := fun n => if n = 5 then ⟨⟨p.topic⟩⟩ else if n = 6 then ⟨⟨p.payload⟩⟩ else if n = 10 then ⟨⟨p.client⟩⟩ else if n = 12 then ⟨⟨p.wt⟩⟩ else if n = 13 then ⟨⟨p.wp⟩⟩ else ⟨⟨[]⟩⟩
 w := w
theorem T143 {Q : Orc} (kn : Kn Q) (k : Nat) (h : H) (p : Pk) (w : Value) : ∃ h',callO prog 4 Q (k + 1) 80 [.agg ⟨p.cells w⟩] h = some (.agg ⟨plainF (p.F w)⟩,h') ∧ Ext h h' := T143F kn k h (p.F w)
end Go.Proofs.YtfodhidpefednaaGreatDoor.An

namespace Go.Proofs.YtfodhidpefednaaGreatDoor.An
open Tryz (prog)
open Go Go.AM AnA AnB
def mkC (level : Nat) (clean : Bool) (keep : Nat) (client : List UInt8) (will : Bool) (wt wp : List UInt8) (wq : Nat) : Pk := ⟨1,false,0,false,0,[],[],level,clean,keep,client,will,wt,wp,wq⟩
def mkP (dup : Bool) (qos : Nat) (retain : Bool) (id : Nat) (topic payload : List UInt8) : Pk := ⟨3,dup,qos,retain,id,topic,payload,0,false,0,[],false,[],[],0⟩
def mkI (kind id : Nat) : Pk := ⟨kind,false,0,false,id,[],[],0,false,0,[],false,[],[],0⟩
inductive Good : Pk → Prop
 | c (level clean keep client will wt wp wq) : Good (mkC level clean keep client will wt wp wq)
 | p (dup qos retain id topic payload) : Good (mkP dup qos retain id topic payload)
 | i (kind id) (h : kind = 4 ∨ kind = 5 ∨ kind = 6 ∨ kind = 7 ∨ kind = 8 ∨ kind = 10) : Good (mkI kind id)
 | b (kind) (h : kind = 12 ∨ kind = 14) : Good (mkI kind 0)
abbrev nilS : Value := .slice none 0 0
def Pk.z (p : Pk) : Pk := { p with kind := 0 }
theorem same_pk (p : Pk) : AM.same (.agg ⟨p.cells nilS⟩) (.agg ⟨p.cells nilS⟩) = true := by
 simp [AM.same,AM.sameA,AM.sameL,Pk.cells,nilS]
section
variable {Q : Orc} (kn : Kn Q) {h : H}
include kn
theorem tail111 (k L : Nat) (p : Pk) {w : Value} {t1 t3 : Nat} (b1 : Bx h t1 p w) (hw : cellsL w = some [w]) (b3 : Bx h t3 p.z nilS) (hne : t1 ≠ t3) :
 ∃ h',pamG (callO prog 4 Q (k + 1)) L (ptrV t1) (ptrV t3) h (fun x2 h => some (x2,h)) = some (.bool true,h') ∧ ExtBut (fun i => i = t3) h h' := by
 have l0 := b1.ld (i := 0) rfl
 obtain ⟨h1,hh1⟩ : ∃ h1,h1 = h.put t3 (.cells (p.cells nilS) (some 0)) := ⟨_,rfl⟩
 have st : A.store 1 (.pointer (some ⟨t3,0,none⟩)) (.int .u8 (p.kind : Int)) h = some h1 := by
  rw [qU,b3.1,hh1]; rfl
 have x1 : ExtBut (fun i => i = t3) h h1 := by rw [hh1]; exact ExtBut.put ⟨Nat.le_refl _,fun _ _ _ => rfl⟩ t3 _ rfl
 have c3 : Bx h1 t3 p nilS := ⟨by rw [hh1,H.get_put,if_pos rfl],by rw [hh1]; exact b3.2⟩
 have c1 : Bx h1 t1 p w := b1.but x1 hne
 obtain ⟨h2,e2,x2⟩ := T143 kn k h1 p w
 have d3 := c3.ext x2
 obtain ⟨h3,e3,x3⟩ := T143 kn k h2 p nilS
 have ck : chk (some (.agg ⟨p.cells nilS⟩)) (.agg ⟨p.cells nilS⟩) = true := chk1 (same_pk p)
 have pe : A.bin prog .eql 150 (.agg ⟨plainF (p.F w)⟩) (.agg ⟨plainF (p.F nilS)⟩) = some (.bool true) := plain_eql (p.F w)
 refine ⟨h3,?_,(x1.trans x2.but).trans x3.but⟩
 simp only [pamG,qY,Nat.zero_add,qZ,l0,st,c1.all,e2,qX,d3.all,c3.all,ck,Bool.and_true,cond_true,e3,pe,qQ]
theorem T111 (k : Nat) {p : Pk} (gd : Good p) {w : Value} (hw : cellsL w = some [w]) {n : Nat} (hl : A.lenS w = some (.int .i64 (n : Int))) (hn : 0 < n → p.kind = 8 ∨ p.kind = 10) :
 ∃ h',callO prog 4 Q (k + 2) 60 [.agg ⟨p.cells w⟩] h = some (.bool true,h') ∧ Ext h h' := by
 rw [F60eq Q (k + 1) _ h (kn.fr 60 _ (by decide))]
 obtain ⟨h1,e1,b1,x1,n1⟩ := box_pk p hw h
 have l22 := b1.ld (i := 22) rfl
 have l0 := b1.ld (i := 0) rfl
 have stepA : ∀ (kr : Value → H → Option (Value × H)) (K : Value → H → Option (Value × H)),pafI (callO prog 4 Q (k + 1)) (k + 1) (ptrV h.next) h1 kr K = K (ptrV h.next) h1 := by
  intro kr K
  by_cases hz : 0 < n
  · have d : decide ((0 : Int) < (n : Int)) = true := by rw [decide_eq_true_iff]; omega
    by_cases h8 : p.kind = 8
    · have d8 : decide ((p.kind : Int) = 8) = true := by rw [decide_eq_true_iff]; omega
      simp only [pafI,pajD,qY,Nat.zero_add,qZ,l22,hl,zY,d,qQ,cond_true,l0,bin_neq,d8,Bool.not_true,cond_false,pajE,qW]
    · have d8 : decide ((p.kind : Int) = 8) = false := by rw [decide_eq_false_iff_not]; omega
      have h10 : p.kind = 10 := by rcases hn hz with h | h; exact absurd h h8; exact h
      have d10 : decide ((p.kind : Int) = 10) = true := by rw [decide_eq_true_iff]; omega
      simp only [pafI,pajD,qY,Nat.zero_add,qZ,l22,hl,zY,d,qQ,cond_true,l0,bin_neq,d8,Bool.not_false,d10,Bool.not_true,pajE,qW,cond_false]
  · have d : decide ((0 : Int) < (n : Int)) = false := by rw [decide_eq_false_iff_not]; omega
    simp only [pafI,pajD,qY,Nat.zero_add,qZ,l22,hl,zY,d,qQ,cond_false,pajE,qW]
 obtain ⟨h2,hh2⟩ : ∃ h2,h2 = h1.push (.cells AnB.Z39L (some 0)) := ⟨_,rfl⟩
 have e2 : A.box 24 AnB.Z39 h1 = some (ptrV h1.next,h2) := by rw [hh2]; rfl
 have x2 : Ext h1 h2 := by rw [hh2]; exact Ext.push h1 _
 have b2 := b1.ext x2
 have g2 : h2.get h1.next = some (.cells AnB.Z39L (some 0)) := by rw [hh2,H.get_push,if_pos rfl]
 have hne : h.next ≠ h1.next := by omega
 have hlt : h1.next < h2.next := by rw [hh2]; exact Nat.lt_succ_self _
 obtain ⟨h3,hh3⟩ : ∃ h3,h3 = h2.put h1.next (.cells (p.z.cells nilS) (some 0)) := ⟨_,rfl⟩
 have x3 : Ext h h3 := by rw [hh3]; exact (x1.trans x2).put _ _ (by omega)
 have y3 : ExtBut (fun i => i = h1.next) h2 h3 := by rw [hh3]; exact ExtBut.put ⟨Nat.le_refl _,fun _ _ _ => rfl⟩ _ _ rfl
 have c1 : Bx h3 h.next p w := b2.but y3 hne
 have c3 : Bx h3 h1.next p.z nilS := ⟨by rw [hh3,H.get_put,if_pos rfl],by rw [hh3]; exact hlt⟩
 have st : A.store 24 (ptrV h1.next) (.agg ⟨p.z.cells nilS⟩) h2 = some h3 := by
  have hcl : cellsL (.agg ⟨p.z.cells nilS⟩) = some (p.z.cells nilS) := rfl
  rw [qU,g2,hcl,hh3]; rfl
 have m0 := b2.ld (i := 0) rfl
 suffices hs : ∃ h3,(∀ K : Value → Value → H → Option (Value × H),paaH (callO prog 4 Q (k + 1)) (k + 1) (ptrV h.next) (ptrV h1.next) h2 K = K (ptrV h.next) (ptrV h1.next) h3) ∧ Bx h3 h.next p w ∧ Bx h3 h1.next p.z nilS ∧ Ext h h3 by
  obtain ⟨h3,hs,c1,c3,x3⟩ := hs
  obtain ⟨h4,e4,x4⟩ := tail111 kn k (k + 1) p c1 hw c3 hne
  have fin : Ext h h4 := ⟨Nat.le_trans x3.next x4.next,fun i hi => by rw [x4.get i (Nat.lt_of_lt_of_le hi x3.next) (by have := x1.next; omega),x3.get i hi]⟩
  refine ⟨h4,?_,fin⟩
  simp only [F60,p60a,paiC,e1,qX]
  rw [stepA]
  simp only [paqO,e2,qX]
  rw [hs]; exact e4
 cases gd with
 | c level clean keep client will wt wp wq =>
  refine ⟨h3,fun K => ?_,c1,c3,x3⟩
  have l7 := b2.ld (i := 7) rfl
  have l8 := b2.ld (i := 8) rfl
  have l9 := b2.ld (i := 9) rfl
  have l10 := b2.ld (i := 10) rfl
  have l11 := b2.ld (i := 11) rfl
  have l16 := b2.ld (i := 16) rfl
  have l17 := b2.ld (i := 17) rfl
  have l18 := b2.ld (i := 18) rfl
  have l19 := b2.ld (i := 19) rfl
  have l12 : A.load true 4 (.pointer (some ⟨h.next,12,none⟩)) h2 = some (.agg ⟨[str wt,str wp,.int .u8 (wq : Int),.bool false]⟩) := by rw [loadN_eq,b2.1]; rfl
  have bd : A.build AnB.Z39L [(7,1,.int .u8 (level : Int)),(8,1,.bool clean),(9,1,.int .u16 (keep : Int)),(10,1,str client),(11,1,.bool will),(12,4,.agg ⟨[str wt,str wp,.int .u8 (wq : Int),.bool false]⟩),(16,1,.bool false),(17,1,.bool false),(18,1,str []),(19,1,str [])] = some (.agg ⟨(mkC level clean keep client will wt wp wq).z.cells nilS⟩) := by kernel_rfl
  have d1 : decide (((1 : Nat) : Int) = 1) = true := rfl
  have m0 : A.load false 1 (.pointer (some ⟨h.next,0,none⟩)) h2 = some (.int .u8 ((1 : Nat) : Int)) := m0
  have l7 : A.load false 1 (.pointer (some ⟨h.next,7,none⟩)) h2 = some (.int .u8 (level : Int)) := l7
  have l8 : A.load false 1 (.pointer (some ⟨h.next,8,none⟩)) h2 = some (.bool clean) := l8
  have l9 : A.load false 1 (.pointer (some ⟨h.next,9,none⟩)) h2 = some (.int .u16 (keep : Int)) := l9
  have l10 : A.load false 1 (.pointer (some ⟨h.next,10,none⟩)) h2 = some (str client) := l10
  have l11 : A.load false 1 (.pointer (some ⟨h.next,11,none⟩)) h2 = some (.bool will) := l11
  simp only [paaH,pahM,qY,Nat.zero_add,qZ,m0,paaM,pahN,zQ,d1,qQ,paaU,qW,cond_true,paqQ,l7,l8,l9,l10,l11,l12,l16,l17,l18,l19,bd,st]
 | p dup qos retain id topic payload =>
  refine ⟨h3,fun K => ?_,c1,c3,x3⟩
  have l1 : A.load false 1 (.pointer (some ⟨h.next,1,none⟩)) h2 = some (.bool dup) := b2.ld rfl
  have l2 : A.load false 1 (.pointer (some ⟨h.next,2,none⟩)) h2 = some (.int .u8 (qos : Int)) := b2.ld rfl
  have l3 : A.load false 1 (.pointer (some ⟨h.next,3,none⟩)) h2 = some (.bool retain) := b2.ld rfl
  have l4 : A.load false 1 (.pointer (some ⟨h.next,4,none⟩)) h2 = some (.int .u16 (id : Int)) := b2.ld rfl
  have l5 : A.load false 1 (.pointer (some ⟨h.next,5,none⟩)) h2 = some (str topic) := b2.ld rfl
  have l6 : A.load false 1 (.pointer (some ⟨h.next,6,none⟩)) h2 = some (str payload) := b2.ld rfl
  have bd : A.build AnB.Z39L [(1,1,.bool dup),(2,1,.int .u8 (qos : Int)),(3,1,.bool retain),(4,1,.int .u16 (id : Int)),(5,1,str topic),(6,1,str payload)] = some (.agg ⟨(mkP dup qos retain id topic payload).z.cells nilS⟩) := by kernel_rfl
  have d1 : decide (((3 : Nat) : Int) = 1) = false := rfl
  have d2 : decide (((3 : Nat) : Int) = 2) = false := rfl
  have d3 : decide (((3 : Nat) : Int) = 3) = true := rfl
  have m0 : A.load false 1 (.pointer (some ⟨h.next,0,none⟩)) h2 = some (.int .u8 ((3 : Nat) : Int)) := m0
  simp only [paaH,pahM,qY,Nat.zero_add,qZ,m0,paaM,pahN,zQ,d1,d2,d3,qQ,paaU,qW,cond_false,cond_true,paaZ,pahT,pabH,pabS,paiD,pacI,paqP,l1,l2,l3,l4,l5,l6,bd,st]
 | i kind id hk =>
  refine ⟨h3,fun K => ?_,c1,c3,x3⟩
  have l4 : A.load false 1 (.pointer (some ⟨h.next,4,none⟩)) h2 = some (.int .u16 (id : Int)) := b2.ld rfl
  have bd : A.build AnB.Z39L [(4,1,.int .u16 (id : Int))] = some (.agg ⟨(mkI kind id).z.cells nilS⟩) := by kernel_rfl
  have m0 : A.load false 1 (.pointer (some ⟨h.next,0,none⟩)) h2 = some (.int .u8 (kind : Int)) := m0
  have d1 : decide ((kind : Int) = 1) = false := by rw [decide_eq_false_iff_not]; omega
  have d2 : decide ((kind : Int) = 2) = false := by rw [decide_eq_false_iff_not]; omega
  have d3 : decide ((kind : Int) = 3) = false := by rw [decide_eq_false_iff_not]; omega
  have d9 : decide ((kind : Int) = 9) = false := by rw [decide_eq_false_iff_not]; omega
  have d12 : decide ((kind : Int) = 12) = false := by rw [decide_eq_false_iff_not]; omega
  have d13 : decide ((kind : Int) = 13) = false := by rw [decide_eq_false_iff_not]; omega
  have d14 : decide ((kind : Int) = 14) = false := by rw [decide_eq_false_iff_not]; omega
  simp only [paaH,pahM,qY,Nat.zero_add,qZ,m0,paaM,pahN,zQ,d1,d2,d3,d9,d12,d13,d14,qQ,paaU,qW,cond_false,paaZ,pahT,pabH,pabS,paiD,pacI,padE,paiS,paeF,pafO,pajF,pajG,l4,bd,st]
 | b kind hk =>
  have m0 : A.load false 1 (.pointer (some ⟨h.next,0,none⟩)) h2 = some (.int .u8 (kind : Int)) := m0
  have d1 : decide ((kind : Int) = 1) = false := by rw [decide_eq_false_iff_not]; omega
  have d2 : decide ((kind : Int) = 2) = false := by rw [decide_eq_false_iff_not]; omega
  have d3 : decide ((kind : Int) = 3) = false := by rw [decide_eq_false_iff_not]; omega
  have d9 : decide ((kind : Int) = 9) = false := by rw [decide_eq_false_iff_not]; omega
  have d13 : decide ((kind : Int) = 13) = false := by rw [decide_eq_false_iff_not]; omega
  refine ⟨h2,fun K => ?_,b2,⟨g2,hlt⟩,x1.trans x2⟩
  rcases hk with hk | hk
  · have d12 : decide ((kind : Int) = 12) = true := by rw [decide_eq_true_iff]; omega
    simp only [paaH,pahM,qY,Nat.zero_add,qZ,m0,paaM,pahN,zQ,d1,d2,d3,d9,d12,qQ,paaU,qW,cond_false,cond_true,paaZ,pahT,pabH,pabS,paiD,pacI,padE,paiS,paeF,pafO,pajF,pajG]
  · have d12 : decide ((kind : Int) = 12) = false := by rw [decide_eq_false_iff_not]; omega
    have d14 : decide ((kind : Int) = 14) = true := by rw [decide_eq_true_iff]; omega
    simp only [paaH,pahM,qY,Nat.zero_add,qZ,m0,paaM,pahN,zQ,d1,d2,d3,d9,d12,d13,d14,qQ,paaU,qW,cond_false,cond_true,paaZ,pahT,pabH,pabS,paiD,pacI,padE,paiS,paeF,pafO,pajF,pajG]
end
end Go.Proofs.YtfodhidpefednaaGreatDoor.An

namespace Go.Proofs.YtfodhidpefednaaGreatDoor.An
open Tryz (prog)
open Go Go.AM AnA AnB
theorem qJ (l : List UInt8) : A.lenStr (str l) = some (.int .i64 (l.length : Int)) := rfl
theorem connB_len (p : Pk) : (connB p).length = 12 + p.client.length + (if p.will then 4 + p.wt.length + p.wp.length else 0) := by
 unfold connB
 cases p.will <;> simp [fieldB_len,wordB] <;> omega
section
variable {Q : Orc} (kn : Kn Q) {h : H}
include kn
theorem T106 (k : Nat) {clean : Bool} {keep : Nat} {client : List UInt8} {will : Bool} {wt wp : List UInt8} {wq : Nat} {w : Value} (hw : cellsL w = some [w]) (hc : client ∈ clients) (h1 : will = true → wt ∈ names ∧ wp.length ≤ 100 ∧ wq ≤ 2) (h2 : will = false → wt = [] ∧ wp = [] ∧ wq = 0) :
 ∃ h',callO prog 4 Q (k + 2) 55 [.agg ⟨(mkC 4 clean keep client will wt wp wq).cells w⟩] h = some (.int .i64 ((connB (mkC 4 clean keep client will wt wp wq)).length : Int),h') ∧ Ext h h' := by
 rw [F55eq Q (k + 1) _ h (kn.fr 55 _ (by decide))]
 obtain ⟨ha,ea,b,x,_⟩ := box_pk (mkC 4 clean keep client will wt wp wq) hw h
 have l7 : A.load false 1 (.pointer (some ⟨h.next,7,none⟩)) ha = some (.int .u8 4) := b.ld rfl
 have l10 : A.load false 1 (.pointer (some ⟨h.next,10,none⟩)) ha = some (str client) := b.ld rfl
 have l11 : A.load false 1 (.pointer (some ⟨h.next,11,none⟩)) ha = some (.bool will) := b.ld rfl
 have l12 : A.load false 1 (.pointer (some ⟨h.next,12,none⟩)) ha = some (str wt) := b.ld rfl
 have l13 : A.load false 1 (.pointer (some ⟨h.next,13,none⟩)) ha = some (str wp) := b.ld rfl
 have l14 : A.load false 1 (.pointer (some ⟨h.next,14,none⟩)) ha = some (.int .u8 (wq : Int)) := b.ld rfl
 have l16 : A.load false 1 (.pointer (some ⟨h.next,16,none⟩)) ha = some (.bool false) := b.ld rfl
 have l17 : A.load false 1 (.pointer (some ⟨h.next,17,none⟩)) ha = some (.bool false) := b.ld rfl
 have l18 : A.load false 1 (.pointer (some ⟨h.next,18,none⟩)) ha = some (str []) := b.ld rfl
 have l19 : A.load false 1 (.pointer (some ⟨h.next,19,none⟩)) ha = some (str []) := b.ld rfl
 have lw : A.load true 4 (.pointer (some ⟨h.next,12,none⟩)) ha = some (.agg ⟨[str wt,str wp,.int .u8 (wq : Int),.bool false]⟩) := by rw [loadN_eq,b.1]; rfl
 have e140 := qB (kn.va client hc) k ha
 have e140' := qB (kn.va [] (by decide)) k ha
 have d4 : decide ((4 : Int) = 4) = true := rfl
 have ne : A.bin prog .neq 9 (str []) (.string ⟨⟨[]⟩⟩) = some (.bool false) := by kernel_rfl
 have hcl : client.length ≤ 1 := by
  have : ∀ c ∈ clients,c.length ≤ 1 := by decide
  exact this client hc
 have w1 : IntKind.i64.wrap (12 + (client.length : Int)) = ((12 + client.length : Nat) : Int) := by rw [wrap64 (by omega) (by omega)]; omega
 have z1 : decide ((65535 : Int) < (([] : List UInt8).length : Int)) = false := rfl
 refine ⟨ha,?_,x⟩
 rw [connB_len]
 cases will with
 | true =>
  obtain ⟨hn,hp,hq⟩ := h1 rfl
  have e141 := qB (kn.nm wt hn) k ha
  have hwt : wt.length ≤ 4 := by
   have : ∀ c ∈ names,c.length ≤ 4 := by decide
   exact this wt hn
  have dp : decide ((65535 : Int) < (wp.length : Int)) = false := by rw [decide_eq_false_iff_not]; omega
  have dq : decide ((2 : Int) < (wq : Int)) = false := by rw [decide_eq_false_iff_not]; omega
  have w2 : IntKind.i64.wrap (4 + (wt.length : Int)) = ((4 + wt.length : Nat) : Int) := by rw [wrap64 (by omega) (by omega)]; omega
  have w3 : IntKind.i64.wrap (((4 + wt.length : Nat) : Int) + (wp.length : Int)) = ((4 + wt.length + wp.length : Nat) : Int) := by rw [wrap64 (by omega) (by omega)]; omega
  have w4 : IntKind.i64.wrap (((12 + client.length : Nat) : Int) + ((4 + wt.length + wp.length : Nat) : Int)) = ((12 + client.length + (4 + wt.length + wp.length) : Nat) : Int) := by rw [wrap64 (by omega) (by omega)]; omega
  simp only [F55,p55a,pakF,ea,qX,pakG,qY,Nat.zero_add,Nat.add_zero,Nat.reduceAdd,qZ,l7,bin_neq,d4,Bool.not_true,qQ,cond_false,l10,e140,un_not,panK,qJ,bin_add,w1,paaY,pacW,paiZ,l11,padT,qW,cond_true,paeY,pagK,palZ,l12,e141,l13,zY,dp,l14,dq,pamA,paqF,w2,w3,w4,pacS,paeM,pajU,l16,pagL,pakH,l18,ne,l17,pafS,pakI,l19,pakJ,e140',z1]
  rfl
 | false =>
  obtain ⟨rfl,rfl,rfl⟩ := h2 rfl
  have bd : A.build AnB.Z36L [] = some (.agg ⟨[str [],str [],.int .u8 0,.bool false]⟩) := by kernel_rfl
  have nw : A.bin prog .neq 36 (.agg ⟨[str [],str [],.int .u8 ((0 : Nat) : Int),.bool false]⟩) (.agg ⟨[str [],str [],.int .u8 0,.bool false]⟩) = some (.bool false) := by kernel_rfl
  simp only [F55,p55a,pakF,ea,qX,pakG,qY,Nat.zero_add,Nat.add_zero,Nat.reduceAdd,qZ,l7,bin_neq,d4,Bool.not_true,qQ,cond_false,l10,e140,un_not,panK,qJ,bin_add,w1,paaY,pacW,paiZ,l11,padT,qW,panL,lw,bd,nw,pacS,paeM,pajU,l16,pagL,pakH,l18,ne,l17,pafS,pakI,l19,pakJ,e140',zY,z1]
  rfl
theorem T107 (k : Nat) {dup : Bool} {qos : Nat} {retain : Bool} {id : Nat} {topic payload : List UInt8} {w : Value} (hw : cellsL w = some [w]) (ht : topic ∈ names) (hq : qos ≤ 2) (hp : payload.length ≤ 100) (h1 : 0 < qos → 0 < id) (h2 : qos = 0 → id = 0 ∧ dup = false) :
 ∃ h',callO prog 4 Q (k + 2) 56 [.agg ⟨(mkP dup qos retain id topic payload).cells w⟩] h = some (.int .i64 ((restB (mkP dup qos retain id topic payload) []).length : Int),h') ∧ Ext h h' := by
 rw [F56eq Q (k + 1) _ h (kn.fr 56 _ (by decide))]
 obtain ⟨ha,ea,b,x,_⟩ := box_pk (mkP dup qos retain id topic payload) hw h
 have l5 : A.load false 1 (.pointer (some ⟨h.next,5,none⟩)) ha = some (str topic) := b.ld rfl
 have l6 : A.load false 1 (.pointer (some ⟨h.next,6,none⟩)) ha = some (str payload) := b.ld rfl
 have l2 : A.load false 1 (.pointer (some ⟨h.next,2,none⟩)) ha = some (.int .u8 (qos : Int)) := b.ld rfl
 have l4 : A.load false 1 (.pointer (some ⟨h.next,4,none⟩)) ha = some (.int .u16 (id : Int)) := b.ld rfl
 have l1 : A.load false 1 (.pointer (some ⟨h.next,1,none⟩)) ha = some (.bool dup) := b.ld rfl
 have e141 := qB (kn.nm topic ht) k ha
 have dq : decide ((2 : Int) < (qos : Int)) = false := by rw [decide_eq_false_iff_not]; omega
 have hwt : topic.length ≤ 4 := by
  have : ∀ c ∈ names,c.length ≤ 4 := by decide
  exact this topic ht
 have w1 : IntKind.i64.wrap (2 + (topic.length : Int)) = ((2 + topic.length : Nat) : Int) := by rw [wrap64 (by omega) (by omega)]; omega
 have w2 : IntKind.i64.wrap (((2 + topic.length : Nat) : Int) + (payload.length : Int)) = ((2 + topic.length + payload.length : Nat) : Int) := by rw [wrap64 (by omega) (by omega)]; omega
 have hr : (restB (mkP dup qos retain id topic payload) []).length = 2 + topic.length + (if 0 < id then 2 else 0) + payload.length := by
  have e : restB (mkP dup qos retain id topic payload) [] = fieldB topic ++ (if 0 < id then wordB id else []) ++ [] ++ payload := rfl
  rw [e]
  simp only [List.length_append,fieldB_len,List.length_nil]
  split <;> simp [wordB]
 rw [hr]
 refine ⟨ha,?_,x⟩
 by_cases hz : qos = 0
 · obtain ⟨rfl,rfl⟩ := h2 hz
   subst hz
   have d0 : decide ((0 : Int) < ((0 : Nat) : Int)) = false := rfl
   simp only [F56,p56a,pakK,ea,qX,pabX,pakL,qY,Nat.zero_add,qZ,l5,e141,qQ,un_not,Bool.not_true,cond_false,l2,zY,dq,panM,qJ,bin_add,w1,l6,w2,pacR,padK,pajA,d0,paeN,qW,pafU,pakM,l4,l1,pakN,paqH]
   rfl
 · have d0 : decide ((0 : Int) < (qos : Int)) = true := by rw [decide_eq_true_iff]; omega
   have hid := h1 (by omega)
   have d1 : decide ((0 : Int) < (id : Int)) = true := by rw [decide_eq_true_iff]; omega
   have w3 : IntKind.i64.wrap (((2 + topic.length + payload.length : Nat) : Int) + 2) = ((2 + topic.length + 2 + payload.length : Nat) : Int) := by rw [wrap64 (by omega) (by omega)]; omega
   rw [if_pos hid]
   simp only [F56,p56a,pakK,ea,qX,pabX,pakL,qY,Nat.zero_add,qZ,l5,e141,qQ,un_not,Bool.not_true,cond_false,l2,zY,dq,panM,qJ,bin_add,w1,l6,w2,pacR,padK,pajA,d0,cond_true,l4,d1,paeN,qW,paqG,w3]
theorem T108 (k : Nat) (p : Pk) {w : Value} (hw : cellsL w = some [w]) (hid : 0 < p.id) : ∃ h',callO prog 4 Q (k + 1) 57 [.agg ⟨p.cells w⟩] h = some (.int .i64 2,h') ∧ Ext h h' := by
 rw [F57eq Q k _ h (kn.fr 57 _ (by decide))]
 obtain ⟨ha,ea,b,x,_⟩ := box_pk p hw h
 have l4 := b.ld (i := 4) rfl
 have d : decide ((p.id : Int) = 0) = false := by rw [decide_eq_false_iff_not]; omega
 refine ⟨ha,?_,x⟩
 simp only [F57,p57a,ea,qX,qY,Nat.zero_add,qZ,l4,zQ,d,qQ,cond_false]
end
end Go.Proofs.YtfodhidpefednaaGreatDoor.An

namespace Go.Proofs.YtfodhidpefednaaGreatDoor.An
open Tryz (prog)
open Go Go.AM AnA AnB
def moreN (kind : Nat) : Nat := if kind = 10 then 0 else 1
def mostN (kind : Nat) : Nat := if kind = 10 then 0 else 2
section
variable {Q : Orc} (kn : Kn Q)
include kn
theorem subB_len {kind : Nat} (hk : kind = 8 ∨ kind = 10) (s : Sb) : (subB kind s).length = 2 + s.1.length + moreN kind := by
 have _ := kn
 unfold subB moreN
 rw [List.length_append,fieldB_len]
 rcases hk with rfl | rfl <;> rfl
theorem lp109 (k L : Nat) {β : Type} (kr : Value → H → Option β) (kx : Value → H → Option β) {kind : Nat} (hk : kind = 8 ∨ kind = 10) {w : Value} {l : List Sb} (hl : l.length ≤ 100) (hs : ∀ s ∈ l,s.1 ∈ filters ∧ s.2 ≤ mostN kind) :
 ∀ (d i m : Nat) (h : H) (a : Nat),i + d = l.length → d < m → SliceE 2 h w (l.map sbC) → a ≤ i * 100 + 100 →
  ∃ h',paiB (callO prog 4 Q (k + 1)) L kr kx m (.int .i64 (l.length : Int)) (.int .i64 (i : Int)) (.int .i64 (moreN kind : Int)) (.int .u8 (mostN kind : Int)) w (.int .i64 (a : Int)) h = kx (.int .i64 ((a + (subsB kind (l.drop i)).length : Nat) : Int)) h' ∧ Ext h h' := by
 intro d
 induction d with
 | zero =>
  intro i m h a hi hm sl ha
  obtain ⟨m,rfl⟩ : ∃ r,m = r + 1 := ⟨m - 1,by omega⟩
  have hd : decide ((i : Int) < (l.length : Int)) = false := by rw [decide_eq_false_iff_not]; omega
  have hdr : l.drop i = [] := List.drop_eq_nil_of_le (by omega)
  have hz : (subsB kind (l.drop i)).length = 0 := by rw [hdr]; rfl
  have hz' : a + (subsB kind (l.drop i)).length = a := by omega
  rw [hz']
  refine ⟨h,?_,Ext.refl h⟩
  simp only [paiB,paeO,pajV,zZ,hd,qZ,pajW,qW,cond_false]
 | succ d ih =>
  intro i m h a hi hm sl ha
  obtain ⟨m,rfl⟩ : ∃ r,m = r + 1 := ⟨m - 1,by omega⟩
  have hd : decide ((i : Int) < (l.length : Int)) = true := by rw [decide_eq_true_iff]; omega
  have hil : i < l.length := by omega
  obtain ⟨s,hsi⟩ : ∃ s,l[i]? = some s := ⟨l[i],List.getElem?_eq_getElem hil⟩
  obtain ⟨hs1,hs2⟩ := hs s (List.mem_of_getElem? hsi)
  rw [drop_cons hsi,subsB_cons,List.length_append,subB_len kn hk]
  obtain ⟨id,off,cells,own,ix,_,hg,h4,h5,_⟩ := sl.at (i := i) (e := sbC s) (by rw [List.getElem?_map,hsi]; rfl) .i64
  have ld : A.load true 2 (.pointer (some ⟨id,off,none⟩)) h = some (.agg ⟨sbC s⟩) := load_of hg h4 h5
  obtain ⟨h1,hh1⟩ : ∃ h1,h1 = h.push (.cells AnB.Z120L (some 0)) := ⟨_,rfl⟩
  have e1 : A.box 2 AnB.Z120 h = some (ptrV h.next,h1) := by rw [hh1]; rfl
  obtain ⟨h2,hh2⟩ : ∃ h2,h2 = h1.put h.next (.cells (sbC s) (some 0)) := ⟨_,rfl⟩
  have g1 : h1.get h.next = some (.cells AnB.Z120L (some 0)) := by rw [hh1,H.get_push,if_pos rfl]
  have hcl : cellsL (.agg ⟨sbC s⟩) = some (sbC s) := rfl
  have e2 : A.store 2 (ptrV h.next) (.agg ⟨sbC s⟩) h1 = some h2 := by
   rw [qU,g1,hcl,hh2]; rfl
  have x2 : Ext h h2 := by rw [hh2]; exact (hh1 ▸ Ext.push h _ : Ext h h1).put _ _ (Nat.le_refl _)
  have g2 : h2.get h.next = some (.cells (sbC s) (some 0)) := by rw [hh2,H.get_put,if_pos rfl]
  have l0 : A.load false 1 (.pointer (some ⟨h.next,0,none⟩)) h2 = some (str s.1) := by rw [qK,g2]; rfl
  have l1 : A.load false 1 (.pointer (some ⟨h.next,1,none⟩)) h2 = some (.int .u8 (s.2 : Int)) := by rw [qK,g2]; rfl
  have e142 := qB (kn.fi s.1 hs1) k h2
  have dq : decide ((mostN kind : Int) < (s.2 : Int)) = false := by rw [decide_eq_false_iff_not]; omega
  have hwt : s.1.length ≤ 4 := by
   have : ∀ c ∈ filters,c.length ≤ 4 := by decide
   exact this s.1 hs1
  have hmo : moreN kind ≤ 1 := by unfold moreN; split <;> omega
  have w1 : IntKind.i64.wrap (2 + (s.1.length : Int)) = ((2 + s.1.length : Nat) : Int) := by rw [wrap64 (by omega) (by omega)]; omega
  have w2 : IntKind.i64.wrap (((2 + s.1.length : Nat) : Int) + (moreN kind : Int)) = ((2 + s.1.length + moreN kind : Nat) : Int) := by rw [wrap64 (by omega) (by omega)]; omega
  have w3 : IntKind.i64.wrap ((a : Int) + ((2 + s.1.length + moreN kind : Nat) : Int)) = ((a + (2 + s.1.length + moreN kind) : Nat) : Int) := by rw [wrap64 (by omega) (by omega)]; omega
  have hwr : IntKind.i64.wrap ((i : Int) + 1) = ((i + 1 : Nat) : Int) := wrap_succ (by omega)
  obtain ⟨h',e,y⟩ := ih (i + 1) m h2 (a + (2 + s.1.length + moreN kind)) (by omega) (by omega) (sl.ext x2) (by omega)
  refine ⟨h',?_,x2.trans y⟩
  simp only [paiB,paeO,pajV,zZ,hd,qZ,pajW,qW,cond_true,pamC,ix,ld,e1,qX,e2,qY,Nat.zero_add,l0,e142,qQ,un_not,Bool.not_true,cond_false,l1,zY,dq,qJ,bin_add,w1,w2,w3,paqJ,hwr]
  have hfin : a + (2 + s.1.length + moreN kind + (subsB kind (l.drop (i + 1))).length) = a + (2 + s.1.length + moreN kind) + (subsB kind (l.drop (i + 1))).length := by omega
  rw [hfin]
  exact e
variable {h : H}
theorem T109 (k : Nat) {kind id : Nat} (hk : kind = 8 ∨ kind = 10) (hid : 0 < id) {w : Value} (hw : cellsL w = some [w]) {l : List Sb} (sl : SliceE 2 h w (l.map sbC)) (hl : l.length ≤ 100) (hne : 0 < l.length) (hs : ∀ s ∈ l,s.1 ∈ filters ∧ s.2 ≤ mostN kind) :
 ∃ h',callO prog 4 Q (k + 1002) 58 [.agg ⟨(mkI kind id).cells w⟩] h = some (.int .i64 ((2 + (subsB kind l).length : Nat) : Int),h') ∧ Ext h h' := by
 rw [F58eq Q (k + 1001) _ h (kn.fr 58 _ (by decide))]
 obtain ⟨ha,ea,b,x,_⟩ := box_pk (mkI kind id) hw h
 obtain ⟨hb,eb,y⟩ := T108 kn (h := ha) (k + 1000) (mkI kind id) hw hid
 have b2 := b.ext y
 have l0 : A.load false 1 (.pointer (some ⟨h.next,0,none⟩)) hb = some (.int .u8 (kind : Int)) := b2.ld rfl
 have l22 : A.load false 1 (.pointer (some ⟨h.next,22,none⟩)) hb = some w := b2.ld rfl
 have slb := (sl.ext x).ext y
 have hlen : A.lenS w = some (.int .i64 (l.length : Int)) := by have := slb.len.1; rwa [List.length_map] at this
 have hz : decide ((l.length : Int) = 0) = false := by rw [decide_eq_false_iff_not]; omega
 have c2 : decide ((2 : Int) < 0) = false := rfl
 obtain ⟨h',e,z⟩ := lp109 kn (k + 1000) (k + 1001) (fun x2 h => some (x2,h)) (fun x3 h => some (x3,h)) hk hl hs l.length 0 (k + 1001) hb 2 (by omega) (by omega) slb (by omega)
 rw [List.drop_zero] at e
 have step : ∀ (K : Value → Value → Value → Value → H → Option (Value × H)),padP (callO prog 4 Q (k + 1001)) (k + 1001) (ptrV h.next) (.int .i64 1) (.int .u8 2) (.int .i64 2) hb K = K (ptrV h.next) (.int .i64 (moreN kind : Int)) (.int .u8 (mostN kind : Int)) (.int .i64 2) hb := by
  intro K
  rcases hk with rfl | rfl
  · have d : decide (((8 : Nat) : Int) = 10) = false := rfl
    simp only [padP,qY,Nat.zero_add,qZ,l0,zQ,d,qQ,cond_false]
    rfl
  · have d : decide (((10 : Nat) : Int) = 10) = true := rfl
    simp only [padP,qY,Nat.zero_add,qZ,l0,zQ,d,qQ,cond_true]
    rfl
 refine ⟨h',?_,(x.trans y).trans z⟩
 simp only [F58,p58a,pahZ,ea,qX,paiA,b.all,qZ,eb]
 rw [step]
 simp only [pamB,zZ,c2,qZ,qQ,cond_false,qY,Nat.zero_add,l22,hlen,zQ,hz,pacZ,paqI,padN,paqK]
 exact e
end
end Go.Proofs.YtfodhidpefednaaGreatDoor.An

namespace Go.Proofs.YtfodhidpefednaaGreatDoor.An
open Tryz (prog)
open Go Go.AM AnA AnB
inductive Okp : Pk → List Sb → Prop
 | c (clean keep client will wt wp wq) (hk : keep < 256) (hc : client ∈ clients) (h1 : will = true → wt ∈ names ∧ wp = [119] ∧ wq ≤ 2) (h2 : will = false → wt = [] ∧ wp = [] ∧ wq = 0) : Okp (mkC 4 clean keep client will wt wp wq) []
 | p (dup qos retain id topic payload) (ht : topic ∈ names) (hq : qos ≤ 2) (hp : payload.length ≤ 1) (h1 : 0 < qos → 0 < id) (h2 : qos = 0 → id = 0 ∧ dup = false) (hid : id < 256) : Okp (mkP dup qos retain id topic payload) []
 | s (kind id l) (hk : kind = 8 ∨ kind = 10) (h0 : 0 < id) (hid : id < 256) (hl : l.length ≤ 2) (hne : 0 < l.length) (hs : ∀ s ∈ l,s.1 ∈ filters ∧ s.2 ≤ mostN kind) : Okp (mkI kind id) l
 | a (kind id) (hk : kind = 4 ∨ kind = 5 ∨ kind = 6 ∨ kind = 7) (h0 : 0 < id) (hid : id < 256) : Okp (mkI kind id) []
 | b (kind) (hk : kind = 12 ∨ kind = 14) : Okp (mkI kind 0) []
theorem Okp.good {p : Pk} {l : List Sb} (o : Okp p l) : Good p := by
 cases o with
 | c => exact .c ..
 | p => exact .p ..
 | s kind id l hk => exact .i _ _ (by omega)
 | a kind id hk => exact .i _ _ (by omega)
 | b kind hk => exact .b _ hk
section
variable {Q : Orc} (kn : Kn Q) {h : H}
include kn
theorem tail85 (k L : Nat) {p : Pk} (gd : Good p) {w : Value} (hw : cellsL w = some [w]) {n : Nat} (hl : A.lenS w = some (.int .i64 (n : Int))) (hn : 0 < n → p.kind = 8 ∨ p.kind = 10) {t r : Nat} (b : Bx h t p w) (hr : r ≤ 1000) :
 ∃ h',pakD (callO prog 4 Q (k + 2)) L (ptrV t) (.int .i64 (r : Int)) h (fun x2 h => some (x2,h)) = some (.int .i64 (r : Int),h') ∧ Ext h h' := by
 obtain ⟨h',e,x⟩ := T111 kn (h := h) k gd hw hl hn
 have d1 : decide ((r : Int) < 0) = false := by rw [decide_eq_false_iff_not]; omega
 have d2 : decide ((268435455 : Int) < (r : Int)) = false := by rw [decide_eq_false_iff_not]; omega
 refine ⟨h',?_,x⟩
 simp only [pakD,zZ,d1,qZ,qQ,cond_false,zY,d2,b.all,e,qX,un_not,Bool.not_true]
theorem subs_small {kind : Nat} (hk : kind = 8 ∨ kind = 10) {l : List Sb} (hl : l.length ≤ 2) (hs : ∀ s ∈ l,s.1 ∈ filters ∧ s.2 ≤ mostN kind) : (subsB kind l).length ≤ 14 := by
 have one : ∀ s ∈ l,(subB kind s).length ≤ 7 := fun s hm => by
  rw [subB_len kn hk]
  have : ∀ c ∈ filters,c.length ≤ 4 := by decide
  have := this s.1 (hs s hm).1
  have : moreN kind ≤ 1 := by unfold moreN; split <;> omega
  omega
 match l,hl with
 | [],_ => simp [subsB]
 | [a],_ =>
  have := one a (by simp)
  simp only [subsB_cons,List.length_append]
  simp [subsB]; omega
 | [a,b],_ =>
  have h1 := one a (by simp)
  have h2 := one b (by simp)
  simp only [subsB_cons,List.length_append]
  simp [subsB]; omega
theorem Okp.len {p : Pk} {l : List Sb} (o : Okp p l) : (restB p l).length ≤ 100 := by
 have hnm : ∀ c ∈ names,c.length ≤ 4 := by decide
 cases o with
 | c clean keep client will wt wp wq hk hc h1 h2 =>
  have hcl : ∀ c ∈ clients,c.length ≤ 1 := by decide
  have := hcl client hc
  have e : restB (mkC 4 clean keep client will wt wp wq) [] = connB (mkC 4 clean keep client will wt wp wq) := rfl
  rw [e,connB_len]
  show 12 + client.length + (if will then 4 + wt.length + wp.length else 0) ≤ 100
  cases will with
  | false => simp; omega
  | true =>
   obtain ⟨a,b,c⟩ := h1 rfl
   have := hnm wt a
   rw [b]
   simp; omega
 | p dup qos retain id topic payload ht hq hp h1 h2 hid =>
  have := hnm topic ht
  have e : restB (mkP dup qos retain id topic payload) [] = fieldB topic ++ (if 0 < id then wordB id else []) ++ [] ++ payload := rfl
  rw [e]
  simp only [List.length_append,fieldB_len,List.length_nil]
  split <;> simp [wordB] <;> omega
 | s kind id l hk h0 hid hl hne hs =>
  have := subs_small kn hk hl hs
  have e : restB (mkI kind id) l = [] ++ wordB id ++ subsB kind l ++ [] := by
   unfold restB
   rw [if_neg (by show ¬ kind = 1; omega),if_neg (by show ¬ kind = 3; omega),if_pos (by exact h0)]; rfl
  rw [e]
  simp only [List.length_append,List.length_nil,wordB,List.length_cons]
  omega
 | a kind id hk h0 hid =>
  have e : restB (mkI kind id) [] = [] ++ wordB id ++ [] ++ [] := by
   unfold restB
   rw [if_neg (by show ¬ kind = 1; omega),if_neg (by show ¬ kind = 3; omega),if_pos (by exact h0)]; rfl
  rw [e]; simp [wordB]
 | b kind hk =>
  have e : restB (mkI kind 0) [] = [] := by
   unfold restB
   rw [if_neg (by show ¬ kind = 1; omega),if_neg (by show ¬ kind = 3; omega)]; rfl
  rw [e]; simp
theorem T85 (k : Nat) {p : Pk} {l : List Sb} (o : Okp p l) {w : Value} (sl : SliceE 2 h w (l.map sbC)) : ∃ h',callO prog 4 Q (k + 1005) 36 [.agg ⟨p.cells w⟩] h = some (.int .i64 ((restB p l).length : Int),h') ∧ Ext h h' := by
 rw [F36eq Q (k + 1004) _ h (kn.fr 36 _ (by decide))]
 have hw := sl.cells
 have gd := o.good
 have hr := o.len kn
 obtain ⟨ha,ea,b,x,_⟩ := box_pk p hw h
 have hlen : A.lenS w = some (.int .i64 (l.length : Int)) := by have := sl.len.1; rwa [List.length_map] at this
 have hn : 0 < l.length → p.kind = 8 ∨ p.kind = 10 := by
  cases o with
  | s kind id l hk => exact fun _ => hk
  | _ => intro h; simp at h
 have l0 := b.ld (i := 0) rfl
 suffices hs : ∃ hb,(∀ K : Value → Value → H → Option (Value × H),paaA (callO prog 4 Q (k + 1004)) (k + 1004) (ptrV h.next) (.int .i64 (-1)) ha K = K (ptrV h.next) (.int .i64 ((restB p l).length : Int)) hb) ∧ Ext ha hb by
  obtain ⟨hb,hs,y⟩ := hs
  obtain ⟨h',e,z⟩ := tail85 kn (h := hb) (k + 1002) (k + 1004) gd hw hlen hn (b.ext y) (show (restB p l).length ≤ 1000 by omega)
  refine ⟨h',?_,(x.trans y).trans z⟩
  simp only [F36,p36a,palN,ea,qX,palO]
  rw [hs]; exact e
 cases o with
 | c clean keep client will wt wp wq hk hc h1 h2 =>
  obtain ⟨hb,e,y⟩ := T106 kn (h := ha) (k + 1002) (clean := clean) (keep := keep) hw hc (fun e => by obtain ⟨a,b,c⟩ := h1 e; exact ⟨a,by rw [b]; decide,c⟩) h2
  have e : callO prog 4 Q (k + 1004) 55 [.agg ⟨(mkC 4 clean keep client will wt wp wq).cells w⟩] ha = some (.int .i64 ((restB (mkC 4 clean keep client will wt wp wq) []).length : Int),hb) := e
  have l0 : A.load false 1 (.pointer (some ⟨h.next,0,none⟩)) ha = some (.int .u8 1) := l0
  have d1 : decide ((1 : Int) = 1) = true := rfl
  refine ⟨hb,fun K => ?_,y⟩
  simp only [paaA,pahI,qY,Nat.zero_add,qZ,l0,paaB,pahJ,zQ,d1,decide_true,qQ,paaC,qW,cond_true,paqA,b.all,e,qX]
 | p dup qos retain id topic payload ht hq hp h1 h2 hid =>
  obtain ⟨hb,e,y⟩ := T107 kn (h := ha) (k + 1002) (retain := retain) hw ht hq (by omega : payload.length ≤ 100) h1 h2
  have e : callO prog 4 Q (k + 1004) 56 [.agg ⟨(mkP dup qos retain id topic payload).cells w⟩] ha = _ := e
  have l0 : A.load false 1 (.pointer (some ⟨h.next,0,none⟩)) ha = some (.int .u8 3) := l0
  have d1 : decide ((3 : Int) = 1) = false := rfl
  have d2 : decide ((3 : Int) = 2) = false := rfl
  have d3 : decide ((3 : Int) = 3) = true := rfl
  refine ⟨hb,fun K => ?_,y⟩
  simp only [paaA,pahI,qY,Nat.zero_add,qZ,l0,paaB,pahJ,zQ,d1,d2,d3,decide_true,qQ,paaC,qW,cond_false,cond_true,paaE,pahY,paaG,paaL,pajT,paaQ,papZ,b.all,e,qX]
 | s kind id l hk h0 hid hl hne hs =>
  obtain ⟨hb,e,y⟩ := T109 kn (h := ha) (k + 2) hk h0 hw (sl.ext x) (by omega) hne hs
  have er : (restB (mkI kind id) l).length = 2 + (subsB kind l).length := by
   have e : restB (mkI kind id) l = [] ++ wordB id ++ subsB kind l ++ [] := by
    unfold restB
    rw [if_neg (by show ¬ kind = 1; omega),if_neg (by show ¬ kind = 3; omega),if_pos (by exact h0)]; rfl
   rw [e]; simp [wordB]; omega
  rw [er]
  have l0 : A.load false 1 (.pointer (some ⟨h.next,0,none⟩)) ha = some (.int .u8 (kind : Int)) := l0
  have d1 : decide ((kind : Int) = 1) = false := by rw [decide_eq_false_iff_not]; omega
  have d2 : decide ((kind : Int) = 2) = false := by rw [decide_eq_false_iff_not]; omega
  have d3 : decide ((kind : Int) = 3) = false := by rw [decide_eq_false_iff_not]; omega
  have d4 : decide ((kind : Int) = 4) = false := by rw [decide_eq_false_iff_not]; omega
  have d5 : decide ((kind : Int) = 5) = false := by rw [decide_eq_false_iff_not]; omega
  have d6 : decide ((kind : Int) = 6) = false := by rw [decide_eq_false_iff_not]; omega
  have d7 : decide ((kind : Int) = 7) = false := by rw [decide_eq_false_iff_not]; omega
  have d11 : decide ((kind : Int) = 11) = false := by rw [decide_eq_false_iff_not]; omega
  have e : callO prog 4 Q (k + 1004) 58 [.agg ⟨(mkI kind id).cells w⟩] ha = _ := e
  refine ⟨hb,fun K => ?_,y⟩
  rcases hk with rfl | rfl
  · have d8 : decide (((8 : Nat) : Int) = 8) = true := rfl
    simp only [paaA,pahI,qY,Nat.zero_add,qZ,l0,paaB,pahJ,zQ,d1,d2,d3,d4,d5,d6,d7,d11,d8,qQ,paaC,qW,cond_false,cond_true,paaE,pahY,paaG,paaL,pajT,paaQ,paaV,padR,paiK,pafQ,paiR,pabM,pacB,paiL,pacX,palR,b.all,e,qX]
  · have d8 : decide (((10 : Nat) : Int) = 8) = false := rfl
    have d10 : decide (((10 : Nat) : Int) = 10) = true := rfl
    simp only [paaA,pahI,qY,Nat.zero_add,qZ,l0,paaB,pahJ,zQ,d1,d2,d3,d4,d5,d6,d7,d11,d8,d10,qQ,paaC,qW,cond_false,cond_true,paaE,pahY,paaG,paaL,pajT,paaQ,paaV,padR,paiK,pafQ,paiR,pabM,pacB,paiL,pacX,palR,b.all,e,qX]
 | a kind id hk h0 hid =>
  obtain ⟨hb,e,y⟩ := T108 kn (h := ha) (k + 1003) (mkI kind id) hw h0
  have er : (restB (mkI kind id) []).length = 2 := by
   have e : restB (mkI kind id) [] = [] ++ wordB id ++ [] ++ [] := by
    unfold restB
    rw [if_neg (by show ¬ kind = 1; omega),if_neg (by show ¬ kind = 3; omega),if_pos (by exact h0)]; rfl
   rw [e]; simp [wordB]
  rw [er]
  have l0 : A.load false 1 (.pointer (some ⟨h.next,0,none⟩)) ha = some (.int .u8 (kind : Int)) := l0
  have d1 : decide ((kind : Int) = 1) = false := by rw [decide_eq_false_iff_not]; omega
  have d2 : decide ((kind : Int) = 2) = false := by rw [decide_eq_false_iff_not]; omega
  have d3 : decide ((kind : Int) = 3) = false := by rw [decide_eq_false_iff_not]; omega
  have e : callO prog 4 Q (k + 1004) 57 [.agg ⟨(mkI kind id).cells w⟩] ha = _ := e
  refine ⟨hb,fun K => ?_,y⟩
  obtain ⟨b4,hb4⟩ : ∃ b4,b4 = decide ((kind : Int) = 4) := ⟨_,rfl⟩
  obtain ⟨b5,hb5⟩ : ∃ b5,b5 = decide ((kind : Int) = 5) := ⟨_,rfl⟩
  obtain ⟨b6,hb6⟩ : ∃ b6,b6 = decide ((kind : Int) = 6) := ⟨_,rfl⟩
  have d7 : b4 = false → b5 = false → b6 = false → decide ((kind : Int) = 7) = true := fun h4 h5 h6 => by
   rw [h4] at hb4; rw [h5] at hb5; rw [h6] at hb6
   have := of_decide_eq_false hb4.symm
   have := of_decide_eq_false hb5.symm
   have := of_decide_eq_false hb6.symm
   rw [decide_eq_true_iff]; omega
  simp only [paaA,pahI,qY,Nat.zero_add,qZ,l0,paaB,pahJ,zQ,d1,d2,d3,← hb4,← hb5,← hb6,qQ,paaC,qW,cond_false,paaE,pahY,paaG,paaL,pajT,paaQ,paaV,padR,paiK,pafQ,paiR,papY]
  cases b4 with
  | true => simp only [cond_true,pabM,qW,pakC,b.all,qZ,e,qX]; rfl
  | false =>
   cases b5 with
   | true => simp only [cond_true,cond_false,pabM,qW,pakC,b.all,qZ,e,qX]; rfl
   | false =>
    cases b6 with
    | true => simp only [cond_true,cond_false,pabM,qW,pakC,b.all,qZ,e,qX]; rfl
    | false =>
     have d7 := d7 rfl rfl rfl
     simp only [cond_true,cond_false,d7,pabM,qW,pakC,b.all,qZ,e,qX]; rfl
 | b kind hk =>
  have er : (restB (mkI kind 0) []).length = 0 := by
   have e : restB (mkI kind 0) [] = [] := by
    unfold restB
    rw [if_neg (by show ¬ kind = 1; omega),if_neg (by show ¬ kind = 3; omega)]; rfl
   rw [e]; rfl
  rw [er]
  have l0 : A.load false 1 (.pointer (some ⟨h.next,0,none⟩)) ha = some (.int .u8 (kind : Int)) := l0
  refine ⟨ha,fun K => ?_,Ext.refl ha⟩
  have dd : ∀ c : Nat,c ≠ 12 → c ≠ 14 → decide ((kind : Int) = (c : Int)) = false := fun c h1 h2 => by rw [decide_eq_false_iff_not]; omega
  have d1 := dd 1 (by omega) (by omega)
  have d2 := dd 2 (by omega) (by omega)
  have d3 := dd 3 (by omega) (by omega)
  have d4 := dd 4 (by omega) (by omega)
  have d5 := dd 5 (by omega) (by omega)
  have d6 := dd 6 (by omega) (by omega)
  have d7 := dd 7 (by omega) (by omega)
  have d8 := dd 8 (by omega) (by omega)
  have d9 := dd 9 (by omega) (by omega)
  have d10 := dd 10 (by omega) (by omega)
  have d11 := dd 11 (by omega) (by omega)
  have d13 := dd 13 (by omega) (by omega)
  rcases hk with rfl | rfl
  · have d12 : decide (((12 : Nat) : Int) = 12) = true := rfl
    simp only [paaA,pahI,qY,Nat.zero_add,qZ,l0,paaB,pahJ,zQ]
    rfl
  · simp only [paaA,pahI,qY,Nat.zero_add,qZ,l0,paaB,pahJ,zQ]
    rfl
end
end Go.Proofs.YtfodhidpefednaaGreatDoor.An

namespace Go.Proofs.YtfodhidpefednaaGreatDoor.An
open Tryz (prog)
open Go Go.AM AnA AnB
def encB (p : Pk) (l : List Sb) : List UInt8 := [UInt8.ofNat (16 * p.kind + flagsN p),UInt8.ofNat (restB p l).length] ++ restB p l
theorem first_bits {c f : Nat} (hc : c < 16) (hf : f < 16) : A.bin prog .shl 5 (.int .u8 (c : Int)) (.int .u64 4) = some (.int .u8 ((16 * c : Nat) : Int)) ∧ A.bin prog .or 5 (.int .u8 ((16 * c : Nat) : Int)) (.int .u8 (f : Int)) = some (.int .u8 ((16 * c + f : Nat) : Int)) := by
 have a1 : ((List.range 16).all fun c => match A.bin prog .shl 5 (.int .u8 (c : Int)) (.int .u64 4) with | some v => AM.same v (.int .u8 ((16 * c : Nat) : Int)) | none => false) = true := by kernel_rfl
 have a2 : ((List.range 16).all fun c => (List.range 16).all fun f => match A.bin prog .or 5 (.int .u8 ((16 * c : Nat) : Int)) (.int .u8 (f : Int)) with | some v => AM.same v (.int .u8 ((16 * c + f : Nat) : Int)) | none => false) = true := by kernel_rfl
 refine ⟨?_,?_⟩
 · have := List.all_eq_true.1 a1 c (List.mem_range.2 hc)
   split at this
   · rename_i v hv
     rw [hv,same_eq _ _ this]
   · cases this
 · have := List.all_eq_true.1 (List.all_eq_true.1 a2 c (List.mem_range.2 hc)) f (List.mem_range.2 hf)
   split at this
   · rename_i v hv
     rw [hv,same_eq _ _ this]
   · cases this
theorem Okp.facts {p : Pk} {l : List Sb} (o : Okp p l) : p.kind < 16 ∧ flagsN p < 16 ∧ p.qos ≤ 2 ∧ p.kind ≠ 2 ∧ p.id < 256 ∧ l.length ≤ 2 ∧ (∀ s ∈ l,s.1 ∈ texts ∧ s.2 < 256) ∧ (p.kind = 3 → p.topic ∈ texts) ∧
 (p.kind = 1 → p.level < 256 ∧ p.keep < 256 ∧ p.wq ≤ 2 ∧ p.client ∈ texts ∧ (p.will = true → p.wt ∈ texts ∧ p.wp ∈ texts)) := by
 have nt : ∀ c ∈ names,c ∈ texts := by decide
 have ct : ∀ c ∈ clients,c ∈ texts := by decide
 have ft : ∀ c ∈ filters,c ∈ texts := by decide
 cases o with
 | c clean keep client will wt wp wq hk hc h1 h2 =>
  refine ⟨by show 1 < 16; omega,by show (0 : Nat) < 16; omega,by show 0 ≤ 2; omega,by show 1 ≠ 2; omega,by show 0 < 256; omega,by simp,by simp,fun h => absurd (show (1 : Nat) = 3 from h) (by omega),fun _ => ⟨by show 4 < 256; omega,hk,?_,ct _ hc,fun h => ?_⟩⟩
  · show wq ≤ 2
    cases will with
    | true => exact (h1 rfl).2.2
    | false => rw [(h2 rfl).2.2]; omega
  · obtain ⟨a,b,_⟩ := h1 h
    exact ⟨nt _ a,by show wp ∈ texts; rw [b]; decide⟩
 | p dup qos retain id topic payload ht hq hp h1 h2 hid =>
  refine ⟨by show 3 < 16; omega,?_,hq,by show 3 ≠ 2; omega,hid,by simp,by simp,fun _ => nt _ ht,fun h => absurd (show (3 : Nat) = 1 from h) (by omega)⟩
  show (if dup then 8 else 0) + 2 * qos + (if retain then 1 else 0) < 16
  cases dup <;> cases retain <;> simp <;> omega
 | s kind id l hk h0 hid hl hne hs =>
  refine ⟨by show kind < 16; omega,?_,by show 0 ≤ 2; omega,by show kind ≠ 2; omega,hid,hl,fun s hm => ⟨ft _ (hs s hm).1,?_⟩,fun h => absurd (show kind = 3 from h) (by omega),fun h => absurd (show kind = 1 from h) (by omega)⟩
  · have e : flagsN (mkI kind id) = 2 := by
     unfold flagsN
     rw [if_neg (by show ¬ kind = 3; omega),if_pos (by show kind = 6 ∨ kind = 8 ∨ kind = 10; omega)]
    rw [e]; omega
  · have := (hs s hm).2
    have : mostN kind ≤ 2 := by unfold mostN; split <;> omega
    omega
 | a kind id hk h0 hid =>
  refine ⟨by show kind < 16; omega,?_,by show 0 ≤ 2; omega,by show kind ≠ 2; omega,hid,by simp,by simp,fun h => absurd (show kind = 3 from h) (by omega),fun h => absurd (show kind = 1 from h) (by omega)⟩
  unfold flagsN
  rw [if_neg (by show ¬ kind = 3; omega)]
  split <;> omega
 | b kind hk =>
  refine ⟨by show kind < 16; omega,?_,by show 0 ≤ 2; omega,by show kind ≠ 2; omega,by show 0 < 256; omega,by simp,by simp,fun h => absurd (show kind = 3 from h) (by omega),fun h => absurd (show kind = 1 from h) (by omega)⟩
  unfold flagsN
  rw [if_neg (by show ¬ kind = 3; omega)]
  split <;> omega
section
variable {Q : Orc} (kn : Kn Q) {h : H}
include kn
theorem T83 (k : Nat) {p : Pk} {l : List Sb} (o : Okp p l) {w : Value} (sl : SliceE 2 h w (l.map sbC)) : ∃ h',callO prog 4 Q (k + 1006) 97 [.agg ⟨p.cells w⟩] h = some (.int .i64 ((2 + (restB p l).length : Nat) : Int),h') ∧ Ext h h' := by
 rw [F97eq Q (k + 1005) _ h (kn.fr 97 _ (by decide))]
 have hw := sl.cells
 have hr := o.len kn
 obtain ⟨ha,ea,b,x,_⟩ := box_pk p hw h
 obtain ⟨hb,e85,y⟩ := T85 kn (h := ha) k o (sl.ext x)
 have d1 : decide (((restB p l).length : Int) < 0) = false := by rw [decide_eq_false_iff_not]; omega
 have e105 := qB (kn.sz (restB p l).length (by omega)) (k + 1004) hb
 have w1 : IntKind.i64.wrap ((1 : Int) + 1) = 2 := rfl
 have w2 : IntKind.i64.wrap ((2 : Int) + ((restB p l).length : Int)) = ((2 + (restB p l).length : Nat) : Int) := by rw [wrap64 (by omega) (by omega)]; omega
 refine ⟨hb,?_,x.trans y⟩
 simp only [F97,p97a,ea,qX,b.all,qZ,e85,zZ,d1,qQ,cond_false,e105,bin_add,w1,w2]
set_option maxRecDepth 100000 in
theorem T56 (k : Nat) {p : Pk} {l : List Sb} (o : Okp p l) {w : Value} (sl : SliceE 2 h w (l.map sbC)) {x : Value} (sx : SliceE 24 h x [p.cells w]) :
 ∃ h',callO prog 4 Q (k + 2010) 75 [x] h = some (.tuple ⟨[str (encB p l),.int .i64 0]⟩,h') ∧ Ext h h' := by
 rw [F75eq Q (k + 2009) _ h (kn.fr 75 _ (by decide))]
 have hw := sl.cells
 have hr := o.len kn
 obtain ⟨f1,f2,f3,f4,f5,f6,f7,f8,f9⟩ := o.facts
 have hl : A.lenS x = some (.int .i64 1) := sx.len.1
 have c1 : decide ((0 : Int) < 1) = true := rfl
 have c2 : decide ((1 : Int) < 1) = false := rfl
 have w1 : IntKind.i64.wrap ((0 : Int) + 1) = 1 := rfl
 obtain ⟨id,off,cells,own,ix,_,hg,h4,h5,_⟩ := sx.at (i := 0) (e := p.cells w) rfl .i64
 have ix : A.idxS 24 x (.int .i64 0) = some (.pointer (some ⟨id,off,none⟩)) := ix
 have ld : A.load true 24 (.pointer (some ⟨id,off,none⟩)) h = some (.agg ⟨p.cells w⟩) := load_of hg h4 h5
 have bx : ∀ {h : H},∃ h',A.box 24 AnA.Z39 h = some (ptrV h.next,h.push (.cells AnA.Z39L (some 0))) ∧ A.store 24 (ptrV h.next) (.agg ⟨p.cells w⟩) (h.push (.cells AnA.Z39L (some 0))) = some h' ∧ Bx h' h.next p w ∧ Ext h h' := fun {h} => by
  refine ⟨(h.push (.cells AnA.Z39L (some 0))).put h.next (.cells (p.cells w) (some 0)),rfl,?_,⟨by rw [H.get_put,if_pos rfl],Nat.lt_succ_self _⟩,(Ext.push h _).put _ _ (Nat.le_refl _)⟩
  have hcl : cellsL (.agg ⟨p.cells w⟩) = some (p.cells w) := rfl
  rw [qU,H.get_push,if_pos rfl,hcl]; rfl
 obtain ⟨ha,ea,sa,ba,xa⟩ := bx (h := h)
 obtain ⟨hb,e83,xb⟩ := T83 kn (h := ha) (k + 1003) o (sl.ext xa)
 have e83 : callO prog 4 Q (k + 2009) 97 [.agg ⟨p.cells w⟩] ha = _ := e83
 have dz : decide (((2 + (restB p l).length : Nat) : Int) = 0) = false := by rw [decide_eq_false_iff_not]; omega
 have ws : IntKind.i64.wrap ((0 : Int) + ((2 + (restB p l).length : Nat) : Int)) = ((2 + (restB p l).length : Nat) : Int) := by rw [wrap64 (by omega) (by omega)]; omega
 obtain ⟨hc,ec,bc,xc,nc⟩ := Buf.make hb (z := AnA.Z5L) rfl (2 + (restB p l).length) (by omega)
 have xhc : Ext h hc := (xa.trans xb).trans xc
 have slc := sl.ext xhc
 have sxc := sx.ext xhc
 obtain ⟨id',off',cells',own',ix',_,hg',h4',h5',_⟩ := sxc.at (i := 0) (e := p.cells w) rfl .i64
 have ix' : A.idxS 24 x (.int .i64 0) = some (.pointer (some ⟨id',off',none⟩)) := ix'
 have ld' : A.load true 24 (.pointer (some ⟨id',off',none⟩)) hc = some (.agg ⟨p.cells w⟩) := load_of hg' h4' h5'
 obtain ⟨hd,ed,sd,bd,xd⟩ := bx (h := hc)
 obtain ⟨he,e85,xe⟩ := T85 kn (h := hd) (k + 1004) o (slc.ext xd)
 have e85 : callO prog 4 Q (k + 2009) 36 [.agg ⟨p.cells w⟩] hd = _ := e85
 have e84 := qB (kn.ln (restB p l).length (by omega)) (k + 2008) he
 have t0 : A.extract 0 (.tuple ⟨[str [UInt8.ofNat (restB p l).length],.int .i64 0]⟩) = some (str [UInt8.ofNat (restB p l).length]) := rfl
 have t1 : A.extract 1 (.tuple ⟨[str [UInt8.ofNat (restB p l).length],.int .i64 0]⟩) = some (.int .i64 0) := rfl
 have be := bd.ext xe
 have l0 := be.ld (i := 0) rfl
 obtain ⟨hf,e86,xf⟩ := T86 kn (h := he) (k + 2007) p hw f3
 have e86 : callO prog 4 Q (k + 2009) 99 [.agg ⟨p.cells w⟩] he = _ := e86
 have bf := be.ext xf
 have m0 := bf.ld (i := 0) rfl
 obtain ⟨s1,s2⟩ := first_bits f1 f2
 obtain ⟨hg2,eg,elg,xg,ng⟩ := lit1 hf (z := AnA.Z5L) rfl ((16 * p.kind + flagsN p : Nat) : Int) (UInt8.ofNat (16 * p.kind + flagsN p)) (ofNat_int (by omega))
 obtain ⟨v1,h1,e1,b1,y1,_⟩ := ((((bc.ext xd).ext xe).ext xf).ext xg).app (new := [UInt8.ofNat (16 * p.kind + flagsN p)]) elg rfl (by simp only [List.length_nil,List.length_cons]; omega)
 obtain ⟨v2,h2,e2,b2,y2,_⟩ := b1.app (elems_str [UInt8.ofNat (restB p l).length] h1) (lenOf_str _) (by simp)
 have hbq : hb.next ≠ hc.next := by omega
 have bq : Bx h2 hc.next p w := ((bf.ext xg).but y1 (fun e => hbq e.symm)).but y2 (fun e => hbq e.symm)
 have hsq : ∀ j,sid w = some j → j < h.next := fun j hj => sl.sid_lt j hj
 have hbn : h.next ≤ hb.next := (xa.trans xb).next
 have hne : sid w ≠ some hb.next := fun e => by have := hsq _ e; omega
 have slq : SliceE 2 h2 w (l.map sbC) := ((((((slc.ext xd).ext xe).ext xf).ext xg).extBut y1 fun j hj e => by have := hsq j hj; omega).extBut y2 fun j hj e => by have := hsq j hj; omega)
 obtain ⟨v3,h3,e87,b3,y3⟩ := T87 kn (h := h2) (k + 3) p hw slq (by omega) f7 b2 hne f4 f9 f8 f5 (by simp only [List.nil_append,List.length_append,List.length_cons,List.length_nil]; omega)
 have e87 : callO prog 4 Q (k + 2009) 100 [v2,.agg ⟨p.cells w⟩] h2 = _ := e87
 have eb := b3.b2s
 have loopA : ∀ (kr : Value → Value → H → Option (Value × H)) (kx : Value → Value → H → Option (Value × H)),pamH (callO prog 4 Q (k + 2009)) (k + 2009) kr kx (k + 2007 + 1 + 1) (.int .i64 1) (.int .i64 0) x (.int .i64 0) x h = kx (.int .i64 ((2 + (restB p l).length : Nat) : Int)) x hb := by
  intro kr kx
  generalize k + 2007 = m
  simp only [pamH,pauH,zZ,c1,qZ,qW,cond_true,ix,ld,ea,qX,sa,ba.all,e83,zQ,dz,qQ,cond_false,bin_add,ws,w1,c2]
 have loopB : ∀ (kx : Value → H → Option (Value × H)),pamI (callO prog 4 Q (k + 2009)) (k + 2009) kx (k + 2007 + 1 + 1) (.int .i64 1) (.int .i64 0) x (.slice (some ⟨hb.next,0,none⟩) 0 (2 * (2 + (restB p l).length) + 1)) hc = kx v3 h3 := by
  intro kx
  generalize k + 2007 = m
  simp only [pamI,paeP,pauK,zZ,c1,qZ,pauL,qW,cond_true,pahB,pauM,ix',ld',ed,qX,sd,pauN,bd.all,e85,e84,t0,t1,pauO,qY,Nat.zero_add,l0,s1,be.all,e86,m0,chk_u8,Bool.and_true,s2,eg,e1,e2,bq.all,e87,pauP,bin_add,w1,c2,cond_false]
 refine ⟨h3,?_,?_⟩
 · simp only [F75,p75a,pauE,pauF,pafR,pauG,hl,qZ,pahH]
   refine (loopA _ _).trans ?_
   simp only [pauI,ec,qX,padJ,pauJ,hl,qZ,padU]
   refine (loopB _).trans ?_
   simp only [pauQ,eb,qZ]
   rfl
 · have xq : ExtBut (fun i => i = hb.next) hc h3 := ((((((xd.trans xe).trans xf).trans xg).but).trans y1).trans y2).trans y3
   refine ⟨Nat.le_trans xhc.next xq.next,fun i hi => ?_⟩
   rw [xq.get i (Nat.lt_of_lt_of_le hi xhc.next) (by omega),xhc.get i hi]
end
end Go.Proofs.YtfodhidpefednaaGreatDoor.An

namespace Go.Proofs.YtfodhidpefednaaGreatDoor.An
open Tryz (prog)
open Go Go.AM AnA AnB
section
variable {Q : Orc} (kn : Kn Q) {h : H}
include kn
theorem T38 (k : Nat) {p : Pk} {l : List Sb} (o : Okp p l) {w : Value} (sl : SliceE 2 h w (l.map sbC)) :
 ∃ h',callO prog 4 Q (k + 2011) 51 [.agg ⟨p.cells w⟩] h = some (.tuple ⟨[str (encB p l),.int .i64 0]⟩,h') ∧ Ext h h' := by
 rw [F51eq Q (k + 2010) _ h (kn.fr 51 _ (by decide))]
 have hw := sl.cells
 obtain ⟨ha,ea,ba,xa,_⟩ := box_pk p hw h
 obtain ⟨hb,hhb⟩ : ∃ hb,hb = ha.push (.cells (p.cells w) (some 24)) := ⟨_,rfl⟩
 have eb : A.buildSlice 24 1 AnA.Z39L [(0,24,.agg ⟨p.cells w⟩)] ha = some (.slice (some ⟨ha.next,0,none⟩) 1 3,hb) := by
  rw [hhb]; exact buildSlice_one ha rfl rfl rfl
 have xb : Ext ha hb := by rw [hhb]; exact Ext.push ha _
 have sx : SliceE 24 hb (.slice (some ⟨ha.next,0,none⟩) 1 3) [p.cells w] := by rw [hhb]; exact slice_one rfl
 obtain ⟨hc,e56,xc⟩ := T56 kn (h := hb) k o ((sl.ext xa).ext xb) sx
 have t0 : A.extract 0 (.tuple ⟨[str (encB p l),.int .i64 0]⟩) = some (str (encB p l)) := rfl
 have t1 : A.extract 1 (.tuple ⟨[str (encB p l),.int .i64 0]⟩) = some (.int .i64 0) := rfl
 refine ⟨hc,?_,(xa.trans xb).trans xc⟩
 simp only [F51,p51a,ea,qX,ba.all,qZ,eb,e56,t0,t1]
end
end Go.Proofs.YtfodhidpefednaaGreatDoor.An
