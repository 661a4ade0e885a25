import Derived.Test.YtohapjojkjjflaaDoorRi
import Derived.Lib.Bytealg
set_option maxRecDepth 100000
namespace Go.Proofs.YtohapjojkjjflaaDoor.Wc
open Go Go.AM WcA
theorem find_some {s : ByteArray} {b : UInt8} : (match (List.range s.size).find? fun i => s[i]! == b with | some i => (i : Int) | none => -1) = Lib.indexByte s.data.toList b := Lib.firstIdx_eq s b
theorem nextS_some {h : H} {id pos c w : Nat} {s : ByteArray} (g : h.get id = some (.siter s pos)) (e : A.charAt s pos = some (c,w)) : A.nextS (.pointer (some ⟨id,0,none⟩)) h = some (.tuple ⟨[.bool true,.int .i64 (pos : Int),.int .i32 (c : Int)]⟩,h.put id (.siter s (pos + w))) := by
 show (match h.get id with | some (.siter s pos) => _ | _ => none) = _
 rw [g]
 simp only [e]
theorem nextS_none {h : H} {id pos : Nat} {s : ByteArray} (g : h.get id = some (.siter s pos)) (e : A.charAt s pos = none) : A.nextS (.pointer (some ⟨id,0,none⟩)) h = some (.tuple ⟨[.bool false]⟩,h) := by
 show (match h.get id with | some (.siter s pos) => _ | _ => none) = _
 rw [g]
 simp only [e]
def enc (c : Nat) : List UInt8 := (Utf8.encode (c : Int)).data.toList
theorem enc_two {c : Nat} (h1 : 128 ≤ c) (h2 : c < 2048) : ∃ a b : UInt8,enc c = [a,b] ∧ 128 ≤ b.toNat := by
 have hv : Utf8.valid (c : Int) = true := by unfold Utf8.valid; simp; omega
 refine ⟨UInt8.ofNat (0xC0 + c / 64),UInt8.ofNat (0x80 + c % 64),?_,?_⟩
 · unfold enc Utf8.encode
   simp only [hv,if_true,Int.toNat_natCast]
   rw [if_neg (by omega),if_pos (by omega)]
 · rw [UInt8.toNat_ofNat']; omega
theorem enc_more {c : Nat} (h2 : 2048 ≤ c) : 3 ≤ (enc c).length ∧ (enc c).length ≤ 4 := by
 unfold enc Utf8.encode
 simp only
 by_cases hv : Utf8.valid (c : Int) = true
 · simp only [hv,if_true,Int.toNat_natCast]
   rw [if_neg (by omega),if_neg (by omega)]
   split
   · exact ⟨by show 3 ≤ 3; omega,by show 3 ≤ 4; omega⟩
   · exact ⟨by show 3 ≤ 4; omega,by show 4 ≤ 4; omega⟩
 · have hv : Utf8.valid (c : Int) = false := by simpa using hv
   simp only [hv,Bool.false_eq_true,if_false]
   exact ⟨by decide,by decide⟩
section
variable {Q : Orc} (kb : KnA Q) {h : H}
include kb
theorem T269 (k : Nat) (s : List UInt8) {c : Nat} (hc : c < 256) : callO Tryd.prog 2 Q (k + 1) 83 [str s,.int .u8 (c : Int)] h = some (.int .i64 (Lib.indexByte s (UInt8.ofNat c)),h) := by
 have hq : Q 83 [str s,.int .u8 (c : Int)] = none := kb.fr 83 _ (by decide)
 have hb : ((Tryd.prog.funcs[83]?).map fun fn => (fn.body.isNone,extK fn)) = some (true,1) := by kernel_rfl
 obtain ⟨fn,hf,hfb⟩ : ∃ fn,Tryd.prog.funcs[83]? = some fn ∧ (fn.body.isNone,extK fn) = (true,1) := by
  cases hf : Tryd.prog.funcs[83]? with
  | none => rw [hf] at hb; cases hb
  | some fn => rw [hf] at hb; exact ⟨fn,rfl,Option.some.inj hb⟩
 have h1 : fn.body = none := Option.isNone_iff_eq_none.1 (congrArg Prod.fst hfb)
 have h2 : extK fn = 1 := congrArg Prod.snd hfb
 simp only [callO,hq,hf,h1,h2]
 have e : (((c : Int).toNat).toUInt8) = UInt8.ofNat c := rfl
 show some (Value.int .i64 (match (List.range (⟨⟨s⟩⟩ : ByteArray).size).find? fun i => (⟨⟨s⟩⟩ : ByteArray)[i]! == ((c : Int).toNat).toUInt8 with | some i => (i : Int) | none => -1),h) = _
 rw [e,find_some]
theorem T251 (k : Nat) (s : List UInt8) {c : Nat} (hc : c < 256) : callO Tryd.prog 2 Q (k + 2) 81 [str s,.int .u8 (c : Int)] h = some (.int .i64 (Lib.indexByte s (UInt8.ofNat c)),h) := by
 rw [F81eq Q (k + 1) _ _ h (kb.fr 81 _ (by decide))]
 simp only [F81,p81a,T269 kb k s hc,qX]
theorem T213 (k : Nat) (s : List UInt8) {c : Nat} (hc : c < 256) : callO Tryd.prog 2 Q (k + 3) 74 [str s,.int .u8 (c : Int)] h = some (.int .i64 (Lib.indexByte s (UInt8.ofNat c)),h) := by
 rw [F74eq Q (k + 2) _ _ h (kb.fr 74 _ (by decide))]
 simp only [F74,p74a,T251 kb k s hc,qX]
theorem T214 (k : Nat) {c : Nat} : ∃ b,callO Tryd.prog 2 Q (k + 1) 75 [.int .i32 (c : Int)] h = some (.bool b,h) := by
 rw [F75eq Q k _ h (kb.fr 75 _ (by decide))]
 have d0 : decide ((0 : Int) ≤ (c : Int)) = true := decide_eq_true (by omega)
 cases d1 : decide ((c : Int) < 55296) with
 | true =>
  refine ⟨true,?_⟩
  simp only [F75,p75a,pakY,paeK,pakZ,bin_leq,d0,qZ,qQ,cond_true,zZ,d1,pagJ,qW,pasS]
 | false =>
  cases d2 : decide ((57343 : Int) < (c : Int)) with
  | false =>
   refine ⟨false,?_⟩
   simp only [F75,p75a,pakY,paeK,pakZ,bin_leq,d0,qZ,qQ,cond_true,zZ,d1,pagJ,qW,cond_false,pamN,d2,paoJ]
  | true =>
   cases d3 : decide ((c : Int) ≤ 1114111) with
   | false =>
    refine ⟨false,?_⟩
    simp only [F75,p75a,pakY,paeK,pakZ,bin_leq,d0,qZ,qQ,cond_true,zZ,d1,pagJ,qW,cond_false,pamN,d2,d3,paoJ]
   | true =>
    refine ⟨true,?_⟩
    simp only [F75,p75a,pakY,paeK,pakZ,bin_leq,d0,qZ,qQ,cond_true,zZ,d1,pagJ,qW,cond_false,pamN,d2,d3]
omit kb in
theorem conv215 {c : Nat} (hc : c < 128) : A.conv Tryd.prog 21 5 (.int .i32 (c : Int)) = some (.int .u8 (c : Int)) := by
 have all : ((List.range 128).all fun c => match A.conv Tryd.prog 21 5 (.int .i32 (c : Int)) with | some v => AM.same v (.int .u8 (c : Int)) | none => false) = true := by kernel_rfl
 have := List.all_eq_true.1 all c (List.mem_range.2 hc)
 split at this
 · rename_i v hv
   rw [hv,same_eq _ _ this]
 · cases this
omit kb in
theorem ixPM {c : Nat} (hc : c < 128) : decide ((0 : Int) ≤ Lib.indexByte PM (UInt8.ofNat c)) = pmC c := by
 have all : ((List.range 128).all fun c => decide ((0 : Int) ≤ Lib.indexByte PM (UInt8.ofNat c)) == pmC c) = true := by kernel_rfl
 have := List.all_eq_true.1 all c (List.mem_range.2 hc)
 simpa using this
omit kb in
theorem conv219 (c : Nat) : A.conv Tryd.prog 21 9 (.int .i32 (c : Int)) = some (str (enc c)) := by kernel_rfl
theorem T160 (k : Nat) {c : Nat} (hc : c ≤ 1114111) : ∃ h' v,callO Tryd.prog 2 Q (k + 10) 66 [str PM,.int .i32 (c : Int)] h = some (.int .i64 v,h') ∧ decide ((0 : Int) ≤ v) = pmC c ∧ Ext h h' := by
 rw [F66eq Q (k + 9) _ _ h (kb.fr 66 _ (by decide))]
 have d0 : decide ((0 : Int) ≤ (c : Int)) = true := decide_eq_true (by omega)
 by_cases h128 : c < 128
 · have d1 : decide ((c : Int) < 128) = true := decide_eq_true (by omega)
   refine ⟨h,Lib.indexByte PM (UInt8.ofNat c),?_,ixPM h128,Ext.refl h⟩
   simp only [F66,p66a,panQ,paaF,paaH,panR,bin_leq,d0,qZ,qQ,cond_true,zZ,d1,paaI,qW,pasF,conv215 h128,T213 kb (h := h) (k + 6) PM (show c < 256 by omega),qX]
 have d1 : decide ((c : Int) < 128) = false := decide_eq_false (by omega)
 have hp : pmC c = false := decide_eq_false (by omega)
 have fin : decide ((0 : Int) ≤ -1) = pmC c := by rw [hp]; rfl
 have go : ∀ K : Value → H → Option (Value × H),paaF (callO Tryd.prog 2 Q (k + 9)) (k + 9) (.int .i32 (c : Int)) (str PM) h K = paaK (callO Tryd.prog 2 Q (k + 9)) (k + 9) (.bool false) (.int .i32 (c : Int)) (str PM) h K := by
  intro K
  simp only [paaF,paaH,panR,bin_leq,d0,qZ,qQ,cond_true,zZ,d1,paaI,qW,cond_false]
 simp only [F66,p66a,panQ]
 rw [go]
 by_cases hE : c = 65533
 · have dE : decide ((c : Int) = 65533) = true := decide_eq_true (by omega)
   obtain ⟨h1,hh1⟩ : ∃ h1,h1 = h.push (.siter ⟨⟨PM⟩⟩ 0) := ⟨_,rfl⟩
   have e1 : A.rangeS (str PM) h = some (ptrV h.next,h1) := by rw [hh1]; rfl
   have x1 : Ext h h1 := by rw [hh1]; exact Ext.push h _
   have g1 : h1.get h.next = some (.siter ⟨⟨PM⟩⟩ 0) := by rw [hh1,H.get_push,if_pos rfl]
   have n1 := nextS_some (c := 43) (w := 1) g1 rfl
   obtain ⟨h2,hh2⟩ : ∃ h2,h2 = h1.put h.next (.siter ⟨⟨PM⟩⟩ (0 + 1)) := ⟨_,rfl⟩
   rw [← hh2] at n1
   have g2 : h2.get h.next = some (.siter ⟨⟨PM⟩⟩ (0 + 1)) := by rw [hh2,H.get_put,if_pos rfl]
   have x2 : Ext h h2 := by rw [hh2]; exact x1.put _ _ (Nat.le_refl _)
   have n2 := nextS_some (c := 35) (w := 1) g2 rfl
   obtain ⟨h3,hh3⟩ : ∃ h3,h3 = h2.put h.next (.siter ⟨⟨PM⟩⟩ (0 + 1 + 1)) := ⟨_,rfl⟩
   rw [← hh3] at n2
   have g3 : h3.get h.next = some (.siter ⟨⟨PM⟩⟩ (0 + 1 + 1)) := by rw [hh3,H.get_put,if_pos rfl]
   have x3 : Ext h h3 := by rw [hh3]; exact x2.put _ _ (Nat.le_refl _)
   have n3 := nextS_none g3 rfl
   refine ⟨h3,-1,?_,fin,x3⟩
   have a0 : ∀ (p r : Value),A.extract 0 (.tuple ⟨[.bool true,p,r]⟩) = some (.bool true) := fun _ _ => rfl
   have a1 : ∀ (p r : Value),A.extract 1 (.tuple ⟨[.bool true,p,r]⟩) = some p := fun _ _ => rfl
   have a2 : ∀ (p r : Value),A.extract 2 (.tuple ⟨[.bool true,p,r]⟩) = some r := fun _ _ => rfl
   have b0 : A.extract 0 (.tuple ⟨[.bool false]⟩) = some (.bool false) := rfl
   have c1 : decide (((43 : Nat) : Int) = 65533) = false := rfl
   have c2 : decide (((35 : Nat) : Int) = 65533) = false := rfl
   have lp : ∀ (m L : Nat) (C : CF) (kr kx : _),pajA C L (β := Value × H) kr kx (m + 3) (ptrV h.next) h1 = kx h3 := by
    intro m L C kr kx
    simp only [pajA,pasE,n1,qX,a0,a1,a2,qZ,qQ,cond_true,zQ,c1,cond_false,n2,c2,n3,b0]
   have lp := lp (k + 6) (k + 9) (callO Tryd.prog 2 Q (k + 9))
   generalize k + 9 = M at lp ⊢
   simp only [paaK,pamL,zQ,dE,qZ,qQ,paaM,qW,cond_true,padX,paeU,pasD,e1,qX,pagM]
   have lp' : ∀ kr kx,pajA (callO Tryd.prog 2 Q M) M (β := Value × H) kr kx M (ptrV h.next) h1 = kx h3 := lp
   rw [lp']
   rfl
 · have dE : decide ((c : Int) = 65533) = false := decide_eq_false (by omega)
   obtain ⟨b,eb⟩ := T214 kb (h := h) (k + 8) (c := c)
   have eb : callO Tryd.prog 2 Q (k + 9) 75 [.int .i32 (c : Int)] h = some (.bool b,h) := eb
   refine ⟨h,-1,?_,fin,Ext.refl h⟩
   cases b with
   | false => simp only [paaK,pamL,zQ,dE,qZ,qQ,paaM,qW,cond_false,paaU,panS,eb,qX,un_not,Bool.not_false,paaV,cond_true,pasC]
   | true =>
    have st : paaK (callO Tryd.prog 2 Q (k + 9)) (k + 9) (.bool false) (.int .i32 (c : Int)) (str PM) h (fun x4 h => some (x4,h)) = pabC (callO Tryd.prog 2 Q (k + 9)) (k + 9) (str PM) (str (enc c)) h (fun x4 h => some (x4,h)) := by
     simp only [paaK,pamL,zQ,dE,qZ,qQ,paaM,qW,cond_false,paaU,panS,eb,qX,un_not,Bool.not_true,paaV,pabA,parY,conv219]
    rw [st]
    have lPM : A.lenStr (str PM) = some (.int .i64 2) := rfl
    by_cases h2 : c < 2048
    · obtain ⟨a,b,e,hb⟩ := enc_two (by omega) h2
      rw [e]
      have l2 : A.lenStr (str [a,b]) = some (.int .i64 2) := rfl
      have w1 : A.bin Tryd.prog .sub 3 (.int .i64 2) (.int .i64 1) = some (.int .i64 1) := by rw [bin_sub]; rfl
      have dl : decide ((1 : Int) < 2) = true := rfl
      have i1 : A.indexStr (str PM) (.int .i64 1) = some (.int .u8 35) := rfl
      have i2 : A.indexStr (str [a,b]) (.int .i64 1) = some (u8 b) := rfl
      have dn : decide ((35 : Int) = (b.toNat : Int)) = false := decide_eq_false (by omega)
      have w2 : A.bin Tryd.prog .add 3 (.int .i64 1) (.int .i64 1) = some (.int .i64 2) := by rw [bin_add]; rfl
      have sl : A.sliceStr (str PM) (some (.int .i64 2)) none = some (str []) := rfl
      have e213 := T213 kb (h := h) (k + 6) [] b.toNat_lt
      have e213 : callO Tryd.prog 2 Q (k + 9) 74 [str [],u8 b] h = some (.int .i64 (-1),h) := e213
      have dm : decide ((-1 : Int) < 0) = true := rfl
      have lp : ∀ (m L : Nat) (kr : Value → H → Option (Value × H)) (kx),paiK (callO Tryd.prog 2 Q (k + 9)) L kr kx (m + 1) (.int .i64 1) (.int .i64 1) (str PM) (str [a,b]) h = kr (.int .i64 (-1)) h := by
       intro m L kr kx
       simp only [paiK,pacQ,panW,lPM,qZ,zZ,dl,qQ,cond_true,padH,pagQ,parZ,i1,i2,bin_neq,dn,Bool.not_false,pasA,qW,w2,sl,e213,qX,dm]
      have lp := lp (k + 8) (k + 9)
      generalize k + 9 = M at lp ⊢
      have lp' : ∀ (kr : Value → H → Option (Value × H)) (kx),paiK (callO Tryd.prog 2 Q M) M kr kx M (.int .i64 1) (.int .i64 1) (str PM) (str [a,b]) h = kr (.int .i64 (-1)) h := lp
      simp only [pabC,panT,l2,qZ,w1,panU,panV,pabY,lp']
    · obtain ⟨l3,l4⟩ := enc_more (c := c) (by omega)
      obtain ⟨n,hn⟩ : ∃ n,n = (enc c).length := ⟨_,rfl⟩
      have ln : A.lenStr (str (enc c)) = some (.int .i64 (n : Int)) := by rw [hn]; exact qJ _
      have w1 : A.bin Tryd.prog .sub 3 (.int .i64 (n : Int)) (.int .i64 1) = some (.int .i64 ((n - 1 : Nat) : Int)) := by
       rw [bin_sub,wrap64 (by omega) (by omega)]
       congr 2; omega
      have dl : decide (((n - 1 : Nat) : Int) < 2) = false := decide_eq_false (by omega)
      have lp : ∀ (m L : Nat) (C : CF) (kr : Value → H → Option (Value × H)) (kx),paiK C L kr kx (m + 1) (.int .i64 ((n - 1 : Nat) : Int)) (.int .i64 ((n - 1 : Nat) : Int)) (str PM) (str (enc c)) h = kx h := by
       intro m L C kr kx
       simp only [paiK,pacQ,panW,lPM,qZ,zZ,dl,qQ,cond_false]
      have lp := lp (k + 8) (k + 9) (callO Tryd.prog 2 Q (k + 9))
      generalize k + 9 = M at lp ⊢
      have lp' : ∀ (kr : Value → H → Option (Value × H)) (kx),paiK (callO Tryd.prog 2 Q M) M kr kx M (.int .i64 ((n - 1 : Nat) : Int)) (.int .i64 ((n - 1 : Nat) : Int)) (str PM) (str (enc c)) h = kx h := lp
      simp only [pabC,panT,ln,qZ,w1,panU,panV,pabY,lp',pasB]
end
end Go.Proofs.YtohapjojkjjflaaDoor.Wc

set_option maxRecDepth 100000
namespace Go.Proofs.YtohapjojkjjflaaDoor.Wc
open Go Go.AM WcA
theorem dec_max (s : ByteArray) (pos : Nat) : (Utf8.decode s pos).1 ≤ 1114111 := by
 have hb : ∀ k,(s.get! (pos + k)).toNat < 256 := fun k => (s.get! (pos + k)).toNat_lt
 have h0 := hb 0; have h1 := hb 1; have h2 := hb 2; have h3 := hb 3
 simp only [Utf8.decode]
 repeat' split
 all_goals simp_all [Utf8.runeError,Utf8.valid]
 all_goals omega
theorem dec_pos (s : ByteArray) (pos : Nat) : 1 ≤ (Utf8.decode s pos).2 := by
 simp only [Utf8.decode]
 repeat' split
 all_goals simp
theorem char_le {s : ByteArray} {pos c w : Nat} (e : A.charAt s pos = some (c,w)) : pos < s.size ∧ c ≤ 1114111 ∧ 1 ≤ w := by
 obtain ⟨h,d⟩ := charAt_some e
 have h1 := dec_max s pos
 have h2 := dec_pos s pos
 rw [d] at h1 h2
 exact ⟨h,h1,h2⟩
theorem char_none {s : List UInt8} {pos : Nat} (h : s.length ≤ pos) : A.charAt ⟨⟨s⟩⟩ pos = none := by
 unfold A.charAt
 rw [show (⟨⟨s⟩⟩ : ByteArray).data.toList[pos]? = none from List.getElem?_eq_none_iff.2 h]
def runPM (s : List UInt8) : Nat → Nat → Bool
 | 0,_ => false
 | f + 1,pos => match A.charAt ⟨⟨s⟩⟩ pos with
  | none => false
  | some (c,w) => pmC c || runPM s f (pos + w)
def conB (s : List UInt8) : Bool := if 8 < s.length then s.any (fun b => pmC b.toNat) else runPM s (s.length + 1) 0
section
variable {Q : Orc} (kb : KnA Q) {h : H}
include kb
theorem T161 (k : Nat) (n : Nat) : callO Tryd.prog 2 Q (k + 1) 67 [.int .i64 (n : Int)] h = some (.bool (decide (8 < n)),h) := by
 rw [F67eq Q k _ h (kb.fr 67 _ (by decide))]
 have d : decide ((8 : Int) < (n : Int)) = decide (8 < n) := decide_eq_decide.2 (by omega)
 simp only [F67,p67a,zY,d,qZ,qQ]
theorem T163 (k : Nat) {t : Nat} {b : UInt8} (g : h.get t = some (.cells asciiPM (some 0))) : callO Tryd.prog 2 Q (k + 1) 69 [ptrV t,u8 b] h = some (.bool (pmC b.toNat),h) := by
 rw [F69eq Q k _ _ h (kb.fr 69 _ (by decide))]
 have hb := b.toNat_lt
 have ix : A.idxA 256 1 (ptrV t) (u8 b) = some (.pointer (some ⟨t,0 + b.toNat * 1,none⟩)) := by
  show (bif Nat.blt b.toNat 256 then _ else none) = _
  rw [blt_iff.2 hb]; rfl
 have l : A.load false 1 (.pointer (some ⟨t,0 + b.toNat * 1,none⟩)) h = some (.bool (pmC b.toNat)) := by
  rw [qK,g,Nat.zero_add,Nat.mul_one]
  show (asciiPM[b.toNat]?) = _
  unfold asciiPM
  rw [List.getElem?_map,List.getElem?_range hb]; rfl
 simp only [F69,p69a,qV,qZ,ix,l,qQ]
theorem lp132b (k L : Nat) {t : Nat} {s : List UInt8} (hl : s.length ≤ 1000300) (g : h.get t = some (.cells asciiPM (some 0))) :
 ∀ (d i m : Nat),i + d = s.length → d < m → ∃ v,pahV (callO Tryd.prog 2 Q (k + 1)) L (fun x4 h => some (x4,h)) (fun h => pamI (callO Tryd.prog 2 Q (k + 1)) L h (fun x4 h => some (x4,h))) m (.int .i64 (i : Int)) (ptrV t) (str s) h = some (.int .i64 v,h) ∧ decide ((0 : Int) ≤ v) = (s.drop i).any (fun b => pmC b.toNat) := by
 intro d
 induction d with
 | zero =>
  intro i m hi hm
  obtain ⟨m,rfl⟩ : ∃ r,m = r + 1 := ⟨m - 1,by omega⟩
  have hd : decide ((i : Int) < (s.length : Int)) = false := by rw [decide_eq_false_iff_not]; omega
  refine ⟨-1,?_,by rw [List.drop_eq_nil_of_le (by omega : s.length ≤ i)]; rfl⟩
  simp only [pahV,pamH,qJ,qZ,zZ,hd,qQ,cond_false,pamI]
 | succ d ih =>
  intro i m hi hm
  obtain ⟨m,rfl⟩ : ∃ r,m = r + 1 := ⟨m - 1,by omega⟩
  have hd : decide ((i : Int) < (s.length : Int)) = true := by rw [decide_eq_true_iff]; omega
  obtain ⟨b,hb⟩ : ∃ b,s[i]? = some b := ⟨_,List.getElem?_eq_getElem (by omega)⟩
  have ix := ixS hb
  have e163 := T163 kb k g (b := b)
  have hwr : IntKind.i64.wrap ((i : Int) + 1) = ((i + 1 : Nat) : Int) := wrap_succ (by omega)
  rw [drop_cons hb,List.any_cons]
  cases hp : pmC b.toNat with
  | true =>
   rw [hp] at e163
   refine ⟨(i : Int),?_,decide_eq_true (by omega)⟩
   simp only [pahV,pamH,qJ,qZ,zZ,hd,qQ,cond_true,ix,e163,qX]
  | false =>
   rw [hp] at e163
   obtain ⟨v,e,hv⟩ := ih (i + 1) m (by omega) (by omega)
   refine ⟨v,?_,hv⟩
   simp only [pahV,pamH,qJ,qZ,zZ,hd,qQ,cond_true,ix,e163,qX,cond_false,bin_add,hwr]
   exact e
theorem lp132c (k L : Nat) {t : Nat} {s : List UInt8} :
 ∀ (d m : Nat) (h : H) (pos : Nat),s.length < pos + d → d < m → h.get t = some (.siter ⟨⟨s⟩⟩ pos) → t < h.next → ∃ h' v,pahJ (callO Tryd.prog 2 Q (k + 10)) L (fun x4 h => some (x4,h)) (fun h => pakT (callO Tryd.prog 2 Q (k + 10)) L h (fun x4 h => some (x4,h))) m (ptrV t) (str PM) h = some (.int .i64 v,h') ∧ decide ((0 : Int) ≤ v) = runPM s d pos ∧ ExtBut (fun i => i = t) h h' := by
 have b0 : A.extract 0 (.tuple ⟨[.bool false]⟩) = some (.bool false) := rfl
 intro d
 induction d with
 | zero =>
  intro m h pos hi hm g lt
  obtain ⟨m,rfl⟩ : ∃ r,m = r + 1 := ⟨m - 1,by omega⟩
  have e := nextS_none g (char_none (s := s) (by omega))
  refine ⟨h,-1,?_,rfl,⟨Nat.le_refl _,fun _ _ _ => rfl⟩⟩
  simp only [pahJ,pakS,e,qX,b0,qZ,qQ,cond_false,pakT]
 | succ d ih =>
  intro m h pos hi hm g lt
  obtain ⟨m,rfl⟩ : ∃ r,m = r + 1 := ⟨m - 1,by omega⟩
  cases hc : A.charAt ⟨⟨s⟩⟩ pos with
  | none =>
   have e := nextS_none g hc
   refine ⟨h,-1,?_,?_,⟨Nat.le_refl _,fun _ _ _ => rfl⟩⟩
   · simp only [pahJ,pakS,e,qX,b0,qZ,qQ,cond_false,pakT]
   · show _ = (match A.charAt ⟨⟨s⟩⟩ pos with | none => false | some (c,w) => pmC c || runPM s d (pos + w))
     rw [hc]; rfl
  | some cw =>
   obtain ⟨c,w⟩ := cw
   obtain ⟨_,hc2,hw⟩ := char_le hc
   have e := nextS_some g hc
   obtain ⟨h1,hh1⟩ : ∃ h1,h1 = h.put t (.siter ⟨⟨s⟩⟩ (pos + w)) := ⟨_,rfl⟩
   rw [← hh1] at e
   have g1 : h1.get t = some (.siter ⟨⟨s⟩⟩ (pos + w)) := by rw [hh1,H.get_put,if_pos rfl]
   have x1 : ExtBut (fun i => i = t) h h1 := by rw [hh1]; exact ExtBut.put ⟨Nat.le_refl _,fun _ _ _ => rfl⟩ t _ rfl
   obtain ⟨h2,v,e2,hv,x2⟩ := T160 kb (h := h1) k hc2
   have a0 : A.extract 0 (.tuple ⟨[.bool true,.int .i64 (pos : Int),.int .i32 (c : Int)]⟩) = some (.bool true) := rfl
   have a1 : A.extract 1 (.tuple ⟨[.bool true,.int .i64 (pos : Int),.int .i32 (c : Int)]⟩) = some (.int .i64 (pos : Int)) := rfl
   have a2 : A.extract 2 (.tuple ⟨[.bool true,.int .i64 (pos : Int),.int .i32 (c : Int)]⟩) = some (.int .i32 (c : Int)) := rfl
   have hr : runPM s (d + 1) pos = (pmC c || runPM s d (pos + w)) := by
    show (match A.charAt ⟨⟨s⟩⟩ pos with | none => false | some (c,w) => pmC c || runPM s d (pos + w)) = _
    rw [hc]
   rw [hr]
   cases hp : pmC c with
   | true =>
    rw [hp] at hv
    refine ⟨h2,(pos : Int),?_,decide_eq_true (by omega),x1.trans x2.but⟩
    simp only [pahJ,pakS,e,qX,a0,qZ,qQ,cond_true,a1,a2,e2,bin_geq,hv]
   | false =>
    rw [hp] at hv
    have lt1 : t < h1.next := by rw [hh1]; exact lt
    obtain ⟨h3,v3,e3,hv3,x3⟩ := ih m h2 (pos + w) (by omega) (by omega) (by rw [x2.get _ lt1]; exact g1) (Nat.lt_of_lt_of_le lt1 x2.next)
    refine ⟨h3,v3,?_,hv3,(x1.trans x2.but).trans x3⟩
    simp only [pahJ,pakS,e,qX,a0,qZ,qQ,cond_true,a1,a2,e2,bin_geq,hv,cond_false]
    exact e3
theorem T132 (k : Nat) {s : List UInt8} (hl : s.length ≤ 1000300) : ∃ h' v,callO Tryd.prog 2 Q (k + 1000320) 62 [str s,str PM] h = some (.int .i64 v,h') ∧ decide ((0 : Int) ≤ v) = conB s ∧ Ext h h' := by
 rw [F62eq Q (k + 1000319) _ _ h (kb.fr 62 _ (by decide))]
 have st : A.bin Tryd.prog .eql 9 (str PM) (.string ⟨⟨[]⟩⟩) = some (.bool false) := by kernel_rfl
 have lPM : A.lenStr (str PM) = some (.int .i64 2) := rfl
 have d2 : decide ((2 : Int) = 1) = false := rfl
 have e161 := T161 kb (h := h) (k + 1000318) s.length
 have e161 : callO Tryd.prog 2 Q (k + 1000319) 67 [.int .i64 (s.length : Int)] h = _ := e161
 unfold conB
 by_cases h8 : 8 < s.length
 · rw [decide_eq_true h8] at e161
   have e162 := qB kb.qa (k + 1000318) h
   have e162 : callO Tryd.prog 2 Q (k + 1000319) 68 [str PM] h = _ := e162
   have t0 : A.extract 0 (.tuple ⟨[.agg ⟨asciiPM⟩,.bool true]⟩) = some (.agg ⟨asciiPM⟩) := rfl
   have t1 : A.extract 1 (.tuple ⟨[.agg ⟨asciiPM⟩,.bool true]⟩) = some (.bool true) := rfl
   obtain ⟨h1,hh1⟩ : ∃ h1,h1 = h.push (.cells WcA.Z105L (some 0)) := ⟨_,rfl⟩
   have e1 : A.box 256 WcA.Z105 h = some (ptrV h.next,h1) := by rw [hh1]; rfl
   have g1 : h1.get h.next = some (.cells WcA.Z105L (some 0)) := by rw [hh1,H.get_push,if_pos rfl]
   obtain ⟨h2,hh2⟩ : ∃ h2,h2 = h1.put h.next (.cells asciiPM (some 0)) := ⟨_,rfl⟩
   have la : Nat.beq asciiPM.length 256 = true := by kernel_rfl
   have lb : Nat.ble (0 + 256) WcA.Z105L.length = true := by kernel_rfl
   have ls : WcA.Z105L.length = 256 := by kernel_rfl
   have sp : splice WcA.Z105L 0 asciiPM = asciiPM := by
    have la' : asciiPM.length = 256 := by kernel_rfl
    simp only [splice,List.take_zero,List.nil_append,Nat.zero_add]
    rw [List.drop_eq_nil_of_le (by omega),List.append_nil]
   have e2 : A.store 256 (ptrV h.next) (.agg ⟨asciiPM⟩) h1 = some h2 := by
    rw [qU,g1]
    simp only [cellsL_agg,la,lb,Bool.and_self,cond_true,sp]
    rw [hh2]
   have x2 : Ext h h2 := by rw [hh2,hh1]; exact (Ext.push h _).put _ _ (Nat.le_refl _)
   have g2 : h2.get h.next = some (.cells asciiPM (some 0)) := by rw [hh2,H.get_put,if_pos rfl]
   obtain ⟨v,e,hv⟩ := lp132b kb (h := h2) (k + 1000318) (k + 1000319) hl g2 s.length 0 (k + 1000319) (by omega) (by omega)
   refine ⟨h2,v,?_,by rw [if_pos h8,hv]; rfl,x2⟩
   obtain ⟨M,hM⟩ : ∃ M,M = k + 1000319 := ⟨_,rfl⟩
   rw [← hM] at e161 e162 e ⊢
   have e : pahV (callO Tryd.prog 2 Q M) M (fun x4 h => some (x4,h)) (fun h => pamI (callO Tryd.prog 2 Q M) M h (fun x4 h => some (x4,h))) M (.int .i64 0) (ptrV h.next) (str s) h2 = some (.int .i64 v,h2) := e
   simp only [F62,p62a,panM,panN,st,qZ,qQ,cond_false,panO,lPM,zQ,d2,pabJ,panP,qJ,e161,qX,pabT,qW,cond_true,pacG,parM,e162,t0,t1,e1,e2,parN,pacY,padO,paeP,parO,pafX]
   exact e
 · rw [decide_eq_false h8] at e161
   obtain ⟨h1,hh1⟩ : ∃ h1,h1 = h.push (.siter ⟨⟨s⟩⟩ 0) := ⟨_,rfl⟩
   have e1 : A.rangeS (str s) h = some (ptrV h.next,h1) := by rw [hh1]; rfl
   have x1 : Ext h h1 := by rw [hh1]; exact Ext.push h _
   have g1 : h1.get h.next = some (.siter ⟨⟨s⟩⟩ 0) := by rw [hh1,H.get_push,if_pos rfl]
   obtain ⟨h2,v,e,hv,x2⟩ := lp132c kb (k + 1000309) (k + 1000319) (s.length + 1) (k + 1000319) h1 0 (by omega) (by omega) g1 (by rw [hh1]; exact Nat.lt_succ_self _)
   refine ⟨h2,v,?_,by rw [if_neg h8,hv],⟨Nat.le_trans x1.next x2.next,fun i hi => by rw [x2.get i (Nat.lt_of_lt_of_le hi x1.next) (by omega)]; exact x1.get i hi⟩⟩
   have e : pahJ (callO Tryd.prog 2 Q (k + 1000319)) (k + 1000319) (fun x4 h => some (x4,h)) (fun h => pakT (callO Tryd.prog 2 Q (k + 1000319)) (k + 1000319) h (fun x4 h => some (x4,h))) (k + 1000319) (ptrV h.next) (str PM) h1 = some (.int .i64 v,h2) := e
   obtain ⟨M,hM⟩ : ∃ M,M = k + 1000319 := ⟨_,rfl⟩
   rw [← hM] at e161 e ⊢
   simp only [F62,p62a,panM,panN,st,qZ,qQ,cond_false,panO,lPM,zQ,d2,pabJ,panP,qJ,e161,qX,pabT,qW,parL,paeL,parP,e1,pafB]
   exact e
theorem T102 (k : Nat) {s : List UInt8} (hl : s.length ≤ 1000300) : ∃ h',callO Tryd.prog 2 Q (k + 1000321) 55 [str s,str PM] h = some (.bool (conB s),h') ∧ Ext h h' := by
 rw [F55eq Q (k + 1000320) _ _ h (kb.fr 55 _ (by decide))]
 obtain ⟨h',v,e,hv,x⟩ := T132 kb (h := h) k hl
 refine ⟨h',?_,x⟩
 simp only [F55,p55a,e,qX,bin_geq,hv,qZ,qQ]
end
end Go.Proofs.YtohapjojkjjflaaDoor.Wc

set_option maxRecDepth 100000
namespace Go.Proofs.YtohapjojkjjflaaDoor.Wc
open Go Go.AM WcA
def SL : List UInt8 := [47]
def splN : Nat → List UInt8 → List (List UInt8)
 | 0,s => [s]
 | n + 1,s => if Lib.indexByte s 47 < 0 then [s] else s.take (Lib.indexByte s 47).toNat :: splN n (s.drop ((Lib.indexByte s 47).toNat + 1))
def splitL (s : List UInt8) : List (List UInt8) := splN (if s.length < Lib.countByte s 47 then s.length else Lib.countByte s 47) s
theorem min_ii (a b : Int) : A.pureB Tryd.prog .min ⟨[3,3]⟩ 3 [.int .i64 a,.int .i64 b] = some (.int .i64 (if b < a then b else a)) := by
 have e : A.pureB Tryd.prog .min ⟨[3,3]⟩ 3 [.int .i64 a,.int .i64 b] = (match ev Tryd.prog (Builtin.min2 (Value.int IntKind.i64 a) (Value.int IntKind.i64 b)) with
  | some v => bif plain v then some v else none
  | none => none) := by simp [A.pureB,Builtin.min_,plainL,plain]; rfl
 rw [e]
 rfl
theorem slT {l : List UInt8} {m : Nat} (h : m ≤ l.length) : A.sliceStr (str l) none (some (.int .i64 (m : Int))) = some (str (l.take m)) := by
 show (match (bif Nat.ble m l.length then some (some m) else none) with | none => none | some h => match A.bound (h.getD l.length) none with | none => none | some q => some (Value.string ⟨⟨(l.drop (q.getD 0)).take (h.getD l.length - q.getD 0)⟩⟩)) = _
 rw [show Nat.ble m l.length = true from ble_iff.2 h]
 rfl
theorem ixB_lt : ∀ {l : List UInt8} {c : UInt8},0 ≤ Lib.indexByte l c → ∃ m : Nat,Lib.indexByte l c = (m : Int) ∧ m < l.length
 | [],c,h => by simp [Lib.indexByte] at h
 | b :: l,c,h => by
  unfold Lib.indexByte at h ⊢
  by_cases hb : (b == c) = true
  · rw [if_pos hb]; exact ⟨0,rfl,by simp⟩
  · rw [if_neg hb] at h ⊢
    by_cases hn : (Lib.indexByte l c == -1) = true
    · rw [if_pos hn] at h; exact absurd h (by decide)
    · rw [if_neg hn] at h ⊢
      have hge := Lib.indexByte_ge l c
      have hne : Lib.indexByte l c ≠ -1 := fun e => hn (by rw [e]; rfl)
      obtain ⟨m,hm,hlt⟩ := ixB_lt (l := l) (c := c) (by omega)
      exact ⟨m + 1,by rw [hm]; omega,by rw [List.length_cons]; omega⟩
theorem splN_len (n : Nat) : ∀ s,(splN n s).length ≤ n + 1 := by
 induction n with
 | zero => intro s; exact Nat.le_refl _
 | succ n ih =>
  intro s
  unfold splN
  split
  · simp
  · rw [List.length_cons]; exact Nat.succ_le_succ (ih _)
theorem splN_small {B : Nat} (n : Nat) : ∀ s : List UInt8,s.length ≤ B → ∀ x ∈ splN n s,x.length ≤ B := by
 induction n with
 | zero => intro s hs x hx; rw [List.mem_singleton.1 hx]; exact hs
 | succ n ih =>
  intro s hs x hx
  unfold splN at hx
  split at hx
  · rw [List.mem_singleton.1 hx]; exact hs
  · rcases List.mem_cons.1 hx with rfl | hx
    · rw [List.length_take]; omega
    · exact ih _ (by rw [List.length_drop]; omega) x hx
section
variable {Q : Orc} (kb : KnA Q) {h : H}
include kb
theorem T218 (k : Nat) (s : List UInt8) : callO Tryd.prog 2 Q (k + 1) 79 [str s,u8 47] h = some (.int .i64 (Lib.countByte s 47 : Nat),h) := by
 have hq : Q 79 [str s,u8 47] = none := kb.fr 79 _ (by decide)
 have hb : ((Tryd.prog.funcs[79]?).map fun fn => (fn.body.isNone,extK fn)) = some (true,3) := by kernel_rfl
 obtain ⟨fn,hf,hfb⟩ : ∃ fn,Tryd.prog.funcs[79]? = some fn ∧ (fn.body.isNone,extK fn) = (true,3) := by
  cases hf : Tryd.prog.funcs[79]? with
  | none => rw [hf] at hb; cases hb
  | some fn => rw [hf] at hb; exact ⟨fn,rfl,Option.some.inj hb⟩
 have h1 : fn.body = none := Option.isNone_iff_eq_none.1 (congrArg Prod.fst hfb)
 have h2 : extK fn = 3 := congrArg Prod.snd hfb
 simp only [callO,hq,hf,h1,h2]
 have e : (((47 : UInt8).toNat : Int).toNat).toUInt8 = (47 : UInt8) := rfl
 show some (Value.int .i64 ((⟨⟨s⟩⟩ : ByteArray).foldl (fun (n : Int) x => if x == (((47 : UInt8).toNat : Int).toNat).toUInt8 then n + 1 else n) ((0 : Nat) : Int)),h) = _
 rw [e,Lib.foldl_data,Lib.count_foldl]
 simp
theorem T219 (k : Nat) (s : List UInt8) : callO Tryd.prog 2 Q (k + 3) 80 [str s,str SL] h = some (.int .i64 (Lib.indexByte s 47),h) := by
 rw [F80eq Q (k + 2) _ _ h (kb.fr 80 _ (by decide))]
 have ln : A.lenStr (str SL) = some (.int .i64 1) := rfl
 have d0 : decide ((1 : Int) = 0) = false := rfl
 have d1 : decide ((1 : Int) = 1) = true := rfl
 have ix : A.indexStr (str SL) (.int .i64 0) = some (.int .u8 ((47 : Nat) : Int)) := rfl
 have e251 := T251 kb (h := h) k s (show 47 < 256 by omega)
 have st := str_eq9 SL s
 by_cases hs : SL = s
 · rw [decide_eq_true hs] at st
   subst hs
   simp only [F80,p80a,paoL,paoM,ln,qZ,pacM,paoN,zQ,d0,qQ,cond_false,st,pacZ,qW,cond_true,pasV]
   rfl
 · rw [decide_eq_false hs] at st
   simp only [F80,p80a,paoL,paoM,ln,qZ,pacM,paoN,zQ,d0,qQ,cond_false,st,pacZ,qW,padS,pasT,d1,paeR,cond_true,pasU,ix,e251,qX]
   rfl
theorem T166 (k : Nat) (s : List UInt8) : callO Tryd.prog 2 Q (k + 4) 72 [str s,str SL] h = some (.int .i64 (Lib.indexByte s 47),h) := by
 rw [F72eq Q (k + 3) _ _ h (kb.fr 72 _ (by decide))]
 simp only [F72,p72a,T219 kb k s,qX]
theorem T165c (k : Nat) (s : List UInt8) : callO Tryd.prog 2 Q (k + 2) 71 [str s,str SL] h = some (.int .i64 (Lib.countByte s 47 : Nat),h) := by
 rw [F71eq Q (k + 1) _ _ h (kb.fr 71 _ (by decide))]
 have ln : A.lenStr (str SL) = some (.int .i64 1) := rfl
 have d0 : decide ((1 : Int) = 0) = false := rfl
 have d1 : decide ((1 : Int) = 1) = true := rfl
 have ix : A.indexStr (str SL) (.int .i64 0) = some (u8 47) := rfl
 simp only [F71,p71a,pasL,pasM,ln,qZ,zQ,d0,qQ,cond_false,pasN,d1,cond_true,ix,T218 kb k s,qX]
 rfl
theorem lp133 (k L : Nat) {β : Type} (kx : Value → Value → Value → H → Option β) {N r : Nat} (hN : N ≤ 1000300) :
 ∀ (d m : Nat) (h : H) (s : List UInt8) (pre : List (List UInt8)) (cs : List Value),pre.length + d = N → d < m → s.length ≤ 1000300 → h.get r = some (.cells cs (some 1)) → cs.length = N + 1 → cs.take pre.length = pre.map str → r < h.next →
  ∃ h' ps last cs',pahW (callO Tryd.prog 2 Q (k + 4)) L kx m (.int .i64 (N : Int)) (str SL) (.int .i64 0) (str s) (.slice (some ⟨r,0,none⟩) (N + 1) (2 * (N + 1) + 1)) (.int .i64 (pre.length : Int)) h = kx (str last) (.slice (some ⟨r,0,none⟩) (N + 1) (2 * (N + 1) + 1)) (.int .i64 (ps.length : Int)) h' ∧
   pre ++ splN d s = ps ++ [last] ∧ ps.length ≤ N ∧ h'.get r = some (.cells cs' (some 1)) ∧ cs'.length = N + 1 ∧ cs'.take ps.length = ps.map str ∧ ExtBut (fun i => i = r) h h' := by
 intro d
 induction d with
 | zero =>
  intro m h s pre cs hi hm hs g hl ht lt
  obtain ⟨m,rfl⟩ : ∃ r,m = r + 1 := ⟨m - 1,by omega⟩
  have hd : decide ((pre.length : Int) < (N : Int)) = false := by rw [decide_eq_false_iff_not]; omega
  refine ⟨h,pre,s,cs,?_,rfl,by omega,g,hl,ht,⟨Nat.le_refl _,fun _ _ _ => rfl⟩⟩
  simp only [pahW,pamJ,zZ,hd,qZ,qQ,cond_false]
 | succ d ih =>
  intro m h s pre cs hi hm hs g hl ht lt
  obtain ⟨m,rfl⟩ : ∃ r,m = r + 1 := ⟨m - 1,by omega⟩
  have hd : decide ((pre.length : Int) < (N : Int)) = true := by rw [decide_eq_true_iff]; omega
  have e166 := T166 kb (h := h) k s
  by_cases hneg : Lib.indexByte s 47 < 0
  · have dn : decide (Lib.indexByte s 47 < 0) = true := decide_eq_true hneg
    refine ⟨h,pre,s,cs,?_,by unfold splN; rw [if_pos hneg],by omega,g,hl,ht,⟨Nat.le_refl _,fun _ _ _ => rfl⟩⟩
    simp only [pahW,pamJ,zZ,hd,qZ,qQ,cond_true,e166,qX,dn]
  · have dn : decide (Lib.indexByte s 47 < 0) = false := decide_eq_false hneg
    obtain ⟨q,hq,hlt⟩ := ixB_lt (l := s) (c := 47) (by omega)
    have w1 : IntKind.i64.wrap ((q : Int) + 0) = (q : Int) := by rw [wrap64 (by omega) (by omega)]; omega
    have w2 : IntKind.i64.wrap ((q : Int) + 1) = ((q + 1 : Nat) : Int) := wrap_succ (by omega)
    have w3 : IntKind.i64.wrap ((pre.length : Int) + 1) = ((pre.length + 1 : Nat) : Int) := wrap_succ (by omega)
    have sl1 := slT (l := s) (m := q) (by omega)
    have sl2 := slS (l := s) (k := q + 1) (by omega)
    have ln : A.lenStr (str SL) = some (.int .i64 1) := rfl
    have ix := idxS_eq 1 r 0 (N + 1) (2 * (N + 1) + 1) pre.length .i64 (by omega)
    obtain ⟨h1,hh1⟩ : ∃ h1,h1 = h.put r (.cells (cs.set pre.length (str (s.take q))) (some 1)) := ⟨_,rfl⟩
    have e1 : A.store 1 (.pointer (some ⟨r,0 + pre.length * 1,none⟩)) (str (s.take q)) h = some h1 := by
     have c1 : cellsL (str (s.take q)) = some [str (s.take q)] := rfl
     have c2 : Nat.beq [str (s.take q)].length 1 = true := rfl
     have c3 : Nat.ble (0 + pre.length * 1 + 1) cs.length = true := ble_iff.2 (by omega)
     rw [qU,g,c1]
     simp only [c2,c3,Bool.and_self,cond_true,splice_one (by omega : 0 + pre.length * 1 < cs.length)]
     rw [hh1]
     simp only [Nat.zero_add,Nat.mul_one]
    have g1 : h1.get r = some (.cells (cs.set pre.length (str (s.take q))) (some 1)) := by rw [hh1,H.get_put,if_pos rfl]
    have x1 : ExtBut (fun i => i = r) h h1 := by rw [hh1]; exact ExtBut.put ⟨Nat.le_refl _,fun _ _ _ => rfl⟩ r _ rfl
    have hpl : (pre ++ [s.take q]).length = pre.length + 1 := by simp
    obtain ⟨h',ps,last,cs',e,r1,r2,r3,r4,r5,r6⟩ := ih m h1 (s.drop (q + 1)) (pre ++ [s.take q]) (cs.set pre.length (str (s.take q))) (by omega) (by omega) (by rw [List.length_drop]; omega) g1 (by rw [List.length_set]; exact hl) (by
     rw [hpl,List.map_append,← ht]
     have : pre.length < (cs.set pre.length (str (s.take q))).length := by rw [List.length_set]; omega
     rw [List.take_add_one,List.getElem?_set_self (by omega),List.take_set_of_le (Nat.le_refl _)]
     rfl) (by rw [hh1]; exact lt)
    rw [hpl] at e
    refine ⟨h',ps,last,cs',?_,?_,r2,r3,r4,r5,x1.trans r6⟩
    · simp only [pahW,pamJ,zZ,hd,qZ,qQ,cond_true,e166,qX,dn,cond_false]
      rw [hq]
      simp only [bin_add,w1,qZ,sl1,ix,e1,ln,w2,sl2,w3]
      exact e
    · have es : splN (d + 1) s = s.take q :: splN d (s.drop (q + 1)) := by
       show (if Lib.indexByte s 47 < 0 then [s] else s.take (Lib.indexByte s 47).toNat :: splN d (s.drop ((Lib.indexByte s 47).toNat + 1))) = _
       rw [if_neg hneg,hq]; rfl
      rw [es,← r1]
      simp
theorem T103 (k : Nat) {s : List UInt8} (hl : s.length ≤ 1000300) : ∃ h' v,callO Tryd.prog 2 Q (k + 1000320) 56 [str s,str SL] h = some (v,h') ∧ SliceE 1 h' v ((splitL s).map fun x => [str x]) ∧ Ext h h' := by
 rw [F56eq Q (k + 1000319) _ _ h (kb.fr 56 _ (by decide))]
 have hc : Lib.countByte s 47 ≤ s.length := List.count_le_length
 obtain ⟨N,hN⟩ : ∃ N,N = (if s.length < Lib.countByte s 47 then s.length else Lib.countByte s 47) := ⟨_,rfl⟩
 have hN' : N = Lib.countByte s 47 := by rw [hN,if_neg (by omega)]
 have e133 : ∃ h' v,callO Tryd.prog 2 Q (k + 1000319) 63 [str s,str SL,.int .i64 0,.int .i64 (-1)] h = some (v,h') ∧ SliceE 1 h' v ((splitL s).map fun x => [str x]) ∧ Ext h h' := by
  rw [F63eq Q (k + 1000318) _ _ _ _ h (kb.fr 63 _ (by decide))]
  have d0 : decide ((-1 : Int) = 0) = false := rfl
  have d1 : decide ((-1 : Int) < 0) = true := rfl
  have st : A.bin Tryd.prog .eql 9 (str SL) (.string ⟨⟨[]⟩⟩) = some (.bool false) := by kernel_rfl
  have e165 := T165c kb (h := h) (k + 1000316) s
  have e165 : callO Tryd.prog 2 Q (k + 1000318) 71 [str s,str SL] h = _ := e165
  rw [← hN'] at e165
  have w1 : IntKind.i64.wrap ((N : Int) + 1) = ((N + 1 : Nat) : Int) := wrap_succ (by omega)
  have w2 : IntKind.i64.wrap ((s.length : Int) + 1) = ((s.length + 1 : Nat) : Int) := wrap_succ (by omega)
  have mn : A.pureB Tryd.prog .min ⟨[3,3]⟩ 3 [.int .i64 ((N + 1 : Nat) : Int),.int .i64 ((s.length + 1 : Nat) : Int)] = some (.int .i64 ((N + 1 : Nat) : Int)) := by
   rw [min_ii,if_neg (by omega)]
  obtain ⟨h1,hh1⟩ : ∃ h1,h1 = h.push (.cells (A.zeros WcA.Z9L (N + 1)) (some 1)) := ⟨_,rfl⟩
  have zl : ∀ n,(A.zeros WcA.Z9L n).length = n := fun n => by
   have hz : WcA.Z9L.length = 1 := rfl
   induction n with
   | zero => rfl
   | succ n ih => simp only [A.zeros,List.length_append,hz] at ih ⊢; omega
  have mk : A.makeSlice 1 16 WcA.Z9L (.int .i64 ((N + 1 : Nat) : Int)) (.int .i64 ((N + 1 : Nat) : Int)) h = some (.slice (some ⟨h.next,0,none⟩) (N + 1) (2 * (N + 1) + 1),h1) := by
   have e1 : Nat.ble (16 * (N + 1)) (2 ^ 47) = true := ble_iff.2 (by omega)
   have e2 : Nat.ble (N + 1) (2 ^ 47) = true := ble_iff.2 (by omega)
   show (bif Nat.ble (N + 1) (N + 1) && Nat.ble (16 * (N + 1)) (2 ^ 47) && Nat.ble (N + 1) (2 ^ 47) then some (Value.slice (some ⟨h.next,0,none⟩) (N + 1) (2 * (N + 1) + 1),h.push (.cells (A.zeros WcA.Z9L (N + 1)) (some 1))) else none) = _
   rw [e1,e2,← hh1,show Nat.ble (N + 1) (N + 1) = true from ble_iff.2 (Nat.le_refl _)]; rfl
  have x1 : Ext h h1 := by rw [hh1]; exact Ext.push h _
  have g1 : h1.get h.next = some (.cells (A.zeros WcA.Z9L (N + 1)) (some 1)) := by rw [hh1,H.get_push,if_pos rfl]
  have w3 : IntKind.i64.wrap (((N + 1 : Nat) : Int) - 1) = (N : Int) := by rw [wrap64 (by omega) (by omega)]; omega
  obtain ⟨h2,ps,last,cs,e,r1,r2,r3,r4,r5,r6⟩ := lp133 kb (k + 1000314) (k + 1000318) (fun x0 x9 x10 h => pamK (callO Tryd.prog 2 Q (k + 1000318)) (k + 1000318) x0 x9 x10 h (fun x8 h => some (x8,h))) (N := N) (r := h.next) (by omega) N (k + 1000318) h1 s [] _ (by simp) (by omega) hl g1 (zl _) rfl (by rw [hh1]; exact Nat.lt_succ_self _)
  have ix := idxS_eq 1 h.next 0 (N + 1) (2 * (N + 1) + 1) ps.length .i64 (by omega)
  obtain ⟨h3,hh3⟩ : ∃ h3,h3 = h2.put h.next (.cells (cs.set ps.length (str last)) (some 1)) := ⟨_,rfl⟩
  have e3 : A.store 1 (.pointer (some ⟨h.next,0 + ps.length * 1,none⟩)) (str last) h2 = some h3 := by
   have c1 : cellsL (str last) = some [str last] := rfl
   have c2 : Nat.beq [str last].length 1 = true := rfl
   have c3 : Nat.ble (0 + ps.length * 1 + 1) cs.length = true := ble_iff.2 (by omega)
   rw [qU,r3,c1]
   simp only [c2,c3,Bool.and_self,cond_true,splice_one (by omega : 0 + ps.length * 1 < cs.length)]
   rw [hh3]
   simp only [Nat.zero_add,Nat.mul_one]
  have g3 : h3.get h.next = some (.cells (cs.set ps.length (str last)) (some 1)) := by rw [hh3,H.get_put,if_pos rfl]
  have w4 : IntKind.i64.wrap ((ps.length : Int) + 1) = ((ps.length + 1 : Nat) : Int) := wrap_succ (by omega)
  have sl : A.sliceS 1 (.slice (some ⟨h.next,0,none⟩) (N + 1) (2 * (N + 1) + 1)) none (some (.int .i64 ((ps.length + 1 : Nat) : Int))) none h3 = some (.slice (some ⟨h.next,0,none⟩) (ps.length + 1) (2 * (N + 1) + 1)) := by
   have b1 : A.bound ((2 * (N + 1) + 1) / 2) (some (.int .i64 ((ps.length + 1 : Nat) : Int))) = some (some (ps.length + 1)) := by
    show (bif Nat.ble (ps.length + 1) ((2 * (N + 1) + 1) / 2) then some (some (ps.length + 1)) else none) = _
    rw [ble_iff.2 (by omega)]; rfl
   have b2 : Nat.beq ((2 * (N + 1) + 1) % 2) 1 = true := by rw [show (2 * (N + 1) + 1) % 2 = 1 by omega]; rfl
   show (match A.bound ((2 * (N + 1) + 1) / 2) (some (.int .i64 ((ps.length + 1 : Nat) : Int))) with
    | none => none
    | some r => match A.bound (r.getD (N + 1)) none with
     | none => none
     | some l => bif Nat.beq ((2 * (N + 1) + 1) % 2) 1 || (none : Option Nat).isSome || Nat.beq (l.getD 0) 0 || A.esOK 1 h.next h3 then some (Value.slice (some ⟨h.next,0 + l.getD 0 * 1,none⟩) (r.getD (N + 1) - l.getD 0) (2 * (N + 1) + 1 - 2 * l.getD 0)) else none) = _
   rw [b1,b2]
   rfl
  have e : pahW (callO Tryd.prog 2 Q (k + 1000318)) (k + 1000318) (fun x0 x9 x10 h => pamK (callO Tryd.prog 2 Q (k + 1000318)) (k + 1000318) x0 x9 x10 h (fun x8 h => some (x8,h))) (k + 1000318) (.int .i64 (N : Int)) (str SL) (.int .i64 0) (str s) (.slice (some ⟨h.next,0,none⟩) (N + 1) (2 * (N + 1) + 1)) (.int .i64 0) h1 = some (.slice (some ⟨h.next,0,none⟩) (ps.length + 1) (2 * (N + 1) + 1),h3) := by
   refine e.trans ?_
   simp only [pamK,ix,qZ,e3,bin_add,w4,sl]
  refine ⟨h3,.slice (some ⟨h.next,0,none⟩) (ps.length + 1) (2 * (N + 1) + 1),?_,⟨?_,.inr ⟨h.next,0,2 * (N + 1) + 1,?_,?_,?_,fun _ => ⟨_,_,g3,?_,?_⟩⟩⟩,?_⟩
  · obtain ⟨M,hM⟩ : ∃ M,M = k + 1000318 := ⟨_,rfl⟩
    rw [← hM] at e165 e ⊢
    simp only [F63,p63a,parQ,parR,zQ,d0,qZ,qQ,cond_false,parS,st,parT,zZ,d1,cond_true,e165,qX,bin_add,w1,parU,qJ,w2,mn,parV,mk,parW,bin_sub,w3,parX,pafY]
    exact e
  · intro x hx
    obtain ⟨y,_,rfl⟩ := List.mem_map.1 hx
    rfl
  · have hsp : splitL s = ps ++ [last] := by rw [← r1]; unfold splitL; rw [← hN]; rfl
    rw [hsp,List.length_map,List.length_append]; rfl
  · have hsp : splitL s = ps ++ [last] := by rw [← r1]; unfold splitL; rw [← hN]; rfl
    rw [hsp,List.length_map,List.length_append]
    show ps.length + 1 ≤ _
    omega
  · rw [hh3]; exact Nat.lt_of_lt_of_le (show h.next < h1.next by rw [hh1]; exact Nat.lt_succ_self _) r6.next
  · have hsp : splitL s = ps ++ [last] := by rw [← r1]; unfold splitL; rw [← hN]; rfl
    rw [hsp,List.length_map,List.length_append,List.length_set]
    show 0 + (ps.length + 1) * 1 ≤ _
    omega
  · have hsp : splitL s = ps ++ [last] := by rw [← r1]; unfold splitL; rw [← hN]; rfl
    have fl : ∀ l : List (List UInt8),(l.map fun x => [str x]).flatten = l.map str := fun l => by induction l with | nil => rfl | cons a l ih => simp [ih]
    rw [hsp,List.length_map,List.length_append,fl,List.map_append,← r5,List.drop_zero]
    show (cs.set ps.length (str last)).take ((ps.length + 1) * 1) = _
    rw [Nat.mul_one,List.take_add_one,List.getElem?_set_self (by omega),List.take_set_of_le (Nat.le_refl _)]
    rfl
  · refine ⟨?_,fun i hi => ?_⟩
    · rw [hh3]; exact Nat.le_trans x1.next r6.next
    · rw [hh3,H.get_put,if_neg (by omega),r6.get i (Nat.lt_of_lt_of_le hi x1.next) (by omega)]; exact x1.get i hi
 obtain ⟨h',v,e,sl,x⟩ := e133
 refine ⟨h',v,?_,sl,x⟩
 simp only [F56,p56a,e,qX]
end
end Go.Proofs.YtohapjojkjjflaaDoor.Wc

set_option maxRecDepth 100000
namespace Go.Proofs.YtohapjojkjjflaaDoor.Wc
open Go Go.AM WcA
def nmB (val : List UInt8 → Bool) (s : List UInt8) : Bool := if s = [] then false else if val s then !conB s else false
def fiL (n : Nat) : Nat → List (List UInt8) → Bool
 | _,[] => true
 | i,x :: l => if (x = [35] ∧ i + 1 = n) ∨ x = [43] then fiL n (i + 1) l else if conB x then false else fiL n (i + 1) l
def fiB (val : List UInt8 → Bool) (s : List UInt8) : Bool := if s = [] then false else if val s then fiL (splitL s).length 0 (splitL s) else false
section
variable {Q : Orc} {B : H} {val : List UInt8 → Bool} (kb : KnA Q) (va : VA Q B val) {h : H}
include kb va
theorem T78 (k : Nat) {s : List UInt8} (hl : s.length ≤ 1000300) (hB : Ext B h) : ∃ h',callO Tryd.prog 2 Q (k + 1000900) 39 [str s] h = some (.bool (nmB val s),h') ∧ Ext h h' := by
 cases hq : Q 39 [str s] with
 | some v => exact absurd hq (by rw [kb.fr 39 _ (by decide)]; intro c; cases c)
 | none =>
  rw [F39eq Q (k + 1000899) _ h hq]
  have ne := str_ne9 s []
  have ne : A.bin Tryd.prog .neq 9 (str s) (.string ⟨⟨[]⟩⟩) = _ := ne
  unfold nmB
  by_cases hz : s = []
  · rw [decide_eq_true hz] at ne
    rw [if_pos hz]
    refine ⟨h,?_,Ext.refl h⟩
    simp only [F39,p39a,ne,qZ,qQ,Bool.not_true,cond_false]
  · rw [decide_eq_false hz] at ne
    rw [if_neg hz]
    obtain ⟨h1,e1,x1⟩ := va.va (k + 499) h s hB hl
    have e1 := (congrArg (fun n => callO Tryd.prog 2 Q n 38 [str s] h) (show k + 1000899 = k + 499 + 1000400 by omega)).trans e1
    cases hv : val s with
    | false =>
     rw [hv] at e1
     refine ⟨h1,?_,x1⟩
     simp only [F39,p39a,ne,qZ,qQ,Bool.not_false,cond_true,e1,qX,cond_false,Bool.false_eq_true,if_false]
    | true =>
     rw [hv] at e1
     obtain ⟨h2,e2,x2⟩ := T102 kb (h := h1) (k + 578) hl
     have e2 := (congrArg (fun n => callO Tryd.prog 2 Q n 55 [str s,.string ⟨⟨[43,35]⟩⟩] h1) (show k + 1000899 = k + 578 + 1000321 by omega)).trans e2
     refine ⟨h2,?_,x1.trans x2⟩
     simp only [F39,p39a,ne,qZ,qQ,Bool.not_false,cond_true,e1,qX,e2,un_not,if_true]
theorem lp79 (k L : Nat) {n : Nat} {v : Value} {ps : List (List UInt8)} (hn : n = ps.length) (hps : ps.length ≤ 1000400) (hsm : ∀ x ∈ ps,x.length ≤ 1000300) :
 ∀ (d i m : Nat) (h : H),i + d = n → d < m → SliceE 1 h v (ps.map fun x => [str x]) →
  ∃ h',pahI (callO Tryd.prog 2 Q (k + 1000321)) L (fun x2 h => some (x2,h)) (fun h => pamD (callO Tryd.prog 2 Q (k + 1000321)) L h (fun x2 h => some (x2,h))) m (.int .i64 (n : Int)) (.int .i64 (i : Int)) v v h = some (.bool (fiL n i (ps.drop i)),h') ∧ Ext h h' := by
 have _ := va
 intro d
 induction d with
 | zero =>
  intro i m h hi hm sl
  obtain ⟨m,rfl⟩ : ∃ r,m = r + 1 := ⟨m - 1,by omega⟩
  have hd : decide ((i : Int) < (n : Int)) = false := by rw [decide_eq_false_iff_not]; omega
  refine ⟨h,?_,Ext.refl h⟩
  rw [List.drop_eq_nil_of_le (by omega : ps.length ≤ i)]
  simp only [pahI,pacL,pakJ,zZ,hd,qZ,pakK,qW,cond_false,pamD]
  rfl
 | succ d ih =>
  intro i m h hi hm sl
  obtain ⟨m,rfl⟩ : ∃ r,m = r + 1 := ⟨m - 1,by omega⟩
  have hd : decide ((i : Int) < (n : Int)) = true := by rw [decide_eq_true_iff]; omega
  obtain ⟨x,hx⟩ : ∃ x,ps[i]? = some x := ⟨_,List.getElem?_eq_getElem (by omega)⟩
  have hxl := hsm x (List.mem_of_getElem? hx)
  obtain ⟨id,off,cells,own,ix,_,hg,h4,h5,hce⟩ := sl.at (i := i) (e := [str x]) (by rw [List.getElem?_map,hx]; rfl) .i64
  have ld : A.load false 1 (.pointer (some ⟨id,off,none⟩)) h = some (str x) := by
   rw [qK,hg]
   have := hce 0 (by omega)
   exact this
  have hlen : A.lenS v = some (.int .i64 (n : Int)) := by have := sl.len.1; rw [List.length_map] at this; rw [hn]; exact this
  have hwr : IntKind.i64.wrap ((i : Int) + 1) = ((i + 1 : Nat) : Int) := wrap_succ (by omega)
  have w1 : IntKind.i64.wrap ((n : Int) - 1) = ((n - 1 : Nat) : Int) := by rw [wrap64 (by omega) (by omega)]; omega
  have s35 := str_eq9 x [35]
  have s35 : A.bin Tryd.prog .eql 9 (str x) (.string ⟨⟨[35]⟩⟩) = _ := s35
  have s43 := str_eq9 x [43]
  have s43 : A.bin Tryd.prog .eql 9 (str x) (.string ⟨⟨[43]⟩⟩) = _ := s43
  have di : decide ((i : Int) = ((n - 1 : Nat) : Int)) = decide (i + 1 = n) := decide_eq_decide.2 (by omega)
  rw [drop_cons hx]
  have st : ∀ (K : Value → Value → Value → Value → Value → Value → H → Option (Value × H)),paiZ (callO Tryd.prog 2 Q (k + 1000321)) L (.int .i64 (i : Int)) (str x) (.int .i64 (i : Int)) (.int .i64 (n : Int)) v v h K = K (.bool (decide ((x = [35] ∧ i + 1 = n) ∨ x = [43]))) (str x) (.int .i64 (i : Int)) (.int .i64 (n : Int)) v v h := by
   intro K
   by_cases c1 : x = [35]
   · rw [decide_eq_true c1] at s35
     by_cases c2 : i + 1 = n
     · rw [decide_eq_true c2] at di
       simp only [paiZ,s35,qZ,qQ,cond_true,hlen,bin_sub,w1,zQ,di,decide_eq_true (show (x = [35] ∧ i + 1 = n) ∨ x = [43] from .inl ⟨c1,c2⟩)]
     · rw [decide_eq_false c2] at di
       have c3 : ¬ x = [43] := by rw [c1]; decide
       rw [decide_eq_false c3] at s43
       simp only [paiZ,s35,qZ,qQ,cond_true,hlen,bin_sub,w1,zQ,di,cond_false,s43,decide_eq_false (show ¬ ((x = [35] ∧ i + 1 = n) ∨ x = [43]) from fun h => h.elim (fun h => c2 h.2) c3)]
   · rw [decide_eq_false c1] at s35
     by_cases c3 : x = [43]
     · rw [decide_eq_true c3] at s43
       simp only [paiZ,s35,qZ,qQ,cond_false,s43,decide_eq_true (show (x = [35] ∧ i + 1 = n) ∨ x = [43] from .inr c3)]
     · rw [decide_eq_false c3] at s43
       simp only [paiZ,s35,qZ,qQ,cond_false,s43,decide_eq_false (show ¬ ((x = [35] ∧ i + 1 = n) ∨ x = [43]) from fun h => h.elim (fun h => c1 h.1) c3)]
  by_cases hc : (x = [35] ∧ i + 1 = n) ∨ x = [43]
  · rw [decide_eq_true hc] at st
    obtain ⟨h',e,y⟩ := ih (i + 1) m h (by omega) (by omega) sl
    refine ⟨h',?_,y⟩
    have hr : fiL n i (x :: ps.drop (i + 1)) = fiL n (i + 1) (ps.drop (i + 1)) := if_pos hc
    rw [hr]
    simp only [pahI,pacL,pakJ,zZ,hd,qZ,pakK,qW,cond_true,paeG,pamB,ix,ld,pafV,st,pamC,panE,bin_add,hwr]
    exact e
  · rw [decide_eq_false hc] at st
    obtain ⟨h1,e1,x1⟩ := T102 kb (h := h) k hxl
    have e1 : callO Tryd.prog 2 Q (k + 1000321) 55 [str x,.string ⟨⟨[43,35]⟩⟩] h = _ := e1
    cases hcon : conB x with
    | true =>
     rw [hcon] at e1
     refine ⟨h1,?_,x1⟩
     have hr : fiL n i (x :: ps.drop (i + 1)) = false := by
      show (if (x = [35] ∧ i + 1 = n) ∨ x = [43] then _ else if conB x then false else _) = false
      rw [if_neg hc,hcon]; rfl
     rw [hr]
     simp only [pahI,pacL,pakJ,zZ,hd,qZ,pakK,qW,cond_true,paeG,pamB,ix,ld,pafV,st,pamC,cond_false,e1,qX,qQ]
    | false =>
     rw [hcon] at e1
     obtain ⟨h',e,y⟩ := ih (i + 1) m h1 (by omega) (by omega) (sl.ext x1)
     refine ⟨h',?_,x1.trans y⟩
     have hr : fiL n i (x :: ps.drop (i + 1)) = fiL n (i + 1) (ps.drop (i + 1)) := by
      show (if (x = [35] ∧ i + 1 = n) ∨ x = [43] then _ else if conB x then false else fiL n (i + 1) (ps.drop (i + 1))) = _
      rw [if_neg hc,hcon]; rfl
     rw [hr]
     simp only [pahI,pacL,pakJ,zZ,hd,qZ,pakK,qW,cond_true,paeG,pamB,ix,ld,pafV,st,pamC,cond_false,e1,qX,qQ,panE,bin_add,hwr]
     exact e
theorem T79 (k : Nat) {s : List UInt8} (hl : s.length ≤ 1000300) (hB : Ext B h) : ∃ h',callO Tryd.prog 2 Q (k + 1000900) 40 [str s] h = some (.bool (fiB val s),h') ∧ Ext h h' := by
 cases hq : Q 40 [str s] with
 | some v => exact absurd hq (by rw [kb.fr 40 _ (by decide)]; intro c; cases c)
 | none =>
  rw [F40eq Q (k + 1000899) _ h hq]
  have st := str_eq9 s []
  have st : A.bin Tryd.prog .eql 9 (str s) (.string ⟨⟨[]⟩⟩) = _ := st
  unfold fiB
  by_cases hz : s = []
  · rw [decide_eq_true hz] at st
    rw [if_pos hz]
    refine ⟨h,?_,Ext.refl h⟩
    simp only [F40,p40a,palZ,pamA,st,qZ,qQ,cond_true]
  · rw [decide_eq_false hz] at st
    rw [if_neg hz]
    obtain ⟨h1,e1,x1⟩ := va.va (k + 499) h s hB hl
    have e1 := (congrArg (fun n => callO Tryd.prog 2 Q n 38 [str s] h) (show k + 1000899 = k + 499 + 1000400 by omega)).trans e1
    cases hvs : val s with
    | false =>
     rw [hvs] at e1
     refine ⟨h1,?_,x1⟩
     simp only [F40,p40a,palZ,pamA,st,qZ,qQ,cond_false,e1,qX,un_not,Bool.not_false,cond_true,Bool.false_eq_true,if_false]
    | true =>
     rw [hvs] at e1
     obtain ⟨h2,v,e2,sl,x2⟩ := T103 kb (h := h1) (k + 579) hl
     have e2 := (congrArg (fun n => callO Tryd.prog 2 Q n 56 [str s,.string ⟨⟨[47]⟩⟩] h1) (show k + 1000899 = k + 579 + 1000320 by omega)).trans e2
     have hps : (splitL s).length ≤ 1000400 := by
      have := splN_len (if s.length < Lib.countByte s 47 then s.length else Lib.countByte s 47) s
      have hc : Lib.countByte s 47 ≤ s.length := List.count_le_length
      unfold splitL
      split at this <;> rename_i c <;> simp only [c,if_true,if_false] <;> omega
     have hlen : A.lenS v = some (.int .i64 ((splitL s).length : Int)) := by have := sl.len.1; rw [List.length_map] at this; exact this
     obtain ⟨h3,e3,x3⟩ := lp79 kb va (k + 578) (k + 1000899) rfl hps (splN_small _ s hl) (splitL s).length 0 (k + 1000899) h2 (by omega) (by omega) sl
     rw [List.drop_zero,show k + 578 + 1000321 = k + 1000899 by omega] at e3
     refine ⟨h3,?_,(x1.trans x2).trans x3⟩
     rw [if_pos rfl]
     have e3 : pahI (callO Tryd.prog 2 Q (k + 1000899)) (k + 1000899) (fun x2 h => some (x2,h)) (fun h => pamD (callO Tryd.prog 2 Q (k + 1000899)) (k + 1000899) h (fun x2 h => some (x2,h))) (k + 1000899) (.int .i64 ((splitL s).length : Int)) (.int .i64 0) v v h2 = _ := e3
     obtain ⟨M,hM⟩ : ∃ M,M = k + 1000899 := ⟨_,rfl⟩
     rw [← hM] at e1 e2 e3 ⊢
     simp only [F40,p40a,palZ,pamA,st,qZ,qQ,cond_false,e1,qX,un_not,Bool.not_true,paqK,e2,pabL,paqL,hlen,pabS]
     exact e3
theorem ok_of : OK3 Q B (nmB val) (fiB val) := ⟨fun k h s hB hl => T78 kb va k hl hB,fun k h s hB hl => T79 kb va k hl hB⟩
end
end Go.Proofs.YtohapjojkjjflaaDoor.Wc
