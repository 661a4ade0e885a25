import Derived.Test.YtdljlmpleibkiaaGreatDoorRg
namespace Go.Proofs.YtdljlmpleibkiaaGreatDoor.Sc
open Tryz (prog)
open Go Go.AM ScA ScB ScC
section
variable {Q : Orc} (kn : Kn Q) {h : H}
include kn
theorem T42 (k : Nat) {n : Nat} (hn : n < 256) : ∃ h',callO prog 0 Q (k + 1) 42 [.int .i64 (n : Int)] h = some (str [UInt8.ofNat n],h') ∧ Ext h h' := by
 rw [F42eq Q k _ h (kn.fr 42 _ (by decide))]
 have cv := conv35 hn
 obtain ⟨h1,e1,el,x1,_⟩ := lit1 h (z := ScC.Z5L) rfl (n : Int) (UInt8.ofNat n) (ofNat_int hn)
 have eb : A.b2s (.slice (some ⟨h.next,0,none⟩) 1 3) h1 = some (str [UInt8.ofNat n]) := by
  simp only [A.b2s,el,toBytes_u8]; rfl
 refine ⟨h1,?_,x1⟩
 simp only [F42,p42a,cv,bnd_some,e1,bnd2_some,eb]
theorem T65 (k : Nat) (b : Bool) (n : Nat) : callO prog 0 Q (k + 1) 65 [.bool b,.int .i64 (n : Int)] h = some (.int .i64 ((if b then n else 0 : Nat) : Int),h) := by
 rw [F65eq Q k _ _ h (kn.fr 65 _ (by decide))]
 cases b with
 | true => simp only [F65,p65a,toBK_bool,cond_true]; rfl
 | false => simp only [F65,p65a,toBK_bool,cond_false]; rfl
theorem T44 (k : Nat) {a : Nat} {x : Value} {ws : List (List UInt8)} (hw : 0 < ws.length) (sx : SliceE 1 h x (ws.map fun s => [str s])) : callO prog 0 Q (k + 1) 44 [.int .i64 (a : Int),x] h = some (str ((ws[a % ws.length]?).getD []),h) := by
 rw [F44eq Q k _ _ h (kn.fr 44 _ (by decide))]
 have hl : A.lenS x = some (.int .i64 (ws.length : Int)) := by have := sx.len.1; rwa [List.length_map] at this
 have hm : a % ws.length < ws.length := Nat.mod_lt _ hw
 obtain ⟨s,hs⟩ : ∃ s,ws[a % ws.length]? = some s := ⟨ws[a % ws.length],List.getElem?_eq_getElem hm⟩
 have r1 := remI (a := a) (c := ws.length) hw
 obtain ⟨id,off,cells,own,ix,_,hg,_,_,hc⟩ := sx.at (i := a % ws.length) (e := [str s]) (by rw [List.getElem?_map,hs]; rfl) .i64
 have ld : A.load false 1 (.pointer (some ⟨id,off,none⟩)) h = some (str s) := by
  rw [load1_eq,hg]
  have := hc 0 (by omega)
  simpa using this
 simp only [F44,p44a,hl,bnd_some,r1,ix,ld]
 rw [hs]; rfl
end
end Go.Proofs.YtdljlmpleibkiaaGreatDoor.Sc

namespace Go.Proofs.YtdljlmpleibkiaaGreatDoor.Sc
open Tryz (prog)
open Go Go.AM ScA ScB ScC
def tabF : List Value := [.int .i64 0,.int .i64 0,.int .i64 0,.int .i64 0,.int .i64 0,.int .i64 0,.int .i64 2,.int .i64 0,.int .i64 2,.int .i64 0,.int .i64 2,.int .i64 0,.int .i64 0,.int .i64 0,.int .i64 0]
theorem tabF_at : ∀ n : Nat,n < 15 → tabF[n]? = some (.int .i64 ((if n = 6 ∨ n = 8 ∨ n = 10 then 2 else 0 : Nat) : Int)) := fun n hn => by
 match n,hn with
 | 0,_ => rfl
 | 1,_ => rfl
 | 2,_ => rfl
 | 3,_ => rfl
 | 4,_ => rfl
 | 5,_ => rfl
 | 6,_ => rfl
 | 7,_ => rfl
 | 8,_ => rfl
 | 9,_ => rfl
 | 10,_ => rfl
 | 11,_ => rfl
 | 12,_ => rfl
 | 13,_ => rfl
 | 14,_ => rfl
section
variable {Q : Orc} (kn : Kn Q) {h : H}
include kn
theorem T43 (k : Nat) (p : Pk) {w : Value} (hw : cellsL w = some [w]) (hk : p.kind < 15) (hq : p.qos ≤ 2) : ∃ h',callO prog 0 Q (k + 2) 43 [.agg ⟨p.cells w⟩] h = some (.int .i64 ((16 * p.kind + flagsN p : Nat) : Int),h') ∧ Ext h h' := by
 rw [F43eq Q (k + 1) _ h (kn.fr 43 _ (by decide))]
 obtain ⟨h1,e1,b1,x1,n1⟩ := box_pk p hw h
 obtain ⟨h2,hh2⟩ : ∃ h2,h2 = h1.push (.cells tabF (some 1)) := ⟨_,rfl⟩
 have e2 : A.buildSlice 1 15 ScC.Z3L [(0,1,(.int .i64 0)),(1,1,(.int .i64 0)),(2,1,(.int .i64 0)),(3,1,(.int .i64 0)),(4,1,(.int .i64 0)),(5,1,(.int .i64 0)),(6,1,(.int .i64 2)),(7,1,(.int .i64 0)),(8,1,(.int .i64 2)),(9,1,(.int .i64 0)),(10,1,(.int .i64 2)),(11,1,(.int .i64 0)),(12,1,(.int .i64 0)),(13,1,(.int .i64 0)),(14,1,(.int .i64 0))] h1 = some (.slice (some ⟨h1.next,0,none⟩) 15 31,h2) := by rw [hh2]; rfl
 have x2 : Ext h1 h2 := by rw [hh2]; exact Ext.push h1 _
 have g2 : h2.get h1.next = some (.cells tabF (some 1)) := by rw [hh2,H.get_push,if_pos rfl]
 have b2 := b1.ext x2
 have l0 := b2.ld (i := 0) rfl
 have l1 := b2.ld (i := 1) rfl
 have l2 := b2.ld (i := 2) rfl
 have l3 := b2.ld (i := 3) rfl
 have ix := idxS_eq 1 h1.next 0 15 31 p.kind .u8 hk
 have ld : A.load false 1 (.pointer (some ⟨h1.next,0 + p.kind * 1,none⟩)) h2 = some (.int .i64 ((if p.kind = 6 ∨ p.kind = 8 ∨ p.kind = 10 then 2 else 0 : Nat) : Int)) := by
  rw [load1_eq,g2,Nat.zero_add,Nat.mul_one]; exact tabF_at p.kind hk
 rw [Nat.zero_add] at ix ld
 have ck := conv53 p.kind (by omega)
 have wk : IntKind.i64.wrap ((16 : Int) * (p.kind : Int)) = ((16 * p.kind : Nat) : Int) := by rw [wrap64 (by omega) (by omega)]; omega
 refine ⟨h2,?_,x1.trans x2⟩
 by_cases h3 : p.kind = 3
 · have d3 : decide ((p.kind : Int) = 3) = true := by rw [decide_eq_true_iff]; omega
   have c1 : callO prog 0 Q (k + 1) 65 [.bool p.dup,.int .i64 8] h2 = _ := T65 kn k p.dup 8
   have c2 : callO prog 0 Q (k + 1) 65 [.bool p.retain,.int .i64 1] h2 = _ := T65 kn k p.retain 1
   have cq := conv53 p.qos (by omega)
   obtain ⟨D,hD⟩ : ∃ D : Nat,D = if p.dup then 8 else 0 := ⟨_,rfl⟩
   obtain ⟨R,hR⟩ : ∃ R : Nat,R = if p.retain then 1 else 0 := ⟨_,rfl⟩
   have hDl : D ≤ 8 := by rw [hD]; split <;> omega
   have hRl : R ≤ 1 := by rw [hR]; split <;> omega
   have hf : flagsN p = D + 2 * p.qos + R := by rw [hD,hR]; exact if_pos h3
   rw [← hD] at c1
   rw [← hR] at c2
   have w1 : IntKind.i64.wrap ((2 : Int) * (p.qos : Int)) = ((2 * p.qos : Nat) : Int) := by rw [wrap64 (by omega) (by omega)]; omega
   have w2 : IntKind.i64.wrap ((D : Int) + ((2 * p.qos : Nat) : Int)) = ((D + 2 * p.qos : Nat) : Int) := by rw [wrap64 (by omega) (by omega)]; omega
   have w3 : IntKind.i64.wrap (((D + 2 * p.qos : Nat) : Int) + (R : Int)) = ((D + 2 * p.qos + R : Nat) : Int) := by rw [wrap64 (by omega) (by omega)]; omega
   have w4 : IntKind.i64.wrap (((16 * p.kind : Nat) : Int) + ((D + 2 * p.qos + R : Nat) : Int)) = ((16 * p.kind + (D + 2 * p.qos + R) : Nat) : Int) := by rw [wrap64 (by omega) (by omega)]; omega
   rw [hf]
   simp only [F43,p43a,pamP,e1,bnd2_some,pamQ,e2,fieldAddr_eq,Nat.zero_add,bnd_some,l0,ix,ld,parT,bin_eql,d3,toBK_bool,cond_true,l1,c1,l2,chk_u8,Bool.and_true,cq,bin_mul,w1,bin_add,w2,l3,chk_b,c2,w3,parU,ck,wk,w4]
 · have d3 : decide ((p.kind : Int) = 3) = false := by rw [decide_eq_false_iff_not]; omega
   obtain ⟨G,hG⟩ : ∃ G : Nat,G = if p.kind = 6 ∨ p.kind = 8 ∨ p.kind = 10 then 2 else 0 := ⟨_,rfl⟩
   have hGl : G ≤ 2 := by rw [hG]; split <;> omega
   have hf : flagsN p = G := by rw [hG]; exact if_neg h3
   rw [← hG] at ld
   have w4 : IntKind.i64.wrap (((16 * p.kind : Nat) : Int) + (G : Int)) = ((16 * p.kind + G : Nat) : Int) := by rw [wrap64 (by omega) (by omega)]; omega
   rw [hf]
   simp only [F43,p43a,pamP,e1,bnd2_some,pamQ,e2,fieldAddr_eq,Nat.zero_add,bnd_some,l0,ix,ld,parT,bin_eql,d3,toBK_bool,cond_false,parU,ck,bin_mul,wk,bin_add,w4]
end
end Go.Proofs.YtdljlmpleibkiaaGreatDoor.Sc

namespace Go.Proofs.YtdljlmpleibkiaaGreatDoor.Sc
open Tryz (prog)
open Go Go.AM ScA ScB ScC
def fldN (kind : Nat) : List UInt8 := if kind = 1 then [108,99,107,110,119,117,115] else if kind = 3 then [100,113,114,105,116,112] else if kind = 8 ∨ kind = 10 then [105,98] else if kind = 12 ∨ kind = 14 then [] else [105]
def kinds : List Nat := [1,3,4,5,6,7,8,10,12,14]
def letters : List UInt8 := [100,114,99,101,113,105,116,112,108,111,98,109]
def hasL (kind : Nat) (c : UInt8) : Bool := (fldN kind).contains c
structure KnD (Q : Orc) : Prop where
 kn : Kn Q
 fd : ∀ k ∈ kinds,Q 57 [.int .u8 (k : Int)] = some (str (fldN k))
 hs : ∀ k ∈ kinds,∀ c ∈ letters,Q 63 [str (fldN k),.int .u8 (c.toNat : Int)] = some (.bool (hasL k c))
 nm : ∀ s ∈ names,Q 62 [str s] = some (.bool true)
 va : ∀ s ∈ clients,Q 89 [str s] = some (.bool true)
 fi : ∀ s ∈ filters,Q 88 [str s] = some (.bool true)
 dt : ∀ s ∈ texts,Q 66 [str s] = some (str (fieldB s))
 wd : ∀ n : Nat,n < 256 → Q 67 [.int .u16 (n : Int)] = some (str (wordB n))
 ln : ∀ n : Nat,n < 128 → Q 41 [.int .i64 (n : Int)] = some (.tuple ⟨[str [UInt8.ofNat n],.int .i64 0]⟩)
structure Fits (p : Pk) (w : Value) : Prop where
 kd : p.kind ∈ kinds
 d : p.dup = true → hasL p.kind 100 = true
 r : p.retain = true → hasL p.kind 114 = true
 c : p.clean = true → hasL p.kind 99 = true
 q : hasL p.kind 113 = false → p.qos = 0
 i : hasL p.kind 105 = false → p.id = 0
 t : hasL p.kind 116 = false → p.topic = []
 pl : hasL p.kind 112 = false → p.payload = []
 l : hasL p.kind 108 = false → p.level = 0 ∧ p.keep = 0 ∧ p.client = [] ∧ p.will = false ∧ p.wt = [] ∧ p.wp = [] ∧ p.wq = 0
 o : hasL p.kind 111 = false
 b : hasL p.kind 98 = false → w = nilS
 m : hasL p.kind 109 = false
theorem Good.fits {p : Pk} (g : Good p) {w : Value} (hw : p.kind = 8 ∨ p.kind = 10 ∨ w = nilS) : Fits p w := by
 cases g with
 | c level clean keep client will wt wp wq =>
  have hw : w = nilS := by
   rcases hw with h | h | h
   · exact absurd (show (1 : Nat) = 8 from h) (by omega)
   · exact absurd (show (1 : Nat) = 10 from h) (by omega)
   · exact h
  exact ⟨(by decide : 1 ∈ kinds),fun _ => by contradiction,fun _ => by contradiction,fun _ => (by decide : hasL 1 99 = true),fun _ => rfl,fun _ => rfl,fun _ => rfl,fun _ => rfl,fun h => absurd (show hasL 1 108 = false from h) (by decide),(by decide : hasL 1 111 = false),fun _ => hw,(by decide : hasL 1 109 = false)⟩
 | p dup qos retain id topic payload =>
  have hw : w = nilS := by
   rcases hw with h | h | h
   · exact absurd (show (3 : Nat) = 8 from h) (by omega)
   · exact absurd (show (3 : Nat) = 10 from h) (by omega)
   · exact h
  exact ⟨(by decide : 3 ∈ kinds),fun _ => (by decide : hasL 3 100 = true),fun _ => (by decide : hasL 3 114 = true),fun _ => by contradiction,fun h => absurd (show hasL 3 113 = false from h) (by decide),fun h => absurd (show hasL 3 105 = false from h) (by decide),fun h => absurd (show hasL 3 116 = false from h) (by decide),fun h => absurd (show hasL 3 112 = false from h) (by decide),fun _ => ⟨rfl,rfl,rfl,rfl,rfl,rfl,rfl⟩,(by decide : hasL 3 111 = false),fun _ => hw,(by decide : hasL 3 109 = false)⟩
 | i kind id hk =>
  have hw : hasL kind 98 = false → w = nilS := by
   rcases hw with h | h | h
   · have h : kind = 8 := h
     subst h; exact fun h => absurd h (by decide)
   · have h : kind = 10 := h
     subst h; exact fun h => absurd h (by decide)
   · exact fun _ => h
  refine ⟨?_,fun _ => by contradiction,fun _ => by contradiction,fun _ => by contradiction,fun _ => rfl,fun h => ?_,fun _ => rfl,fun _ => rfl,fun _ => ⟨rfl,rfl,rfl,rfl,rfl,rfl,rfl⟩,?_,hw,?_⟩
  · show kind ∈ kinds
    rcases hk with rfl | rfl | rfl | rfl | rfl | rfl <;> decide
  · have h : hasL kind 105 = false := h
    exact absurd h (by rcases hk with rfl | rfl | rfl | rfl | rfl | rfl <;> decide)
  · show hasL kind 111 = false
    rcases hk with rfl | rfl | rfl | rfl | rfl | rfl <;> decide
  · show hasL kind 109 = false
    rcases hk with rfl | rfl | rfl | rfl | rfl | rfl <;> decide
 | b kind hk =>
  have hw : w = nilS := by
   rcases hw with h | h | h
   · have h : kind = 8 := h
     omega
   · have h : kind = 10 := h
     omega
   · exact h
  refine ⟨?_,fun _ => by contradiction,fun _ => by contradiction,fun _ => by contradiction,fun _ => rfl,fun _ => rfl,fun _ => rfl,fun _ => rfl,fun _ => ⟨rfl,rfl,rfl,rfl,rfl,rfl,rfl⟩,?_,fun _ => hw,?_⟩
  · show kind ∈ kinds
    rcases hk with rfl | rfl <;> decide
  · show hasL kind 111 = false
    rcases hk with rfl | rfl <;> decide
  · show hasL kind 109 = false
    rcases hk with rfl | rfl <;> decide
structure In59 (h0 h : H) (t1 t2 t4 : Nat) (p : Pk) (w : Value) : Prop where
 b1 : Bx h t1 p w
 b4 : Bx h t4 p w
 g2 : h.get t2 = some (.cells ScC.Z77L (some 0))
 l2 : t2 < h.next
 x : Ext h0 h
 n1 : t1 ≠ t4
 n2 : t2 ≠ t4
 o : h0.next ≤ t4
 o2 : h0.next ≤ t2
theorem In59.set {h0 h : H} {t1 t2 t4 : Nat} {p : Pk} {w : Value} (n : In59 h0 h t1 t2 t4 p w) {i : Nat} {v : Value} (hi : i < 24) (hv : cellsL v = some [v]) (hc : (p.cells w)[i]? = some v) :
 ∃ h',A.store 1 (.pointer (some ⟨t4,i,none⟩)) v h = some h' ∧ In59 h0 h' t1 t2 t4 p w := by
 have hp : p.cells w = (p.cells w).set i v := by
  obtain ⟨hl,he⟩ := List.getElem?_eq_some_iff.1 hc
  rw [← he,List.set_getElem_self]
 obtain ⟨h',e,b,x,nn⟩ := n.b4.set (p' := p) hi hv hp
 exact ⟨h',e,n.b1.but x n.n1,b,by rw [x.get _ n.l2 n.n2]; exact n.g2,by have := n.l2; omega,⟨by have := n.x.next; omega,fun j hj => by have := n.x.next; have := n.o; rw [x.get j (by omega) (by omega)]; exact n.x.get j hj⟩,n.n1,n.n2,n.o,n.o2⟩
theorem In59.will {h0 h : H} {t1 t2 t4 : Nat} {p : Pk} {w : Value} (n : In59 h0 h t1 t2 t4 p w) (h1 : p.wt = []) (h2 : p.wp = []) (h3 : p.wq = 0) :
 ∃ h',A.store 4 (.pointer (some ⟨t4,12,none⟩)) (.agg ⟨ScC.Z74L⟩) h = some h' ∧ In59 h0 h' t1 t2 t4 p w := by
 obtain ⟨h',hh⟩ : ∃ h',h' = h.put t4 (.cells (p.cells w) (some 0)) := ⟨_,rfl⟩
 have x : ExtBut (fun j => j = t4) h h' := by rw [hh]; exact ExtBut.put ⟨Nat.le_refl _,fun _ _ _ => rfl⟩ t4 _ rfl
 have nn : h'.next = h.next := by rw [hh]; rfl
 refine ⟨h',?_,n.b1.but x n.n1,⟨by rw [hh,H.get_put,if_pos rfl],by rw [nn]; exact n.b4.2⟩,by rw [x.get _ n.l2 n.n2]; exact n.g2,by have := n.l2; omega,⟨by have := n.x.next; omega,fun j hj => by have := n.x.next; have := n.o; rw [x.get j (by omega) (by omega)]; exact n.x.get j hj⟩,n.n1,n.n2,n.o,n.o2⟩
 rw [store_eq,n.b4.1,hh]
 obtain ⟨k1,k2,k3,k4,k5,k6,k7,k8,k9,k10,k11,k12,k13,k14,k15⟩ := p
 simp only at h1 h2 h3
 subst h1; subst h2; subst h3
 rfl
section
variable {Q : Orc} (kd : KnD Q) {h0 : H} {t1 t2 t4 : Nat} {p : Pk} {w : Value} (ft : Fits p w)
include kd ft
theorem a59 (k L : Nat) {h : H} (n : In59 h0 h t1 t2 t4 p w) : ∃ h',(∀ (β : Type) (kc : Value → Value → Value → Value → H → Option β),papK (callO prog 0 Q (k + 1)) L (ptrV t1) (str (fldN p.kind)) (ptrV t4) (ptrV t2) h kc = kc (ptrV t1) (str (fldN p.kind)) (ptrV t4) (ptrV t2) h') ∧ In59 h0 h' t1 t2 t4 p w := by
 have l1 : A.load false 1 (.pointer (some ⟨t1,1,none⟩)) h = some (.bool p.dup) := n.b1.ld rfl
 obtain ⟨h',e,n'⟩ := n.set (i := 1) (v := .bool p.dup) (by omega) rfl rfl
 refine ⟨h',fun β kc => ?_,n'⟩
 cases hd : p.dup with
 | true =>
  rw [hd] at l1 e
  have c1 : callO prog 0 Q (k + 1) 63 [str (fldN p.kind),.int .u8 100] h = some (.bool (hasL p.kind 100),h) := callO_known (kd.hs p.kind ft.kd 100 (by decide)) k h
  rw [ft.d hd] at c1
  simp only [papK,fieldAddr_eq,Nat.add_zero,bnd_some,l1,toBK_bool,cond_true,c1,bnd2_some,e]
 | false =>
  rw [hd] at l1 e
  simp only [papK,fieldAddr_eq,Nat.add_zero,bnd_some,l1,toBK_bool,cond_false,e]
theorem b59 (k L : Nat) {h : H} (n : In59 h0 h t1 t2 t4 p w) : ∃ h',(∀ (β : Type) (kc : Value → Value → Value → Value → H → Option β),papL (callO prog 0 Q (k + 1)) L (ptrV t1) (str (fldN p.kind)) (ptrV t4) (ptrV t2) h kc = kc (ptrV t1) (str (fldN p.kind)) (ptrV t4) (ptrV t2) h') ∧ In59 h0 h' t1 t2 t4 p w := by
 have l1 : A.load false 1 (.pointer (some ⟨t1,3,none⟩)) h = some (.bool p.retain) := n.b1.ld rfl
 obtain ⟨h',e,n'⟩ := n.set (i := 3) (v := .bool p.retain) (by omega) rfl rfl
 refine ⟨h',fun β kc => ?_,n'⟩
 cases hd : p.retain with
 | true =>
  rw [hd] at l1 e
  have c1 : callO prog 0 Q (k + 1) 63 [str (fldN p.kind),.int .u8 114] h = some (.bool (hasL p.kind 114),h) := callO_known (kd.hs p.kind ft.kd 114 (by decide)) k h
  rw [ft.r hd] at c1
  simp only [papL,fieldAddr_eq,Nat.add_zero,bnd_some,l1,toBK_bool,cond_true,c1,bnd2_some,e]
 | false =>
  rw [hd] at l1 e
  simp only [papL,fieldAddr_eq,Nat.add_zero,bnd_some,l1,toBK_bool,cond_false,e]
theorem c59 (k L : Nat) {h : H} (n : In59 h0 h t1 t2 t4 p w) : ∃ h',(∀ (β : Type) (kc : Value → Value → Value → Value → H → Option β),papM (callO prog 0 Q (k + 1)) L (ptrV t1) (str (fldN p.kind)) (ptrV t4) (ptrV t2) h kc = kc (ptrV t1) (str (fldN p.kind)) (ptrV t4) (ptrV t2) h') ∧ In59 h0 h' t1 t2 t4 p w := by
 have l1 : A.load false 1 (.pointer (some ⟨t1,8,none⟩)) h = some (.bool p.clean) := n.b1.ld rfl
 obtain ⟨h',e,n'⟩ := n.set (i := 8) (v := .bool p.clean) (by omega) rfl rfl
 refine ⟨h',fun β kc => ?_,n'⟩
 cases hd : p.clean with
 | true =>
  rw [hd] at l1 e
  have c1 : callO prog 0 Q (k + 1) 63 [str (fldN p.kind),.int .u8 99] h = some (.bool (hasL p.kind 99),h) := callO_known (kd.hs p.kind ft.kd 99 (by decide)) k h
  rw [ft.c hd] at c1
  simp only [papM,fieldAddr_eq,Nat.add_zero,bnd_some,l1,toBK_bool,cond_true,c1,bnd2_some,e]
 | false =>
  rw [hd] at l1 e
  simp only [papM,fieldAddr_eq,Nat.add_zero,bnd_some,l1,toBK_bool,cond_false,e]
theorem d59 (k L : Nat) {h : H} (n : In59 h0 h t1 t2 t4 p w) : ∃ h',(∀ (β : Type) (kc : Value → Value → Value → H → Option β),parW (callO prog 0 Q (k + 1)) L (ptrV t1) (str (fldN p.kind)) (ptrV t4) (ptrV t2) h kc = kc (str (fldN p.kind)) (ptrV t4) (ptrV t2) h') ∧ In59 h0 h' t1 t2 t4 p w := by
 have _ := kd
 have _ := ft
 have l1 : A.load false 1 (.pointer (some ⟨t1,20,none⟩)) h = some (.bool false) := n.b1.ld rfl
 obtain ⟨h',e,n'⟩ := n.set (i := 20) (v := .bool false) (by omega) rfl rfl
 refine ⟨h',fun β kc => ?_,n'⟩
 simp only [parW,fieldAddr_eq,Nat.add_zero,bnd_some,l1,toBK_bool,cond_false,e]
theorem e59 (k L : Nat) {h : H} (n : In59 h0 h t1 t2 t4 p w) : ∃ h',(∀ (β : Type) (kc : Value → Value → Value → H → Option β),papN (callO prog 0 Q (k + 1)) L (str (fldN p.kind)) (ptrV t4) (ptrV t2) h kc = kc (str (fldN p.kind)) (ptrV t4) (ptrV t2) h') ∧ In59 h0 h' t1 t2 t4 p w := by
 have c1 : callO prog 0 Q (k + 1) 63 [str (fldN p.kind),.int .u8 113] h = some (.bool (hasL p.kind 113),h) := callO_known (kd.hs p.kind ft.kd 113 (by decide)) k h
 cases hd : hasL p.kind 113 with
 | true =>
  rw [hd] at c1
  refine ⟨h,fun β kc => ?_,n⟩
  simp only [papN,c1,bnd2_some,toBK_bool,un_not,bnd_some,Bool.not_true,cond_false]
 | false =>
  rw [hd] at c1
  obtain ⟨h',e,n'⟩ := n.set (i := 2) (v := .int .u8 0) (by omega) rfl (by have := ft.q hd; show some (Value.int .u8 (p.qos : Int)) = _; rw [this]; rfl)
  refine ⟨h',fun β kc => ?_,n'⟩
  simp only [papN,c1,bnd2_some,toBK_bool,un_not,bnd_some,Bool.not_false,cond_true,fieldAddr_eq,Nat.add_zero,e]
theorem f59 (k L : Nat) {h : H} (n : In59 h0 h t1 t2 t4 p w) : ∃ h',(∀ (β : Type) (kc : Value → Value → Value → H → Option β),papO (callO prog 0 Q (k + 1)) L (str (fldN p.kind)) (ptrV t4) (ptrV t2) h kc = kc (str (fldN p.kind)) (ptrV t4) (ptrV t2) h') ∧ In59 h0 h' t1 t2 t4 p w := by
 have c1 : callO prog 0 Q (k + 1) 63 [str (fldN p.kind),.int .u8 105] h = some (.bool (hasL p.kind 105),h) := callO_known (kd.hs p.kind ft.kd 105 (by decide)) k h
 cases hd : hasL p.kind 105 with
 | true =>
  rw [hd] at c1
  refine ⟨h,fun β kc => ?_,n⟩
  simp only [papO,c1,bnd2_some,toBK_bool,un_not,bnd_some,Bool.not_true,cond_false]
 | false =>
  rw [hd] at c1
  obtain ⟨h',e,n'⟩ := n.set (i := 4) (v := .int .u16 0) (by omega) rfl (by have := ft.i hd; show some (Value.int .u16 (p.id : Int)) = _; rw [this]; rfl)
  refine ⟨h',fun β kc => ?_,n'⟩
  simp only [papO,c1,bnd2_some,toBK_bool,un_not,bnd_some,Bool.not_false,cond_true,fieldAddr_eq,Nat.add_zero,e]
theorem g59 (k L : Nat) {h : H} (n : In59 h0 h t1 t2 t4 p w) : ∃ h',(∀ (β : Type) (kc : Value → Value → Value → H → Option β),papP (callO prog 0 Q (k + 1)) L (str (fldN p.kind)) (ptrV t4) (ptrV t2) h kc = kc (str (fldN p.kind)) (ptrV t4) (ptrV t2) h') ∧ In59 h0 h' t1 t2 t4 p w := by
 have c1 : callO prog 0 Q (k + 1) 63 [str (fldN p.kind),.int .u8 116] h = some (.bool (hasL p.kind 116),h) := callO_known (kd.hs p.kind ft.kd 116 (by decide)) k h
 cases hd : hasL p.kind 116 with
 | true =>
  rw [hd] at c1
  refine ⟨h,fun β kc => ?_,n⟩
  simp only [papP,c1,bnd2_some,toBK_bool,un_not,bnd_some,Bool.not_true,cond_false]
 | false =>
  rw [hd] at c1
  obtain ⟨h',e,n'⟩ := n.set (i := 5) (v := str []) (by omega) rfl (by have := ft.t hd; show some (str p.topic) = _; rw [this])
  refine ⟨h',fun β kc => ?_,n'⟩
  simp only [papP,c1,bnd2_some,toBK_bool,un_not,bnd_some,Bool.not_false,cond_true,fieldAddr_eq,Nat.add_zero,e]
theorem i59 (k L : Nat) {h : H} (n : In59 h0 h t1 t2 t4 p w) : ∃ h',(∀ (β : Type) (kc : Value → Value → Value → H → Option β),papQ (callO prog 0 Q (k + 1)) L (str (fldN p.kind)) (ptrV t4) (ptrV t2) h kc = kc (str (fldN p.kind)) (ptrV t4) (ptrV t2) h') ∧ In59 h0 h' t1 t2 t4 p w := by
 have c1 : callO prog 0 Q (k + 1) 63 [str (fldN p.kind),.int .u8 112] h = some (.bool (hasL p.kind 112),h) := callO_known (kd.hs p.kind ft.kd 112 (by decide)) k h
 cases hd : hasL p.kind 112 with
 | true =>
  rw [hd] at c1
  refine ⟨h,fun β kc => ?_,n⟩
  simp only [papQ,c1,bnd2_some,toBK_bool,un_not,bnd_some,Bool.not_true,cond_false]
 | false =>
  rw [hd] at c1
  obtain ⟨h',e,n'⟩ := n.set (i := 6) (v := str []) (by omega) rfl (by have := ft.pl hd; show some (str p.payload) = _; rw [this])
  refine ⟨h',fun β kc => ?_,n'⟩
  simp only [papQ,c1,bnd2_some,toBK_bool,un_not,bnd_some,Bool.not_false,cond_true,fieldAddr_eq,Nat.add_zero,e]
theorem j59 (k L : Nat) {h : H} (n : In59 h0 h t1 t2 t4 p w) : ∃ h',(∀ (β : Type) (kc : Value → Value → Value → H → Option β),papR (callO prog 0 Q (k + 1)) L (str (fldN p.kind)) (ptrV t4) (ptrV t2) h kc = kc (str (fldN p.kind)) (ptrV t4) (ptrV t2) h') ∧ In59 h0 h' t1 t2 t4 p w := by
 have c1 : callO prog 0 Q (k + 1) 63 [str (fldN p.kind),.int .u8 108] h = some (.bool (hasL p.kind 108),h) := callO_known (kd.hs p.kind ft.kd 108 (by decide)) k h
 cases hd : hasL p.kind 108 with
 | true =>
  rw [hd] at c1
  refine ⟨h,fun β kc => ?_,n⟩
  simp only [papR,c1,bnd2_some,toBK_bool,un_not,bnd_some,Bool.not_true,cond_false]
 | false =>
  rw [hd] at c1
  obtain ⟨q1,q2,q3,q4,q5,q6,q7⟩ := ft.l hd
  obtain ⟨ha,ea,na⟩ := n.set (i := 7) (v := .int .u8 0) (by omega) rfl (by show some (Value.int .u8 (p.level : Int)) = _; rw [q1]; rfl)
  obtain ⟨hb,eb,nb⟩ := na.set (i := 9) (v := .int .u16 0) (by omega) rfl (by show some (Value.int .u16 (p.keep : Int)) = _; rw [q2]; rfl)
  obtain ⟨hc,ec,nc⟩ := nb.set (i := 10) (v := str []) (by omega) rfl (by show some (str p.client) = _; rw [q3])
  obtain ⟨he,ee,ne⟩ := nc.set (i := 11) (v := .bool false) (by omega) rfl (by show some (Value.bool p.will) = _; rw [q4])
  obtain ⟨hf,ef,nf⟩ := ne.will q5 q6 q7
  obtain ⟨hg,eg,ng⟩ := nf.set (i := 16) (v := .bool false) (by omega) rfl rfl
  obtain ⟨hi,ei,ni⟩ := ng.set (i := 18) (v := str []) (by omega) rfl rfl
  obtain ⟨hj,ej,nj⟩ := ni.set (i := 17) (v := .bool false) (by omega) rfl rfl
  obtain ⟨hk,ek,nk⟩ := nj.set (i := 19) (v := str []) (by omega) rfl rfl
  have bz : A.build ScC.Z74L [] = some (.agg ⟨ScC.Z74L⟩) := by kernel_rfl
  refine ⟨hk,fun β kc => ?_,nk⟩
  simp only [papR,c1,bnd2_some,toBK_bool,un_not,bnd_some,Bool.not_false,cond_true,fieldAddr_eq,Nat.add_zero,ea,eb,ec,ee,bz,ef,eg,ei,ej,ek]
theorem k59 (k L : Nat) {h : H} (n : In59 h0 h t1 t2 t4 p w) : ∃ h',(∀ (β : Type) (kr : Value → H → Option β),papS (callO prog 0 Q (k + 1)) L (str (fldN p.kind)) (ptrV t4) (ptrV t2) h kr = kr (ptrV t2) h') ∧ Ext h0 h' ∧ Bx h' t2 p w := by
 have c1 : ∀ h,callO prog 0 Q (k + 1) 63 [str (fldN p.kind),.int .u8 111] h = some (.bool (hasL p.kind 111),h) := fun h => callO_known (kd.hs p.kind ft.kd 111 (by decide)) k h
 have c2 : ∀ h,callO prog 0 Q (k + 1) 63 [str (fldN p.kind),.int .u8 98] h = some (.bool (hasL p.kind 98),h) := fun h => callO_known (kd.hs p.kind ft.kd 98 (by decide)) k h
 have c3 : ∀ h,callO prog 0 Q (k + 1) 63 [str (fldN p.kind),.int .u8 109] h = some (.bool (hasL p.kind 109),h) := fun h => callO_known (kd.hs p.kind ft.kd 109 (by decide)) k h
 rw [ft.o] at c1
 rw [ft.m] at c3
 obtain ⟨ha,ea,na⟩ := n.set (i := 21) (v := .int .u8 0) (by omega) rfl rfl
 have fin : ∀ {hx : H},In59 h0 hx t1 t2 t4 p w → h0.next ≤ t2 → ∃ hy hz,A.store 1 (.pointer (some ⟨t4,23,none⟩)) (str []) hx = some hy ∧ A.load true 24 (ptrV t4) hy = some (.agg ⟨p.cells w⟩) ∧ A.store 24 (ptrV t2) (.agg ⟨p.cells w⟩) hy = some hz ∧ Ext h0 hz ∧ Bx hz t2 p w := by
  intro hx nx ho
  obtain ⟨hy,ey,ny⟩ := nx.set (i := 23) (v := str []) (by omega) rfl rfl
  have hcl : cellsL (.agg ⟨p.cells w⟩) = some (p.cells w) := rfl
  obtain ⟨hz,hhz⟩ : ∃ hz,hz = hy.put t2 (.cells (p.cells w) (some 0)) := ⟨_,rfl⟩
  refine ⟨hy,hz,ey,ny.b4.all,?_,by rw [hhz]; exact ny.x.put _ _ ho,⟨by rw [hhz,H.get_put,if_pos rfl],by rw [hhz]; exact ny.l2⟩⟩
  rw [store_eq,ny.g2,hcl,hhz]; rfl
 cases hb : hasL p.kind 98 with
 | true =>
  rw [hb] at c2
  obtain ⟨hy,hz,s1,s2,s3,s4,s5⟩ := fin na na.o2
  refine ⟨hz,fun β kr => ?_,s4,s5⟩
  simp only [papS,c1,bnd2_some,toBK_bool,un_not,bnd_some,Bool.not_false,Bool.not_true,cond_true,cond_false,fieldAddr_eq,Nat.add_zero,ea,c2,c3,s1,s2,s3]
 | false =>
  rw [hb] at c2
  have hw := ft.b hb
  obtain ⟨hb',eb,nb⟩ := na.set (i := 22) (v := nilS) (by omega) rfl (by show some w = _; rw [hw])
  obtain ⟨hy,hz,s1,s2,s3,s4,s5⟩ := fin nb nb.o2
  refine ⟨hz,fun β kr => ?_,s4,s5⟩
  simp only [papS,c1,bnd2_some,toBK_bool,un_not,bnd_some,Bool.not_false,Bool.not_true,cond_true,cond_false,fieldAddr_eq,Nat.add_zero,ea,c2,eb,c3,s1,s2,s3]
theorem T59 (k : Nat) {h : H} (hw : cellsL w = some [w]) : ∃ h',callO prog 0 Q (k + 2) 59 [.agg ⟨p.cells w⟩] h = some (.agg ⟨p.cells w⟩,h') ∧ Ext h h' := by
 rw [F59eq Q (k + 1) _ h (kd.kn.fr 59 _ (by decide))]
 obtain ⟨h1,e1,b1,x1,n1⟩ := box_pk p hw h
 obtain ⟨h2,hh2⟩ : ∃ h2,h2 = h1.push (.cells ScC.Z77L (some 0)) := ⟨_,rfl⟩
 have e2 : A.box 24 ScC.Z77 h1 = some (ptrV h1.next,h2) := by rw [hh2]; rfl
 have x2 : Ext h1 h2 := by rw [hh2]; exact Ext.push h1 _
 have n2 : h2.next = h1.next + 1 := by rw [hh2]; rfl
 have b2 := b1.ext x2
 have l0 : A.load false 1 (.pointer (some ⟨h.next,0,none⟩)) h2 = some (.int .u8 (p.kind : Int)) := b2.ld rfl
 have c57 : callO prog 0 Q (k + 1) 57 [.int .u8 (p.kind : Int)] h2 = some (str (fldN p.kind),h2) := callO_known (kd.fd p.kind ft.kd) k h2
 obtain ⟨h3,hh3⟩ : ∃ h3,h3 = h2.push (.cells ScC.Z77L (some 0)) := ⟨_,rfl⟩
 have e3 : A.box 24 ScC.Z77 h2 = some (ptrV h2.next,h3) := by rw [hh3]; rfl
 have x3 : Ext h2 h3 := by rw [hh3]; exact Ext.push h2 _
 have n3 : h3.next = h2.next + 1 := by rw [hh3]; rfl
 obtain ⟨h4,e4,b4,x4,n4⟩ := store24 (h := h3) (t := h2.next) (zs := ScC.Z77L) rfl (by rw [hh3,H.get_push,if_pos rfl]) (by omega) p w
 have x04 : Ext h h4 := ⟨by omega,fun i hi => by rw [x4.get i (by omega) (by omega),x3.get i (by omega),x2.get i (by omega),x1.get i hi]⟩
 have i4 : In59 h h4 h.next h1.next h2.next p w := ⟨(b2.ext x3).but x4 (by omega),b4,by rw [x4.get _ (by omega) (by omega),x3.get _ (by omega),hh2,H.get_push,if_pos rfl],by omega,x04,by omega,by omega,by omega,by omega⟩
 obtain ⟨ha,ea,ia⟩ := a59 kd ft k (k + 1) i4
 obtain ⟨hb,eb,ib⟩ := b59 kd ft k (k + 1) ia
 obtain ⟨hc,ec,ic⟩ := c59 kd ft k (k + 1) ib
 obtain ⟨hd,ed,jd⟩ := d59 kd ft k (k + 1) ic
 obtain ⟨he,ee,ie⟩ := e59 kd ft k (k + 1) jd
 obtain ⟨hf,ef,jf⟩ := f59 kd ft k (k + 1) ie
 obtain ⟨hg,eg,ig⟩ := g59 kd ft k (k + 1) jf
 obtain ⟨hi,ei,ii⟩ := i59 kd ft k (k + 1) ig
 obtain ⟨hj,ej,ij⟩ := j59 kd ft k (k + 1) ii
 obtain ⟨hk,ek,xk,bk⟩ := k59 kd ft k (k + 1) ij
 refine ⟨hk,?_,xk⟩
 simp only [F59,p59a,pawK,e1,bnd2_some,e2,pawL,fieldAddr_eq,Nat.zero_add,bnd_some,l0,c57,pawM,b2.all,e3,e4,ea,eb,ec,ed,ee,ef,eg,ei,ej,ek,bk.all,resC,packA]
end
end Go.Proofs.YtdljlmpleibkiaaGreatDoor.Sc

namespace Go.Proofs.YtdljlmpleibkiaaGreatDoor.Sc
open Tryz (prog)
open Go Go.AM ScA ScB ScC
theorem neqb (b : Bool) : A.bin prog .neq 4 (.bool b) (.bool b) = some (.bool false) := by cases b <;> kernel_rfl
theorem neqi (t : TypeId) (k : IntKind) (x : Int) : A.bin prog .neq t (.int k x) (.int k x) = some (.bool false) := by rw [bin_neq]; simp
theorem neqs (l : List UInt8) : A.bin prog .neq 9 (str l) (str l) = some (.bool false) := by rw [bin_str_neq]; simp
theorem neqw (a b : List UInt8) (c : Int) (d : Bool) : A.bin prog .neq 74 (.agg ⟨[str a,str b,.int .u8 c,.bool d]⟩) (.agg ⟨[str a,str b,.int .u8 c,.bool d]⟩) = some (.bool false) := by
 have e : A.eqV prog 20 74 (.agg ⟨[str a,str b,.int .u8 c,.bool d]⟩) (.agg ⟨[str a,str b,.int .u8 c,.bool d]⟩) = (bif (a == a) then (bif (b == b) then (bif (c == c) then (bif (d == d) then some true else some false) else some false) else some false) else some false) := by kernel_rfl
 exact bin_agg_neq (r := true) rfl rfl (by kernel_rfl) (by rw [e]; simp only [beq_self_eq_true,cond_true])
theorem neqsb (s : Sb) : A.bin prog .neq 110 (.agg ⟨sbC s⟩) (.agg ⟨sbC s⟩) = some (.bool false) := by
 have e : A.eqV prog 20 110 (.agg ⟨sbC s⟩) (.agg ⟨sbC s⟩) = (bif (s.1 == s.1) then (bif ((s.2 : Int) == (s.2 : Int)) then some true else some false) else some false) := by kernel_rfl
 exact bin_agg_neq (r := true) rfl rfl (by kernel_rfl) (by rw [e]; simp only [beq_self_eq_true,cond_true])
theorem eqlb (b c : Bool) : A.bin prog .eql 4 (.bool b) (.bool c) = some (.bool (b == c)) := by cases b <;> cases c <;> kernel_rfl
theorem Bx.will {h : H} {t : Nat} {p : Pk} {w : Value} (b : Bx h t p w) : A.load true 4 (.pointer (some ⟨t,12,none⟩)) h = some (.agg ⟨[str p.wt,str p.wp,.int .u8 (p.wq : Int),.bool false]⟩) := by
 rw [loadN_eq,b.1]; rfl
section
variable {Q : Orc} (kd : KnD Q) {h : H} {p : Pk} {w : Value}
include kd
theorem a58 (C : CF) (L : Nat) {t2 t3 : Nat} (b2 : Bx h t2 p w) (b3 : Bx h t3 p w) (β : Type) (kr : Value → H → Option β) (kc : Value → Value → H → Option β) : palG C L (ptrV t3) (ptrV t2) h kr kc = kc (ptrV t3) (ptrV t2) h := by
 have _ := kd
 have a0 := b2.ld (i := 0) rfl
 have a1 := b2.ld (i := 1) rfl
 have a2 := b2.ld (i := 2) rfl
 have a3 := b2.ld (i := 3) rfl
 have a4 := b2.ld (i := 4) rfl
 have a5 := b2.ld (i := 5) rfl
 have a6 := b2.ld (i := 6) rfl
 have a7 := b2.ld (i := 7) rfl
 have a8 := b2.ld (i := 8) rfl
 have a9 := b2.ld (i := 9) rfl
 have a10 := b2.ld (i := 10) rfl
 have c0 := b3.ld (i := 0) rfl
 have c1 := b3.ld (i := 1) rfl
 have c2 := b3.ld (i := 2) rfl
 have c3 := b3.ld (i := 3) rfl
 have c4 := b3.ld (i := 4) rfl
 have c5 := b3.ld (i := 5) rfl
 have c6 := b3.ld (i := 6) rfl
 have c7 := b3.ld (i := 7) rfl
 have c8 := b3.ld (i := 8) rfl
 have c9 := b3.ld (i := 9) rfl
 have c10 := b3.ld (i := 10) rfl
 simp only [palG,pawD,pawE,fieldAddr_eq,Nat.zero_add,bnd_some,a0,c0,a1,c1,a2,c2,a3,c3,a4,c4,a5,c5,a6,c6,a7,c7,a8,c8,a9,c9,a10,c10,neqi,neqb,neqs,toBK_bool,cond_false,condV_bool]
theorem b58 (C : CF) (L : Nat) {t2 t3 : Nat} (b2 : Bx h t2 p w) (b3 : Bx h t3 p w) {n : Int} (hl : A.lenS w = some (.int .i64 n)) (β : Type) (kr : Value → H → Option β) (kc : Value → Value → H → Option β) : palH C L (ptrV t3) (ptrV t2) h kr kc = kc (ptrV t3) (ptrV t2) h := by
 have _ := kd
 have a11 := b2.ld (i := 11) rfl
 have a16 := b2.ld (i := 16) rfl
 have a17 := b2.ld (i := 17) rfl
 have a18 := b2.ld (i := 18) rfl
 have a19 := b2.ld (i := 19) rfl
 have a20 := b2.ld (i := 20) rfl
 have a21 := b2.ld (i := 21) rfl
 have a22 := b2.ld (i := 22) rfl
 have a23 := b2.ld (i := 23) rfl
 have c11 := b3.ld (i := 11) rfl
 have c16 := b3.ld (i := 16) rfl
 have c17 := b3.ld (i := 17) rfl
 have c18 := b3.ld (i := 18) rfl
 have c19 := b3.ld (i := 19) rfl
 have c20 := b3.ld (i := 20) rfl
 have c21 := b3.ld (i := 21) rfl
 have c22 := b3.ld (i := 22) rfl
 have c23 := b3.ld (i := 23) rfl
 have a12 := b2.will
 have c12 := b3.will
 simp only [palH,pawF,pawG,fieldAddr_eq,Nat.zero_add,bnd_some,a11,c11,a16,c16,a17,c17,a18,c18,a19,c19,a20,c20,a21,c21,a22,c22,a23,c23,a12,c12,hl,neqi,neqb,neqs,neqw,toBK_bool,cond_false,condV_bool]
theorem lp58 (C : CF) (L : Nat) {β : Type} (kr : Value → H → Option β) (kx : H → Option β) {t2 t3 : Nat} (b2 : Bx h t2 p w) (b3 : Bx h t3 p w) {l : List Sb} (sl : SliceE 2 h w (l.map sbC)) (hll : l.length ≤ 100) :
 ∀ (d i m : Nat),i + d = l.length → d < m → pawI C L kr kx m (.int .i64 (i : Int)) (ptrV t3) (ptrV t2) h = kx h := by
 have _ := kd
 have a22 := b2.ld (i := 22) rfl
 have c22 := b3.ld (i := 22) rfl
 have hl : A.lenS w = some (.int .i64 (l.length : Int)) := by have := sl.len.1; rwa [List.length_map] at this
 intro d
 induction d with
 | zero =>
  intro i m hi hm
  obtain ⟨m,rfl⟩ : ∃ r,m = r + 1 := ⟨m - 1,by omega⟩
  have hd : decide ((i : Int) < (l.length : Int)) = false := by rw [decide_eq_false_iff_not]; omega
  simp only [pawI,papJ,fieldAddr_eq,Nat.zero_add,bnd_some,a22,hl,bin_lss,hd,toBK_bool,cond_false]
 | succ d ih =>
  intro i m hi hm
  obtain ⟨m,rfl⟩ : ∃ r,m = r + 1 := ⟨m - 1,by omega⟩
  have hd : decide ((i : Int) < (l.length : Int)) = true := by rw [decide_eq_true_iff]; omega
  obtain ⟨s,hsi⟩ : ∃ s,l[i]? = some s := ⟨l[i],List.getElem?_eq_getElem (by omega)⟩
  obtain ⟨id,off,cells,own,ix,_,hg,h4,h5,_⟩ := sl.at (i := i) (e := sbC s) (by rw [List.getElem?_map,hsi]; rfl) .i64
  have ld : A.load true 2 (.pointer (some ⟨id,off,none⟩)) h = some (.agg ⟨sbC s⟩) := load_of hg h4 h5
  have wi : IntKind.i64.wrap ((i : Int) + 1) = ((i + 1 : Nat) : Int) := wrap_succ (by omega)
  have := ih (i + 1) m (by omega) (by omega)
  simp only [pawI,papJ,fieldAddr_eq,Nat.zero_add,bnd_some,a22,c22,hl,bin_lss,hd,toBK_bool,cond_true,ix,ld,neqsb,cond_false,bin_add,wi,this]
theorem T58 (k : Nat) {l : List Sb} (sl : SliceE 2 h w (l.map sbC)) (hll : l.length ≤ 100) : ∃ h',callO prog 0 Q (k + 1 + l.length + 1) 58 [.agg ⟨p.cells w⟩,.agg ⟨p.cells w⟩] h = some (.bool true,h') ∧ Ext h h' := by
 rw [F58eq Q (k + 1 + l.length) _ _ h (kd.kn.fr 58 _ (by decide))]
 have hw := sl.cells
 obtain ⟨h1,e1,b1,x1,n1⟩ := box_pk p hw h
 obtain ⟨h2,e2,b2,x2,n2⟩ := box_pk p hw h1
 have b1 := b1.ext x2
 have hl : A.lenS w = some (.int .i64 (l.length : Int)) := by have := sl.len.1; rwa [List.length_map] at this
 refine ⟨h2,?_,x1.trans x2⟩
 have loop := lp58 kd (callO prog 0 Q (k + 1 + l.length)) (k + 1 + l.length) (fun (x4 : Value) (h : H) => some (x4,h)) (fun h => some (.bool true,h)) b1 b2 ((sl.ext x1).ext x2) hll l.length 0 (k + 1 + l.length) (by omega) (by omega)
 have loop : pawI (callO prog 0 Q (k + 1 + l.length)) (k + 1 + l.length) (fun (x4 : Value) (h : H) => some (x4,h)) (fun h => some (.bool true,h)) (k + 1 + l.length) (.int .i64 0) (ptrV h1.next) (ptrV h.next) h2 = some (.bool true,h2) := loop
 generalize k + 1 + l.length = m at loop ⊢
 simp only [F58,p58a,pawC,e1,bnd2_some,e2,a58 kd _ _ b1 b2,b58 kd _ _ b1 b2 hl,paiL,pawH,pakB,palP,pawJ,loop]
theorem lp60 (k L : Nat) {β : Type} (kr : Value → H → Option β) (kx : Value → H → Option β) {t : Nat} (b : Bx h t p w) {l : List Sb} (sl : SliceE 2 h w (l.map sbC)) (hll : l.length ≤ 100) (hs : ∀ s ∈ l,s.1 ∈ filters ∧ s.2 ≤ mostN p.kind) :
 ∀ (d i m : Nat),i + d = l.length → d < m → pasC (callO prog 0 Q (k + 1)) L kr kx m (.int .i64 (i : Int)) (ptrV t) h = kx (ptrV t) h := by
 have a0 := b.ld (i := 0) rfl
 have a22 := b.ld (i := 22) rfl
 have hl : A.lenS w = some (.int .i64 (l.length : Int)) := by have := sl.len.1; rwa [List.length_map] at this
 intro d
 induction d with
 | zero =>
  intro i m hi hm
  obtain ⟨m,rfl⟩ : ∃ r,m = r + 1 := ⟨m - 1,by omega⟩
  have hd : decide ((i : Int) < (l.length : Int)) = false := by rw [decide_eq_false_iff_not]; omega
  simp only [pasC,pagX,papT,fieldAddr_eq,Nat.zero_add,bnd_some,a22,hl,bin_lss,hd,toBK_bool,cond_false]
 | succ d ih =>
  intro i m hi hm
  obtain ⟨m,rfl⟩ : ∃ r,m = r + 1 := ⟨m - 1,by omega⟩
  have hd : decide ((i : Int) < (l.length : Int)) = true := by rw [decide_eq_true_iff]; omega
  obtain ⟨s,hsi⟩ : ∃ s,l[i]? = some s := ⟨l[i],List.getElem?_eq_getElem (by omega)⟩
  obtain ⟨hs1,hs2⟩ := hs s (List.mem_of_getElem? hsi)
  obtain ⟨id,off,cells,own,ix,_,hg,h4,h5,hc⟩ := sl.at (i := i) (e := sbC s) (by rw [List.getElem?_map,hsi]; rfl) .i64
  have l0 : A.load false 1 (.pointer (some ⟨id,off,none⟩)) h = some (str s.1) := by
   rw [load1_eq,hg]; have := hc 0 (by show 0 < 2; omega); simpa [sbC] using this
  have l1 : A.load false 1 (.pointer (some ⟨id,1 + off,none⟩)) h = some (.int .u8 (s.2 : Int)) := by
   rw [load1_eq,hg]; have := hc 1 (by show 1 < 2; omega); rw [Nat.add_comm 1 off]; simpa [sbC] using this
  have l1' : A.load false 1 (.pointer (some ⟨id,off + 1,none⟩)) h = some (.int .u8 (s.2 : Int)) := by rw [Nat.add_comm]; exact l1
  have e88 : callO prog 0 Q (k + 1) 88 [str s.1] h = _ := callO_known (kd.fi s.1 hs1) k h
  have hmo : mostN p.kind ≤ 2 := by unfold mostN; split <;> omega
  have d2 : decide ((2 : Int) < (s.2 : Int)) = false := by rw [decide_eq_false_iff_not]; omega
  have wi : IntKind.i64.wrap ((i : Int) + 1) = ((i + 1 : Nat) : Int) := wrap_succ (by omega)
  have := ih (i + 1) m (by omega) (by omega)
  by_cases h10 : p.kind = 10
  · have d10 := deq (k := p.kind) (c := 10) (by omega)
    have d0 : decide ((0 : Int) < (s.2 : Int)) = false := by
     have : mostN p.kind = 0 := by unfold mostN; rw [if_pos h10]
     rw [decide_eq_false_iff_not]; omega
    simp only [pasC,pagX,papT,fieldAddr_eq,Nat.zero_add,Nat.add_zero,bnd_some,a22,hl,bin_lss,hd,toBK_bool,cond_true,pajS,palC,parZ,ix,l0,e88,bnd2_some,un_not,Bool.not_true,cond_false,l1,l1',bin_gtr,d2,a0,bin_eql,d10,d0,pasA,condV_bool,pasB,bin_add,wi,this]
  · have d10 := dne (k := p.kind) (c := 10) (by omega)
    simp only [pasC,pagX,papT,fieldAddr_eq,Nat.zero_add,Nat.add_zero,bnd_some,a22,hl,bin_lss,hd,toBK_bool,cond_true,pajS,palC,parZ,ix,l0,e88,bnd2_some,un_not,Bool.not_true,cond_false,l1,l1',bin_gtr,d2,a0,bin_eql,d10,pasA,condV_bool,pasB,bin_add,wi,this]
theorem T60 (k : Nat) {l : List Sb} (sl : SliceE 2 h w (l.map sbC)) (hll : l.length ≤ 100) (hs : ∀ s ∈ l,s.1 ∈ filters ∧ s.2 ≤ mostN p.kind) (hn : 0 < l.length ↔ p.kind = 8 ∨ p.kind = 10) (h9 : p.kind ≠ 9) : ∃ h',callO prog 0 Q (k + 1 + l.length + 1) 60 [.agg ⟨p.cells w⟩] h = some (.bool true,h') ∧ Ext h h' := by
 rw [F60eq Q (k + 1 + l.length) _ h (kd.kn.fr 60 _ (by decide))]
 have hw := sl.cells
 obtain ⟨h1,e1,b1,x1,n1⟩ := box_pk p hw h
 have hl : A.lenS w = some (.int .i64 (l.length : Int)) := by have := sl.len.1; rwa [List.length_map] at this
 refine ⟨h1,?_,x1⟩
 have loop := fun (kr : Value → H → Option (Value × H)) (kx : Value → H → Option (Value × H)) => lp60 kd (k + l.length) (k + 1 + l.length) kr kx b1 (sl.ext x1) hll hs l.length 0 (k + 1 + l.length) (by omega) (by omega)
 have hk : k + l.length + 1 = k + 1 + l.length := by omega
 rw [hk] at loop
 have loop : ∀ (kr : Value → H → Option (Value × H)) (kx : Value → H → Option (Value × H)),pasC (callO prog 0 Q (k + 1 + l.length)) (k + 1 + l.length) kr kx (k + 1 + l.length) (.int .i64 0) (ptrV h.next) h1 = kx (ptrV h.next) h1 := loop
 have a0 := b1.ld (i := 0) rfl
 have a22 := b1.ld (i := 22) rfl
 have a23 : A.load false 1 (.pointer (some ⟨h.next,23,none⟩)) h1 = some (str []) := b1.ld (i := 23) rfl
 have ls : A.lenStr (str []) = some (.int .i64 0) := rfl
 have z0 : decide ((0 : Int) < 0) = false := rfl
 have loop2 : ∀ (r : Nat) (kr : Value → H → Option (Value × H)) (kx : Value → H → Option (Value × H)),paxY (callO prog 0 Q (k + 1 + l.length)) (k + 1 + l.length) kr kx (r + 1) (.int .i64 0) (ptrV h.next) h1 = kx (ptrV h.next) h1 := by
  intro r kr kx
  simp only [paxY,pajD,pawV,fieldAddr_eq,Nat.zero_add,bnd_some,a23,ls,bin_lss,z0,toBK_bool,cond_false]
 have loop2 : ∀ (kr : Value → H → Option (Value × H)) (kx : Value → H → Option (Value × H)),paxY (callO prog 0 Q (k + 1 + l.length)) (k + 1 + l.length) kr kx (k + 1 + l.length) (.int .i64 0) (ptrV h.next) h1 = kx (ptrV h.next) h1 := by
  have e : k + 1 + l.length = (k + l.length) + 1 := by omega
  have := loop2 (k + l.length)
  rw [← e] at this
  exact this
 generalize k + 1 + l.length = m at loop loop2 ⊢
 have d9 := dne (k := p.kind) (c := 9) (by omega)
 simp only [F60,p60a,pawS,e1,bnd2_some,paeN,pawT,pafI,pafR,loop,pafW,pawU,pahD,pahU,loop2]
 by_cases h8 : p.kind = 8
 · have d8 := deq (k := p.kind) (c := 8) (by omega)
   have dl : decide ((0 : Int) < (l.length : Int)) = true := by have := hn.2 (.inl h8); rw [decide_eq_true_iff]; omega
   simp only [papU,fieldAddr_eq,Nat.zero_add,bnd_some,a0,a22,a23,hl,ls,bin_eql,bin_gtr,d8,d9,dl,z0,toBK_bool,cond_true,eqlb,beq_self_eq_true]
 · have d8 := dne (k := p.kind) (c := 8) (by omega)
   by_cases h10 : p.kind = 10
   · have d10 := deq (k := p.kind) (c := 10) (by omega)
     have dl : decide ((0 : Int) < (l.length : Int)) = true := by have := hn.2 (.inr h10); rw [decide_eq_true_iff]; omega
     simp only [papU,fieldAddr_eq,Nat.zero_add,bnd_some,a0,a22,a23,hl,ls,bin_eql,bin_gtr,d8,d9,d10,dl,z0,toBK_bool,cond_true,cond_false,eqlb,beq_self_eq_true]
   · have d10 := dne (k := p.kind) (c := 10) (by omega)
     have dl : decide ((0 : Int) < (l.length : Int)) = false := by
      have : ¬ 0 < l.length := fun h => by have := hn.1 h; omega
      rw [decide_eq_false_iff_not]; omega
     simp only [papU,fieldAddr_eq,Nat.zero_add,bnd_some,a0,a22,a23,hl,ls,bin_eql,bin_gtr,d8,d9,d10,dl,z0,toBK_bool,cond_true,cond_false,eqlb,beq_self_eq_true]
theorem T61 (k : Nat) {clean : Bool} {keep : Nat} {client : List UInt8} {will : Bool} {wt wp : List UInt8} {wq : Nat} (hw : cellsL w = some [w]) (hc : client ∈ clients) (h1 : will = true → wt ∈ names ∧ wp = [119] ∧ wq ≤ 2) (h2 : will = false → wt = [] ∧ wp = [] ∧ wq = 0) :
 ∃ h',callO prog 0 Q (k + 2) 61 [.agg ⟨(mkC 4 clean keep client will wt wp wq).cells w⟩] h = some (.bool true,h') ∧ Ext h h' := by
 rw [F61eq Q (k + 1) _ h (kd.kn.fr 61 _ (by decide))]
 obtain ⟨hb,e1,b1,x1,n1⟩ := box_pk (mkC 4 clean keep client will wt wp wq) hw h
 have a7 : A.load false 1 (.pointer (some ⟨h.next,7,none⟩)) hb = some (.int .u8 4) := b1.ld (i := 7) rfl
 have a10 : A.load false 1 (.pointer (some ⟨h.next,10,none⟩)) hb = some (str client) := b1.ld (i := 10) rfl
 have a11 : A.load false 1 (.pointer (some ⟨h.next,11,none⟩)) hb = some (.bool will) := b1.ld (i := 11) rfl
 have a12 : A.load false 1 (.pointer (some ⟨h.next,12,none⟩)) hb = some (str wt) := b1.ld (i := 12) rfl
 have a13 : A.load false 1 (.pointer (some ⟨h.next,13,none⟩)) hb = some (str wp) := b1.ld (i := 13) rfl
 have a14 : A.load false 1 (.pointer (some ⟨h.next,14,none⟩)) hb = some (.int .u8 (wq : Int)) := b1.ld (i := 14) rfl
 have a15 : A.load false 1 (.pointer (some ⟨h.next,15,none⟩)) hb = some (.bool false) := b1.ld (i := 15) rfl
 have a16 : A.load false 1 (.pointer (some ⟨h.next,16,none⟩)) hb = some (.bool false) := b1.ld (i := 16) rfl
 have a17 : A.load false 1 (.pointer (some ⟨h.next,17,none⟩)) hb = some (.bool false) := b1.ld (i := 17) rfl
 have a18 : A.load false 1 (.pointer (some ⟨h.next,18,none⟩)) hb = some (str []) := b1.ld (i := 18) rfl
 have a19 : A.load false 1 (.pointer (some ⟨h.next,19,none⟩)) hb = some (str []) := b1.ld (i := 19) rfl
 have e89 : callO prog 0 Q (k + 1) 89 [str client] hb = _ := callO_known (kd.va client hc) k hb
 have es : A.bin prog .eql 9 (str []) (str []) = some (.bool true) := by rw [bin_str_eql]; simp
 refine ⟨hb,?_,x1⟩
 cases will with
 | true =>
  obtain ⟨q1,q2,q3⟩ := h1 rfl
  subst q2
  have e62 : callO prog 0 Q (k + 1) 62 [str wt] hb = _ := callO_known (kd.nm wt q1) k hb
  have ls : A.lenStr (str [119]) = some (.int .i64 1) := rfl
  have z1 : decide ((65535 : Int) < 1) = false := rfl
  have dq : decide ((2 : Int) < (wq : Int)) = false := by rw [decide_eq_false_iff_not]; omega
  simp only [F61,p61a,pasD,e1,bnd2_some,pasE,fieldAddr_eq,Nat.zero_add,Nat.reduceAdd,bnd_some,a7,neqi,toBK_bool,cond_false,a10,e89,un_not,Bool.not_true,pakX,pasF,a11,cond_true,a12,e62,a13,ls,bin_gtr,z1,a14,dq,pasG,condV_bool,pakY,pasH,pasI,pakZ,pasJ,a16,Bool.not_false,a18,neqs,a17,pasK,pasL,a19,es]
 | false =>
  obtain ⟨q1,q2,q3⟩ := h2 rfl
  subst q1; subst q2; subst q3
  have a14 : A.load false 1 (.pointer (some ⟨h.next,14,none⟩)) hb = some (.int .u8 0) := a14
  simp only [F61,p61a,pasD,e1,bnd2_some,pasE,fieldAddr_eq,Nat.zero_add,Nat.reduceAdd,bnd_some,a7,neqi,toBK_bool,cond_false,a10,e89,un_not,Bool.not_true,pakX,pasF,a11,cond_true,a12,a13,a14,a15,pasG,condV_bool,pakY,pasH,pasI,pakZ,pasJ,a16,Bool.not_false,a18,neqs,a17,pasK,pasL,a19,es]
end
end Go.Proofs.YtdljlmpleibkiaaGreatDoor.Sc

namespace Go.Proofs.YtdljlmpleibkiaaGreatDoor.Sc
open Tryz (prog)
open Go Go.AM ScA ScB ScC
theorem cat9 {a b : List UInt8} (h : a.length + b.length ≤ 100000) : A.bin prog .add 9 (str a) (str b) = some (str (a ++ b)) := by
 have e : A.bin prog .add 9 (str a) (str b) = (bif Nat.ble (a.length + b.length) 9223372036854775807 then some (str (a ++ b)) else none) := by rfl
 rw [e,show Nat.ble (a.length + b.length) 9223372036854775807 = true from ble_iff.2 (by omega)]; rfl
theorem add64 {a b : Nat} (h : a + b < 100000) : A.bin prog .add 3 (.int .i64 (a : Int)) (.int .i64 (b : Int)) = some (.int .i64 ((a + b : Nat) : Int)) := by
 rw [bin_add,wrap64 (by omega) (by omega)]
 congr 2
structure Small (p : Pk) : Prop where
 pl : p.payload.length ≤ 4
 cl : p.client.length ≤ 4
 wt : p.wt.length ≤ 4
 wp : p.wp.length ≤ 4
 tp : p.topic.length ≤ 4
theorem Okp.small {p : Pk} {l : List Sb} (o : Okp p l) : Small p := by
 have hnm : ∀ c ∈ names,c.length ≤ 4 := by decide
 have hcl : ∀ c ∈ clients,c.length ≤ 4 := by decide
 cases o with
 | c clean keep client will wt wp wq hk hc h1 h2 =>
  refine ⟨by show ([] : List UInt8).length ≤ 4; simp,hcl client hc,?_,?_,by show ([] : List UInt8).length ≤ 4; simp⟩
  · show wt.length ≤ 4
    cases will with
    | true => exact hnm _ (h1 rfl).1
    | false => rw [(h2 rfl).1]; simp
  · show wp.length ≤ 4
    cases will with
    | true => rw [(h1 rfl).2.1]; simp
    | false => rw [(h2 rfl).2.1]; simp
 | p dup qos retain id topic payload ht hq hp h1 h2 hid =>
  exact ⟨by show payload.length ≤ 4; omega,by show ([] : List UInt8).length ≤ 4; simp,by show ([] : List UInt8).length ≤ 4; simp,by show ([] : List UInt8).length ≤ 4; simp,hnm topic ht⟩
 | s kind id l => exact ⟨by show ([] : List UInt8).length ≤ 4; simp,by show ([] : List UInt8).length ≤ 4; simp,by show ([] : List UInt8).length ≤ 4; simp,by show ([] : List UInt8).length ≤ 4; simp,by show ([] : List UInt8).length ≤ 4; simp⟩
 | a kind id => exact ⟨by show ([] : List UInt8).length ≤ 4; simp,by show ([] : List UInt8).length ≤ 4; simp,by show ([] : List UInt8).length ≤ 4; simp,by show ([] : List UInt8).length ≤ 4; simp,by show ([] : List UInt8).length ≤ 4; simp⟩
 | b kind => exact ⟨by show ([] : List UInt8).length ≤ 4; simp,by show ([] : List UInt8).length ≤ 4; simp,by show ([] : List UInt8).length ≤ 4; simp,by show ([] : List UInt8).length ≤ 4; simp,by show ([] : List UInt8).length ≤ 4; simp⟩
section
variable {Q : Orc} (kd : KnD Q) {h : H} {p : Pk} {w : Value}
include kd
theorem lp64 (C : CF) (L : Nat) {t : Nat} (b : Bx h t p w) {l : List Sb} (sl : SliceE 2 h w (l.map sbC)) (hll : l.length ≤ 10) (hs : ∀ s ∈ l,s.1.length ≤ 4) :
 ∀ (d i m a : Nat),i + d = l.length → d < m → a ≤ 100 + 10 * i → ∃ a' : Nat,a' ≤ 300 ∧ ∀ (β : Type) (kx : Value → Value → H → Option β),pasP C L kx m (.int .i64 (i : Int)) (ptrV t) (.int .i64 (a : Int)) h = kx (ptrV t) (.int .i64 (a' : Int)) h := by
 have _ := kd
 have a0 := b.ld (i := 0) rfl
 have a22 := b.ld (i := 22) rfl
 have hl : A.lenS w = some (.int .i64 (l.length : Int)) := by have := sl.len.1; rwa [List.length_map] at this
 intro d
 induction d with
 | zero =>
  intro i m a hi hm ha
  obtain ⟨m,rfl⟩ : ∃ r,m = r + 1 := ⟨m - 1,by omega⟩
  have hd : decide ((i : Int) < (l.length : Int)) = false := by rw [decide_eq_false_iff_not]; omega
  refine ⟨a,by omega,fun β kx => ?_⟩
  simp only [pasP,paoO,fieldAddr_eq,Nat.zero_add,bnd_some,a22,hl,bin_lss,hd,toBK_bool,cond_false]
 | succ d ih =>
  intro i m a hi hm ha
  obtain ⟨m,rfl⟩ : ∃ r,m = r + 1 := ⟨m - 1,by omega⟩
  have hd : decide ((i : Int) < (l.length : Int)) = true := by rw [decide_eq_true_iff]; omega
  obtain ⟨s,hsi⟩ : ∃ s,l[i]? = some s := ⟨l[i],List.getElem?_eq_getElem (by omega)⟩
  have hs1 := hs s (List.mem_of_getElem? hsi)
  obtain ⟨id,off,cells,own,ix,_,hg,h4,h5,hc⟩ := sl.at (i := i) (e := sbC s) (by rw [List.getElem?_map,hsi]; rfl) .i64
  have l0 : A.load false 1 (.pointer (some ⟨id,off,none⟩)) h = some (str s.1) := by
   rw [load1_eq,hg]; have := hc 0 (by show 0 < 2; omega); simpa [sbC] using this
  have g1 : A.bin prog .add 3 (.int .i64 (a : Int)) (.int .i64 2) = _ := add64 (a := a) (b := 2) (by omega)
  have g2 : A.bin prog .add 3 (.int .i64 ((a + 2 : Nat) : Int)) (.int .i64 (s.1.length : Int)) = _ := add64 (a := a + 2) (b := s.1.length) (by omega)
  have g3 : A.bin prog .add 3 (.int .i64 ((a + 2 + s.1.length : Nat) : Int)) (.int .i64 1) = _ := add64 (a := a + 2 + s.1.length) (b := 1) (by omega)
  have gi : A.bin prog .add 3 (.int .i64 (i : Int)) (.int .i64 1) = _ := add64 (a := i) (b := 1) (by omega)
  by_cases h8 : p.kind = 8
  · have d8 := deq (k := p.kind) (c := 8) (by omega)
    obtain ⟨a',q1,q2⟩ := ih (i + 1) m (a + 2 + s.1.length + 1) (by omega) (by omega) (by omega)
    refine ⟨a',q1,fun β kx => ?_⟩
    simp only [pasP,paoO,fieldAddr_eq,Nat.zero_add,Nat.add_zero,bnd_some,a22,hl,bin_lss,hd,toBK_bool,cond_true,g1,ix,l0,lenStr_str,g2,a0,bin_eql,d8,g3,gi,q2]
  · have d8 := dne (k := p.kind) (c := 8) (by omega)
    obtain ⟨a',q1,q2⟩ := ih (i + 1) m (a + 2 + s.1.length) (by omega) (by omega) (by omega)
    refine ⟨a',q1,fun β kx => ?_⟩
    simp only [pasP,paoO,fieldAddr_eq,Nat.zero_add,Nat.add_zero,bnd_some,a22,hl,bin_lss,hd,toBK_bool,cond_true,g1,ix,l0,lenStr_str,g2,a0,bin_eql,d8,cond_false,gi,q2]
theorem t64 (C : CF) (L : Nat) {t a : Nat} (b : Bx h t p w) (sm : Small p) (ha : a ≤ 300) : ∃ n : Nat,n ≤ 1000 ∧ ∀ (β : Type) (kc : Value → H → Option β),paeK C L (ptrV t) (.int .i64 (a : Int)) h kc = kc (.int .i64 (n : Int)) h := by
 have _ := kd
 obtain ⟨s1,s2,s3,s4,s5⟩ := sm
 have a0 := b.ld (i := 0) rfl
 by_cases k1 : p.kind = 1
 · have d1 := deq (k := p.kind) (c := 1) (by omega)
   have a10 : A.load false 1 (.pointer (some ⟨t,10,none⟩)) h = some (str p.client) := b.ld (i := 10) rfl
   have a11 : A.load false 1 (.pointer (some ⟨t,11,none⟩)) h = some (.bool p.will) := b.ld (i := 11) rfl
   have a12 : A.load false 1 (.pointer (some ⟨t,12,none⟩)) h = some (str p.wt) := b.ld (i := 12) rfl
   have a13 : A.load false 1 (.pointer (some ⟨t,13,none⟩)) h = some (str p.wp) := b.ld (i := 13) rfl
   have a16 : A.load false 1 (.pointer (some ⟨t,16,none⟩)) h = some (.bool false) := b.ld (i := 16) rfl
   have a17 : A.load false 1 (.pointer (some ⟨t,17,none⟩)) h = some (.bool false) := b.ld (i := 17) rfl
   have g1 : A.bin prog .add 3 (.int .i64 (a : Int)) (.int .i64 12) = _ := add64 (a := a) (b := 12) (by omega)
   have g2 := add64 (a := a + 12) (b := p.client.length) (by omega)
   have g3 : A.bin prog .add 3 (.int .i64 ((a + 12 + p.client.length : Nat) : Int)) (.int .i64 4) = _ := add64 (a := a + 12 + p.client.length) (b := 4) (by omega)
   have g4 := add64 (a := a + 12 + p.client.length + 4) (b := p.wt.length) (by omega)
   have g5 := add64 (a := a + 12 + p.client.length + 4 + p.wt.length) (b := p.wp.length) (by omega)
   cases hw : p.will with
   | true =>
    rw [hw] at a11
    refine ⟨a + 12 + p.client.length + 4 + p.wt.length + p.wp.length,by omega,fun β kc => ?_⟩
    simp only [paeK,panT,fieldAddr_eq,Nat.zero_add,Nat.add_zero,Nat.reduceAdd,bnd_some,a0,pafJ,pagA,panU,bin_eql,d1,toBK_bool,pahQ,condV_bool,cond_true,pajM,pasR,g1,a10,lenStr_str,g2,pasS,a11,g3,a12,g4,a13,g5,pasT,a16,a17,cond_false]
   | false =>
    rw [hw] at a11
    refine ⟨a + 12 + p.client.length,by omega,fun β kc => ?_⟩
    simp only [paeK,panT,fieldAddr_eq,Nat.zero_add,Nat.add_zero,Nat.reduceAdd,bnd_some,a0,pafJ,pagA,panU,bin_eql,d1,toBK_bool,pahQ,condV_bool,cond_true,pajM,pasR,g1,a10,lenStr_str,g2,pasS,a11,pasT,a16,a17,cond_false]
 have d1 := dne (k := p.kind) (c := 1) (by omega)
 have g2 : A.bin prog .add 3 (.int .i64 (a : Int)) (.int .i64 2) = _ := add64 (a := a) (b := 2) (by omega)
 by_cases k2 : p.kind = 2
 · have d2 := deq (k := p.kind) (c := 2) (by omega)
   refine ⟨a + 2,by omega,fun β kc => ?_⟩
   simp only [paeK,panT,fieldAddr_eq,Nat.zero_add,bnd_some,a0,pafJ,pagA,panU,bin_eql,d1,d2,toBK_bool,pahQ,condV_bool,cond_true,cond_false,pasQ,g2]
 have d2 := dne (k := p.kind) (c := 2) (by omega)
 by_cases k3 : p.kind = 3
 · have d3 := deq (k := p.kind) (c := 3) (by omega)
   have a5 : A.load false 1 (.pointer (some ⟨t,5,none⟩)) h = some (str p.topic) := b.ld (i := 5) rfl
   have g3 := add64 (a := a + 2) (b := p.topic.length) (by omega)
   refine ⟨a + 2 + p.topic.length,by omega,fun β kc => ?_⟩
   simp only [paeK,panT,fieldAddr_eq,Nat.zero_add,Nat.add_zero,bnd_some,a0,pafJ,pagA,panU,bin_eql,d1,d2,d3,toBK_bool,pahQ,condV_bool,cond_true,cond_false,pasQ,g2,a5,lenStr_str,g3]
 have d3 := dne (k := p.kind) (c := 3) (by omega)
 refine ⟨a,by omega,fun β kc => ?_⟩
 simp only [paeK,panT,fieldAddr_eq,Nat.zero_add,bnd_some,a0,pafJ,pagA,panU,bin_eql,d1,d2,d3,toBK_bool,pahQ,condV_bool,cond_false,pasQ]
theorem T64 (k : Nat) {l : List Sb} (sl : SliceE 2 h w (l.map sbC)) (hll : l.length ≤ 10) (hs : ∀ s ∈ l,s.1.length ≤ 4) (sm : Small p) : ∃ (h' : H) (n : Nat),callO prog 0 Q (k + 1 + l.length + 1) 64 [.agg ⟨p.cells w⟩] h = some (.int .i64 (n : Int),h') ∧ n ≤ 1000 ∧ Ext h h' := by
 rw [F64eq Q (k + 1 + l.length) _ h (kd.kn.fr 64 _ (by decide))]
 have hw := sl.cells
 obtain ⟨h1,e1,b1,x1,n1⟩ := box_pk p hw h
 obtain ⟨s1,s2,s3,s4,s5⟩ := sm
 have a6 : A.load false 1 (.pointer (some ⟨h.next,6,none⟩)) h1 = some (str p.payload) := b1.ld (i := 6) rfl
 have a23 : A.load false 1 (.pointer (some ⟨h.next,23,none⟩)) h1 = some (str []) := b1.ld (i := 23) rfl
 have a4 : A.load false 1 (.pointer (some ⟨h.next,4,none⟩)) h1 = some (.int .u16 (p.id : Int)) := b1.ld (i := 4) rfl
 have ls : A.lenStr (str []) = some (.int .i64 0) := rfl
 have g1 : A.bin prog .add 3 (.int .i64 (p.payload.length : Int)) (.int .i64 0) = _ := add64 (a := p.payload.length) (b := 0) (by omega)
 have g2 : A.bin prog .add 3 (.int .i64 ((p.payload.length + 0 : Nat) : Int)) (.int .i64 2) = _ := add64 (a := p.payload.length + 0) (b := 2) (by omega)
 have rest : ∀ a : Nat,a ≤ 100 → ∃ n : Nat,n ≤ 1000 ∧ ∀ (kr : Value → H → Option (Value × H)),paiA (callO prog 0 Q (k + 1 + l.length)) (k + 1 + l.length) (ptrV h.next) (.int .i64 (a : Int)) h1 (fun x1 x3 h => padW (callO prog 0 Q (k + 1 + l.length)) (k + 1 + l.length) x1 x3 h kr) = kr (.int .i64 (n : Int)) h1 := by
  intro a ha
  obtain ⟨a',ha',loop⟩ := lp64 kd (callO prog 0 Q (k + 1 + l.length)) (k + 1 + l.length) b1 (sl.ext x1) hll hs l.length 0 (k + 1 + l.length) a (by omega) (by omega) (by omega)
  obtain ⟨n,hn,tail⟩ := t64 kd (callO prog 0 Q (k + 1 + l.length)) (k + 1 + l.length) b1 ⟨s1,s2,s3,s4,s5⟩ ha'
  refine ⟨n,hn,fun kr => ?_⟩
  have loop : ∀ (β : Type) (kx : Value → Value → H → Option β),pasP (callO prog 0 Q (k + 1 + l.length)) (k + 1 + l.length) kx (k + 1 + l.length) (.int .i64 0) (ptrV h.next) (.int .i64 (a : Int)) h1 = kx (ptrV h.next) (.int .i64 (a' : Int)) h1 := loop
  generalize k + 1 + l.length = m at loop tail ⊢
  simp only [paiA,pawW,pajV,palD,loop,padW,tail,pawX]
 by_cases hid : 0 < p.id
 · have d0 : decide ((0 : Int) < (p.id : Int)) = true := by rw [decide_eq_true_iff]; omega
   obtain ⟨n,hn,r⟩ := rest (p.payload.length + 0 + 2) (by omega)
   refine ⟨h1,n,?_,hn,x1⟩
   simp only [F64,p64a,pasM,e1,bnd2_some,pasN,fieldAddr_eq,Nat.zero_add,bnd_some,a6,lenStr_str,a23,ls,List.length_nil,g1,pasO,a4,bin_gtr,d0,toBK_bool,cond_true,g2]
   exact r _
 · have d0 : decide ((0 : Int) < (p.id : Int)) = false := by rw [decide_eq_false_iff_not]; omega
   obtain ⟨n,hn,r⟩ := rest (p.payload.length + 0) (by omega)
   refine ⟨h1,n,?_,hn,x1⟩
   simp only [F64,p64a,pasM,e1,bnd2_some,pasN,fieldAddr_eq,Nat.zero_add,bnd_some,a6,lenStr_str,a23,ls,List.length_nil,g1,pasO,a4,bin_gtr,d0,toBK_bool,cond_false]
   exact r _
theorem T39 (k : Nat) {l : List Sb} (o : Okp p l) (sl : SliceE 2 h w (l.map sbC)) (hwn : p.kind = 8 ∨ p.kind = 10 ∨ w = nilS) : ∃ h',callO prog 0 Q (k + 12) 39 [.agg ⟨p.cells w⟩] h = some (.bool true,h') ∧ Ext h h' := by
 rw [F39eq Q (k + 11) _ h (kd.kn.fr 39 _ (by decide))]
 have hw := sl.cells
 have gd := o.good
 have ft := gd.fits hwn
 obtain ⟨f1,f2,f3,f4,f5,f6,f7,f8,f9⟩ := o.facts
 have hfl : ∀ s ∈ l,s.1.length ≤ 4 := fun s hm => texts_small _ (f7 s hm).1
 have hfs : ∀ s ∈ l,s.1 ∈ filters ∧ s.2 ≤ mostN p.kind := by
  cases o with
  | s kind id l hk h0 hid hl hne hs => exact hs
  | _ => intro s hs; cases hs
 have hn : 0 < l.length ↔ p.kind = 8 ∨ p.kind = 10 := by
  cases o with
  | s kind id l hk h0 hid hl hne hs => exact ⟨fun _ => hk,fun _ => hne⟩
  | c => exact ⟨fun h => absurd h (by simp),fun h => absurd (show (1 : Nat) = 8 ∨ (1 : Nat) = 10 from h) (by omega)⟩
  | p => exact ⟨fun h => absurd h (by simp),fun h => absurd (show (3 : Nat) = 8 ∨ (3 : Nat) = 10 from h) (by omega)⟩
  | a kind id hk => exact ⟨fun h => absurd h (by simp),fun h => absurd (show kind = 8 ∨ kind = 10 from h) (by omega)⟩
  | b kind hk => exact ⟨fun h => absurd h (by simp),fun h => absurd (show kind = 8 ∨ kind = 10 from h) (by omega)⟩
 have h9 : p.kind ≠ 9 := by
  have := ft.kd
  intro e
  rw [e] at this
  exact absurd this (by decide)
 obtain ⟨h1,e1,b1,x1,n1⟩ := box_pk p hw h
 have a0 : A.load false 1 (.pointer (some ⟨h.next,0,none⟩)) h1 = some (.int .u8 (p.kind : Int)) := b1.ld (i := 0) rfl
 have c57 : callO prog 0 Q (k + 11) 57 [.int .u8 (p.kind : Int)] h1 = _ := callO_known (kd.fd p.kind ft.kd) (k + 10) h1
 have ne : A.bin prog .eql 9 (str (fldN p.kind)) (str [45]) = some (.bool false) := by
  rw [bin_str_eql]
  have hk : ∀ k ∈ kinds,decide ((⟨⟨fldN k⟩⟩ : ByteArray) = ⟨⟨[45]⟩⟩) = false := by
   intro k hk
   rw [decide_eq_false_iff_not]
   intro e
   have e : fldN k = [45] := congrArg (fun b : ByteArray => b.data.toList) e
   revert k
   decide
  rw [hk p.kind ft.kd]
 obtain ⟨h2,e59,x2⟩ := T59 kd (w := w) ft (k + 9) (h := h1) hw
 have e59 : callO prog 0 Q (k + 11) 59 [.agg ⟨p.cells w⟩] h1 = _ := e59
 have b2 := b1.ext x2
 have ck : chk (some (.agg ⟨p.cells w⟩)) (.agg ⟨p.cells w⟩) = true := by
  refine chk1 ?_
  have := sl.same
  simp [AM.same,AM.sameA,AM.sameL,Pk.cells,this]
 have e58 : ∃ h3,callO prog 0 Q (k + 11) 58 [.agg ⟨p.cells w⟩,.agg ⟨p.cells w⟩] h2 = some (.bool true,h3) ∧ Ext h2 h3 := by
  obtain ⟨h3,e,x⟩ := T58 kd (p := p) (k + 9 - l.length) ((sl.ext x1).ext x2) (by omega)
  have ek : k + 9 - l.length + 1 + l.length + 1 = k + 11 := by omega
  rw [ek] at e
  exact ⟨h3,e,x⟩
 obtain ⟨h3,e58,x3⟩ := e58
 have b3 := b2.ext x3
 have e60 : ∃ h4,callO prog 0 Q (k + 11) 60 [.agg ⟨p.cells w⟩] h3 = some (.bool true,h4) ∧ Ext h3 h4 := by
  obtain ⟨h4,e,x⟩ := T60 kd (p := p) (k + 9 - l.length) (((sl.ext x1).ext x2).ext x3) (by omega) hfs hn h9
  have ek : k + 9 - l.length + 1 + l.length + 1 = k + 11 := by omega
  rw [ek] at e
  exact ⟨h4,e,x⟩
 obtain ⟨h4,e60,x4⟩ := e60
 have b4 := b3.ext x4
 have sl4 := (((sl.ext x1).ext x2).ext x3).ext x4
 have a2 : A.load false 1 (.pointer (some ⟨h.next,2,none⟩)) h4 = some (.int .u8 (p.qos : Int)) := b4.ld (i := 2) rfl
 have dq : decide ((2 : Int) < (p.qos : Int)) = false := by rw [decide_eq_false_iff_not]; omega
 have pre : ∀ (kr : Value → H → Option (Value × H)) (kc : Value → Value → H → Option (Value × H)),palF (callO prog 0 Q (k + 11)) (k + 11) (str (fldN p.kind)) (ptrV h.next) h1 kr kc = kc (str (fldN p.kind)) (ptrV h.next) h4 := by
  intro kr kc
  simp only [palF,pavD,ne,bnd_some,toBK_bool,cond_false,b1.all,e59,bnd2_some,b2.all,ck,Bool.and_true,cond_true,e58,un_not,Bool.not_true,b3.all,e60,fieldAddr_eq,Nat.zero_add,a2,bin_gtr,dq,pavE,condV_bool]
 have post : ∀ {hx : H},Ext h4 hx → ∃ hy,(∀ (kr : Value → H → Option (Value × H)),parL (callO prog 0 Q (k + 11)) (k + 11) (ptrV h.next) hx kr = kr (.bool true) hy) ∧ Ext hx hy := by
  intro hx xx
  have bx := b4.ext xx
  obtain ⟨hy,n,e,hn,y⟩ := T64 kd (p := p) (k + 9 - l.length) (sl4.ext xx) (by omega) hfl o.small
  have ek : k + 9 - l.length + 1 + l.length + 1 = k + 11 := by omega
  rw [ek] at e
  have dn : decide ((n : Int) ≤ 268435455) = true := by rw [decide_eq_true_iff]; omega
  refine ⟨hy,fun kr => ?_,y⟩
  simp only [parL,bx.all,bnd_some,e,bnd2_some,bin_leq,dn,toBK_bool]
 have a0' : ∀ {hx : H},Ext h4 hx → A.load false 1 (.pointer (some ⟨h.next,0,none⟩)) hx = some (.int .u8 (p.kind : Int)) := fun {hx} xx => (b4.ext xx).ld (i := 0) rfl
 have a4' : ∀ {hx : H},Ext h4 hx → A.load false 1 (.pointer (some ⟨h.next,4,none⟩)) hx = some (.int .u16 (p.id : Int)) := fun {hx} xx => (b4.ext xx).ld (i := 4) rfl
 have x04 : Ext h h4 := ((x1.trans x2).trans x3).trans x4
 have c63 : ∀ hx,callO prog 0 Q (k + 11) 63 [str (fldN p.kind),.int .u8 105] hx = some (.bool (hasL p.kind 105),hx) := fun hx => callO_known (kd.hs p.kind ft.kd 105 (by decide)) (k + 10) hx
 have mid : ∃ h5,(∀ (kr : Value → H → Option (Value × H)) (kc : Value → Value → H → Option (Value × H)),pakQ (callO prog 0 Q (k + 11)) (k + 11) (str (fldN p.kind)) (ptrV h.next) h4 kr kc = kc (str (fldN p.kind)) (ptrV h.next) h5) ∧ Ext h4 h5 := by
  by_cases k1 : p.kind = 1
  · have d1 := deq (k := p.kind) (c := 1) (by omega)
    have d2 := dne (k := p.kind) (c := 2) (by omega)
    have e61 : ∃ h5,callO prog 0 Q (k + 11) 61 [.agg ⟨p.cells w⟩] h4 = some (.bool true,h5) ∧ Ext h4 h5 := by
     cases o with
     | c clean keep client will wt wp wq hk hc h1 h2 => exact T61 kd (k + 9) hw hc h1 h2
     | p => exact absurd (show (3 : Nat) = 1 from k1) (by omega)
     | s kind id l hk => exact absurd (show kind = 1 from k1) (by omega)
     | a kind id hk => exact absurd (show kind = 1 from k1) (by omega)
     | b kind hk => exact absurd (show kind = 1 from k1) (by omega)
    obtain ⟨h5,e61,x5⟩ := e61
    refine ⟨h5,fun kr kc => ?_,x5⟩
    simp only [pakQ,parH,fieldAddr_eq,Nat.zero_add,bnd_some,a0' (Ext.refl h4),bin_eql,d1,toBK_bool,cond_true,b4.all,e61,bnd2_some,un_not,Bool.not_true,cond_false,a0' x5,d2,parI,condV_bool]
  · have d1 := dne (k := p.kind) (c := 1) (by omega)
    have d2 := dne (k := p.kind) (c := 2) (by omega)
    refine ⟨h4,fun kr kc => ?_,Ext.refl h4⟩
    simp only [pakQ,parH,fieldAddr_eq,Nat.zero_add,bnd_some,a0' (Ext.refl h4),bin_eql,d1,toBK_bool,cond_false,d2,parI,condV_bool]
 obtain ⟨h5,mid,x5⟩ := mid
 have idt : ∀ (kr : Value → H → Option (Value × H)) (kc : Value → H → Option (Value × H)),pagY (callO prog 0 Q (k + 11)) (k + 11) (str (fldN p.kind)) (ptrV h.next) h5 kr kc = kc (ptrV h.next) h5 := by
  intro kr kc
  have b5 := b4.ext x5
  by_cases k3 : p.kind = 3
  · have d3 := deq (k := p.kind) (c := 3) (by omega)
    have a5 : A.load false 1 (.pointer (some ⟨h.next,5,none⟩)) h5 = some (str p.topic) := b5.ld (i := 5) rfl
    have a2 : A.load false 1 (.pointer (some ⟨h.next,2,none⟩)) h5 = some (.int .u8 (p.qos : Int)) := b5.ld (i := 2) rfl
    have a1 : A.load false 1 (.pointer (some ⟨h.next,1,none⟩)) h5 = some (.bool p.dup) := b5.ld (i := 1) rfl
    have fct : p.topic ∈ names ∧ (0 < p.qos → 0 < p.id) ∧ (p.qos = 0 → p.id = 0 ∧ p.dup = false) := by
     cases o with
     | p dup qos retain id topic payload ht hq hp h1 h2 hid => exact ⟨ht,h1,h2⟩
     | c => exact absurd (show (1 : Nat) = 3 from k3) (by omega)
     | s kind id l hk => exact absurd (show kind = 3 from k3) (by omega)
     | a kind id hk => exact absurd (show kind = 3 from k3) (by omega)
     | b kind hk => exact absurd (show kind = 3 from k3) (by omega)
    obtain ⟨ht,hq1,hq0⟩ := fct
    have c62 : callO prog 0 Q (k + 11) 62 [str p.topic] h5 = _ := callO_known (kd.nm p.topic ht) (k + 10) h5
    by_cases q0 : p.qos = 0
    · obtain ⟨i0,du⟩ := hq0 q0
      have dq0 := deq (k := p.qos) (c := 0) (by omega)
      have dq1 : decide ((0 : Int) < (p.qos : Int)) = false := by rw [decide_eq_false_iff_not]; omega
      rw [du] at a1
      have a4 := a4' x5
      rw [i0] at a4
      have a4 : A.load false 1 (.pointer (some ⟨h.next,4,none⟩)) h5 = some (.int .u16 0) := a4
      simp only [pagY,paoM,fieldAddr_eq,Nat.zero_add,bnd_some,a0' x5,bin_eql,d3,toBK_bool,paiW,condV_bool,cond_true,palB,parJ,a5,c62,bnd2_some,un_not,Bool.not_true,cond_false,a2,dq0,a1,a4,neqi,bin_gtr,dq1,parK]
    · have dq0 := dne (k := p.qos) (c := 0) (by omega)
      have dq1 : decide ((0 : Int) < (p.qos : Int)) = true := by rw [decide_eq_true_iff]; omega
      have di := dne (k := p.id) (c := 0) (by have := hq1 (by omega); omega)
      simp only [pagY,paoM,fieldAddr_eq,Nat.zero_add,bnd_some,a0' x5,bin_eql,d3,toBK_bool,paiW,condV_bool,cond_true,palB,parJ,a5,c62,bnd2_some,un_not,Bool.not_true,cond_false,a2,dq0,a4' x5,bin_gtr,dq1,di,parK]
  · have d3 := dne (k := p.kind) (c := 3) (by omega)
    have hid : hasL p.kind 105 = true → 0 < p.id := by
     cases o with
     | c => exact fun h => absurd (show hasL 1 105 = true from h) (by decide)
     | p => exact absurd rfl k3
     | s kind id l hk h0 => exact fun _ => h0
     | a kind id hk h0 => exact fun _ => h0
     | b kind hk =>
      intro h
      have h : hasL kind 105 = true := h
      exact absurd h (by rcases hk with rfl | rfl <;> decide)
    cases hh : hasL p.kind 105 with
    | true =>
     have c63 := c63 h5
     rw [hh] at c63
     have di := dne (k := p.id) (c := 0) (by have := hid hh; omega)
     simp only [pagY,paoM,fieldAddr_eq,Nat.zero_add,bnd_some,a0' x5,bin_eql,d3,toBK_bool,paiW,condV_bool,cond_false,pavF,c63,bnd2_some,cond_true,a4' x5,di]
    | false =>
     have c63 := c63 h5
     rw [hh] at c63
     simp only [pagY,paoM,fieldAddr_eq,Nat.zero_add,bnd_some,a0' x5,bin_eql,d3,toBK_bool,paiW,condV_bool,cond_false,pavF,c63,bnd2_some]
 obtain ⟨h6,post,x6⟩ := post x5
 refine ⟨h6,?_,(x04.trans x5).trans x6⟩
 simp only [F39,p39a,pavB,e1,bnd2_some,pavC,fieldAddr_eq,Nat.zero_add,bnd_some,a0,c57,pre,mid,idt,post]
end
end Go.Proofs.YtdljlmpleibkiaaGreatDoor.Sc

namespace Go.Proofs.YtdljlmpleibkiaaGreatDoor.Sc
open Tryz (prog)
open Go Go.AM ScA ScB ScC
theorem cl_tx : ∀ c ∈ clients,c ∈ texts := by decide
theorem nm_tx : ∀ c ∈ names,c ∈ texts := by decide
section
variable {Q : Orc} (kd : KnD Q) {h : H} {p : Pk} {w : Value}
include kd
theorem conn40 (k L : Nat) {clean : Bool} {keep : Nat} {client : List UInt8} {will : Bool} {wt wp : List UInt8} {wq : Nat} {x7 x3 x11 : Value} (hk : keep < 256) (hc : client ∈ clients) (h1 : will = true → wt ∈ names ∧ wp = [119] ∧ wq ≤ 2) (h2 : will = false → wt = [] ∧ wp = [] ∧ wq = 0) {t : Nat} (b : Bx h t (mkC 4 clean keep client will wt wp wq) w) :
 ∃ h',(∀ (β : Type) (kc : Value → H → Option β),paiC (callO prog 0 Q (k + 1)) L x11 x7 x3 (ptrV t) h kc = kc (str (connB (mkC 4 clean keep client will wt wp wq))) h') ∧ Ext h h' := by
 have hq : wq ≤ 2 := by
  cases will with
  | true => exact (h1 rfl).2.2
  | false => rw [(h2 rfl).2.2]; omega
 have a8 : ∀ {hx : H},Ext h hx → A.load false 1 (.pointer (some ⟨t,8,none⟩)) hx = some (.bool clean) := fun {hx} x => (b.ext x).ld (i := 8) rfl
 have a9 : ∀ {hx : H},Ext h hx → A.load false 1 (.pointer (some ⟨t,9,none⟩)) hx = some (.int .u16 (keep : Int)) := fun {hx} x => (b.ext x).ld (i := 9) rfl
 have a10 : ∀ {hx : H},Ext h hx → A.load false 1 (.pointer (some ⟨t,10,none⟩)) hx = some (str client) := fun {hx} x => (b.ext x).ld (i := 10) rfl
 have a11 : ∀ {hx : H},Ext h hx → A.load false 1 (.pointer (some ⟨t,11,none⟩)) hx = some (.bool will) := fun {hx} x => (b.ext x).ld (i := 11) rfl
 have a12 : ∀ {hx : H},Ext h hx → A.load false 1 (.pointer (some ⟨t,12,none⟩)) hx = some (str wt) := fun {hx} x => (b.ext x).ld (i := 12) rfl
 have a13 : ∀ {hx : H},Ext h hx → A.load false 1 (.pointer (some ⟨t,13,none⟩)) hx = some (str wp) := fun {hx} x => (b.ext x).ld (i := 13) rfl
 have a14 : ∀ {hx : H},Ext h hx → A.load false 1 (.pointer (some ⟨t,14,none⟩)) hx = some (.int .u8 (wq : Int)) := fun {hx} x => (b.ext x).ld (i := 14) rfl
 have a15 : ∀ {hx : H},Ext h hx → A.load false 1 (.pointer (some ⟨t,15,none⟩)) hx = some (.bool false) := fun {hx} x => (b.ext x).ld (i := 15) rfl
 have a16 : ∀ {hx : H},Ext h hx → A.load false 1 (.pointer (some ⟨t,16,none⟩)) hx = some (.bool false) := fun {hx} x => (b.ext x).ld (i := 16) rfl
 have a17 : ∀ {hx : H},Ext h hx → A.load false 1 (.pointer (some ⟨t,17,none⟩)) hx = some (.bool false) := fun {hx} x => (b.ext x).ld (i := 17) rfl
 have r := Ext.refl h
 have c1 : callO prog 0 Q (k + 1) 65 [.bool false,.int .i64 128] h = some (.int .i64 0,h) := T65 kd.kn k false 128
 have c2 : callO prog 0 Q (k + 1) 65 [.bool false,.int .i64 64] h = some (.int .i64 0,h) := T65 kd.kn k false 64
 have c3 : callO prog 0 Q (k + 1) 65 [.bool false,.int .i64 32] h = some (.int .i64 0,h) := T65 kd.kn k false 32
 have c4 : callO prog 0 Q (k + 1) 65 [.bool will,.int .i64 4] h = _ := T65 kd.kn k will 4
 have c5 : callO prog 0 Q (k + 1) 65 [.bool clean,.int .i64 2] h = _ := T65 kd.kn k clean 2
 obtain ⟨W,hW⟩ : ∃ W : Nat,W = if will then 4 else 0 := ⟨_,rfl⟩
 obtain ⟨D,hD⟩ : ∃ D : Nat,D = if clean then 2 else 0 := ⟨_,rfl⟩
 have hWl : W ≤ 4 := by rw [hW]; split <;> omega
 have hDl : D ≤ 2 := by rw [hD]; split <;> omega
 rw [← hW] at c4
 rw [← hD] at c5
 have cq := conv53 wq (by omega)
 have g1 : A.bin prog .add 3 (.int .i64 0) (.int .i64 0) = some (.int .i64 0) := by kernel_rfl
 have g2 : A.bin prog .mul 3 (.int .i64 8) (.int .i64 (wq : Int)) = some (.int .i64 ((8 * wq : Nat) : Int)) := by
  have e : (8 : Int) * (wq : Int) = ((8 * wq : Nat) : Int) := by omega
  rw [bin_mul,e,wrap64 (by omega) (by omega)]
 have g3 : A.bin prog .add 3 (.int .i64 0) (.int .i64 ((8 * wq : Nat) : Int)) = some (.int .i64 ((8 * wq : Nat) : Int)) := by
  rw [bin_add,Int.zero_add,wrap64 (by omega) (by omega)]
 have g4 := add64 (a := 8 * wq) (b := W) (by omega)
 have g5 := add64 (a := 8 * wq + W) (b := D) (by omega)
 have hcf : cfN (mkC 4 clean keep client will wt wp wq) = 8 * wq + W + D := by
  rw [hW,hD]; rfl
 have ku := chk_u8 (wq : Int)
 have kb := chk_b will
 have kb0 := chk_b false
 have kc0 := chk_b clean
 have fl : ∀ (β : Type) (kc : Value → Value → H → Option β),parP (callO prog 0 Q (k + 1)) L x11 x7 x3 (ptrV t) h kc = kc (.int .i64 ((8 * wq + W + D : Nat) : Int)) (ptrV t) h := by
  intro β kc
  simp only [parP,fieldAddr_eq,Nat.zero_add,Nat.reduceAdd,bnd_some,a16 r,toBK_bool,c1,bnd2_some,a17 r,kb0,Bool.and_true,cond_true,c2,g1,a15 r,c3,a14 r,ku,cq,g2,g3,a11 r,kb,c4,g4,a8 r,kc0,c5,g5]
 have m0 : callO prog 0 Q (k + 1) 66 [str [77,81,84,84]] h = _ := callO_known (kd.dt [77,81,84,84] (by decide)) k h
 obtain ⟨ha,ea,xa⟩ := T42 kd.kn (h := h) k (n := 4) (by omega)
 obtain ⟨hb,eb,xb⟩ := T42 kd.kn (h := ha) k (n := 8 * wq + W + D) (by omega)
 have xhb := xa.trans xb
 have m9 : callO prog 0 Q (k + 1) 67 [.int .u16 (keep : Int)] hb = _ := callO_known (kd.wd keep hk) k hb
 have mc : callO prog 0 Q (k + 1) 66 [str client] hb = _ := callO_known (kd.dt client (cl_tx client hc)) k hb
 have hcl : client.length ≤ 4 := by
  have : ∀ c ∈ clients,c.length ≤ 4 := by decide
  exact this client hc
 have k16 := chk_u16 (keep : Int)
 have ks := chk_s client
 have ea : callO prog 0 Q (k + 1) 42 [.int .i64 4] h = _ := ea
 have s1 := cat9 (a := fieldB [77,81,84,84]) (b := [UInt8.ofNat 4]) (by simp [fieldB])
 have s2 := cat9 (a := fieldB [77,81,84,84] ++ [UInt8.ofNat 4]) (b := [UInt8.ofNat (8 * wq + W + D)]) (by simp [fieldB])
 have s3 := cat9 (a := fieldB [77,81,84,84] ++ [UInt8.ofNat 4] ++ [UInt8.ofNat (8 * wq + W + D)]) (b := wordB keep) (by simp [fieldB,wordB])
 have s4 := cat9 (a := fieldB [77,81,84,84] ++ [UInt8.ofNat 4] ++ [UInt8.ofNat (8 * wq + W + D)] ++ wordB keep) (b := fieldB client) (by simp [fieldB,wordB]; omega)
 obtain ⟨B,hB⟩ : ∃ B,B = fieldB [77,81,84,84] ++ [UInt8.ofNat 4] ++ [UInt8.ofNat (8 * wq + W + D)] ++ wordB keep ++ fieldB client := ⟨_,rfl⟩
 have hBl : B.length ≤ 100 := by rw [hB]; simp [fieldB,wordB]; omega
 have by1 : ∀ (β : Type) (kc : Value → Value → H → Option β),parQ (callO prog 0 Q (k + 1)) L (.int .i64 ((8 * wq + W + D : Nat) : Int)) (ptrV t) h kc = kc (ptrV t) (str B) hb := by
  intro β kc
  simp only [parQ,m0,bnd2_some,ea,s1,bnd_some,eb,s2,fieldAddr_eq,Nat.zero_add,Nat.add_zero,a9 xhb,a9 xa,a9 r,k16,Bool.and_true,cond_true,m9,s3,a10 xhb,a10 xa,a10 r,ks,mc,s4,hB]
 have hfin : ∀ R : List UInt8,(if will then fieldB wt ++ fieldB wp else []) = R → connB (mkC 4 clean keep client will wt wp wq) = B ++ R := by
  intro R hR
  rw [hB]
  show fieldB [77,81,84,84] ++ [UInt8.ofNat 4,UInt8.ofNat (cfN (mkC 4 clean keep client will wt wp wq))] ++ wordB keep ++ fieldB client ++ (if will then fieldB wt ++ fieldB wp else []) = _
  rw [hcf,hR]
  simp only [List.append_assoc,List.cons_append,List.nil_append]
 refine ⟨hb,fun β kc => ?_,xhb⟩
 cases will with
 | true =>
  obtain ⟨q1,q2,q3⟩ := h1 rfl
  have hwt : wt.length ≤ 4 := by
   have : ∀ c ∈ names,c.length ≤ 4 := by decide
   exact this wt q1
  have mt : callO prog 0 Q (k + 1) 66 [str wt] hb = _ := callO_known (kd.dt wt (nm_tx wt q1)) k hb
  have mp : callO prog 0 Q (k + 1) 66 [str wp] hb = _ := callO_known (kd.dt wp (by rw [q2]; decide)) k hb
  have hwp : wp.length ≤ 4 := by rw [q2]; simp
  have s5 := cat9 (a := B) (b := fieldB wt) (by rw [fieldB_len]; omega)
  have s6 := cat9 (a := B ++ fieldB wt) (b := fieldB wp) (by rw [List.length_append,fieldB_len,fieldB_len]; omega)
  have kp := chk_s wp
  rw [hfin (fieldB wt ++ fieldB wp) rfl,← List.append_assoc]
  simp only [paiC,fl,by1,parR,fieldAddr_eq,Nat.zero_add,Nat.add_zero,Nat.reduceAdd,bnd_some,a11 xhb,toBK_bool,cond_true,a12 xhb,mt,bnd2_some,s5,a13 xhb,kp,Bool.and_true,mp,s6,parS,a16 xhb,cond_false,a17 xhb]
 | false =>
  rw [hfin [] rfl,List.append_nil]
  simp only [paiC,fl,by1,parR,fieldAddr_eq,Nat.zero_add,bnd_some,a11 xhb,toBK_bool,cond_false,parS,a16 xhb,a17 xhb]
theorem lp40 (k L : Nat) {β : Type} (kx : Value → H → Option β) {t : Nat} (hk8 : p.kind = 8 ∨ p.kind = 10) {l : List Sb} (hll : l.length ≤ 10) (hs : ∀ s ∈ l,s.1 ∈ filters ∧ s.2 < 256) :
 ∀ (d i m : Nat) (h : H) (S : List UInt8),i + d = l.length → d < m → Bx h t p w → SliceE 2 h w (l.map sbC) → S.length ≤ 100 + 10 * i →
  ∃ h',parO (callO prog 0 Q (k + 1)) L kx m (.int .i64 (i : Int)) (ptrV t) (str S) h = kx (str (S ++ subsB p.kind (l.drop i))) h' ∧ Ext h h' := by
 intro d
 induction d with
 | zero =>
  intro i m h S hi hm b sl hS
  obtain ⟨m,rfl⟩ : ∃ r,m = r + 1 := ⟨m - 1,by omega⟩
  have a22 := b.ld (i := 22) rfl
  have hl : A.lenS w = some (.int .i64 (l.length : Int)) := by have := sl.len.1; rwa [List.length_map] at this
  have hd : decide ((i : Int) < (l.length : Int)) = false := by rw [decide_eq_false_iff_not]; omega
  have hdr : l.drop i = [] := List.drop_eq_nil_of_le (by omega)
  rw [hdr,show subsB p.kind [] = [] from rfl,List.append_nil]
  refine ⟨h,?_,Ext.refl h⟩
  simp only [parO,paoN,fieldAddr_eq,Nat.zero_add,bnd_some,a22,hl,bin_lss,hd,toBK_bool,cond_false]
 | succ d ih =>
  intro i m h S hi hm b sl hS
  obtain ⟨m,rfl⟩ : ∃ r,m = r + 1 := ⟨m - 1,by omega⟩
  have a0 := b.ld (i := 0) rfl
  have a22 := b.ld (i := 22) rfl
  have hl : A.lenS w = some (.int .i64 (l.length : Int)) := by have := sl.len.1; rwa [List.length_map] at this
  have hd : decide ((i : Int) < (l.length : Int)) = true := by rw [decide_eq_true_iff]; omega
  obtain ⟨s,hsi⟩ : ∃ s,l[i]? = some s := ⟨l[i],List.getElem?_eq_getElem (by omega)⟩
  obtain ⟨hs1,hs2⟩ := hs s (List.mem_of_getElem? hsi)
  rw [drop_cons hsi,subsB_cons]
  obtain ⟨id,off,cells,own,ix,_,hg,h4,h5,hc⟩ := sl.at (i := i) (e := sbC s) (by rw [List.getElem?_map,hsi]; rfl) .i64
  have l0 : A.load false 1 (.pointer (some ⟨id,off,none⟩)) h = some (str s.1) := by
   rw [load1_eq,hg]; have := hc 0 (by show 0 < 2; omega); simpa [sbC] using this
  have l1' : A.load false 1 (.pointer (some ⟨id,off + 1,none⟩)) h = some (.int .u8 (s.2 : Int)) := by
   rw [load1_eq,hg]; have := hc 1 (by show 1 < 2; omega); simpa [sbC] using this
  have l1 : A.load false 1 (.pointer (some ⟨id,1 + off,none⟩)) h = some (.int .u8 (s.2 : Int)) := by rw [Nat.add_comm]; exact l1'
  have hft : s.1 ∈ texts := by
   have : ∀ c ∈ filters,c ∈ texts := by decide
   exact this s.1 hs1
  have hfl := texts_small _ hft
  have m66 : callO prog 0 Q (k + 1) 66 [str s.1] h = _ := callO_known (kd.dt s.1 hft) k h
  have s1 := cat9 (a := S) (b := fieldB s.1) (by rw [fieldB_len]; omega)
  have gi : A.bin prog .add 3 (.int .i64 (i : Int)) (.int .i64 1) = _ := add64 (a := i) (b := 1) (by omega)
  rcases hk8 with h8 | h10
  · have d8 := deq (k := p.kind) (c := 8) (by omega)
    have cv := conv53 s.2 hs2
    obtain ⟨h1,e1,x1⟩ := T42 kd.kn (h := h) k (n := s.2) hs2
    have s2 := cat9 (a := S ++ fieldB s.1) (b := [UInt8.ofNat s.2]) (by rw [List.length_append,fieldB_len]; simp; omega)
    obtain ⟨h',e,y⟩ := ih (i + 1) m h1 (S ++ fieldB s.1 ++ [UInt8.ofNat s.2]) (by omega) (by omega) (b.ext x1) (sl.ext x1) (by rw [List.length_append,List.length_append,fieldB_len]; simp; omega)
    refine ⟨h',?_,x1.trans y⟩
    have hsb : subB p.kind s = fieldB s.1 ++ [UInt8.ofNat s.2] := by unfold subB; rw [if_pos h8]
    rw [hsb,← List.append_assoc,← List.append_assoc]
    simp only [parO,paoN,fieldAddr_eq,Nat.zero_add,Nat.add_zero,bnd_some,a22,hl,bin_lss,hd,toBK_bool,cond_true,ix,l0,m66,bnd2_some,s1,a0,bin_eql,d8,l1,l1',cv,e1,s2,gi,e]
  · have d8 := dne (k := p.kind) (c := 8) (by omega)
    obtain ⟨h',e,y⟩ := ih (i + 1) m h (S ++ fieldB s.1) (by omega) (by omega) b sl (by rw [List.length_append,fieldB_len]; omega)
    refine ⟨h',?_,y⟩
    have hsb : subB p.kind s = fieldB s.1 := by unfold subB; rw [if_neg (by omega),List.append_nil]
    rw [hsb,← List.append_assoc]
    simp only [parO,paoN,fieldAddr_eq,Nat.zero_add,Nat.add_zero,bnd_some,a22,hl,bin_lss,hd,toBK_bool,cond_true,ix,l0,m66,bnd2_some,s1,a0,bin_eql,d8,cond_false,gi,e]
theorem T40 (k : Nat) {l : List Sb} (o : Okp p l) (sl : SliceE 2 h w (l.map sbC)) : ∃ h',callO prog 0 Q (k + 6) 40 [.agg ⟨p.cells w⟩] h = some (str (restB p l),h') ∧ Ext h h' := by
 rw [F40eq Q (k + 5) _ h (kd.kn.fr 40 _ (by decide))]
 have hw := sl.cells
 obtain ⟨f1,f2,f3,f4,f5,f6,f7,f8,f9⟩ := o.facts
 obtain ⟨h1,e1,b1,x1,n1⟩ := box_pk p hw h
 have a0 : A.load false 1 (.pointer (some ⟨h.next,0,none⟩)) h1 = some (.int .u8 (p.kind : Int)) := b1.ld (i := 0) rfl
 have a4 : A.load false 1 (.pointer (some ⟨h.next,4,none⟩)) h1 = some (.int .u16 (p.id : Int)) := b1.ld (i := 4) rfl
 have m67 : callO prog 0 Q (k + 5) 67 [.int .u16 (p.id : Int)] h1 = _ := callO_known (kd.wd p.id f5) (k + 4) h1
 suffices hs : ∃ h2,paaQ (callO prog 0 Q (k + 5)) (k + 5) (str []) (ptrV h.next) h1 (fun x3 h => some (x3,h)) = some (str (restB p l),h2) ∧ Ext h1 h2 by
  obtain ⟨h2,e,x⟩ := hs
  refine ⟨h2,?_,x1.trans x⟩
  simp only [F40,p40a,pavM,e1,bnd2_some,pavN,pavP]
  exact e
 cases o with
 | c clean keep client will wt wp wq hk hc q1 q2 =>
  obtain ⟨h2,e,x⟩ := conn40 kd (k + 4) (k + 5) (x7 := .int .u8 1) (x3 := str []) (x11 := .bool true) hk hc q1 q2 b1
  have e : ∀ (β : Type) (kc : Value → H → Option β),paiC (callO prog 0 Q (k + 5)) (k + 5) (.bool true) (.int .u8 1) (str []) (ptrV h.next) h1 kc = kc (str (connB (mkC 4 clean keep client will wt wp wq))) h2 := e
  have a0 : A.load false 1 (.pointer (some ⟨h.next,0,none⟩)) h1 = some (.int .u8 1) := a0
  have d1 : decide ((1 : Int) = 1) = true := rfl
  refine ⟨h2,?_,x⟩
  have er : restB (mkC 4 clean keep client will wt wp wq) [] = connB (mkC 4 clean keep client will wt wp wq) := rfl
  rw [er]
  simp only [paaQ,panC,fieldAddr_eq,Nat.zero_add,bnd_some,a0,paaU,paaW,panD,bin_eql,d1,decide_true,toBK_bool,pabD,condV_bool,cond_true,e]
 | p dup qos retain id topic payload ht hq hp q1 q2 hid =>
  have a0 : A.load false 1 (.pointer (some ⟨h.next,0,none⟩)) h1 = some (.int .u8 3) := a0
  have a5 : A.load false 1 (.pointer (some ⟨h.next,5,none⟩)) h1 = some (str topic) := b1.ld (i := 5) rfl
  have a2 : A.load false 1 (.pointer (some ⟨h.next,2,none⟩)) h1 = some (.int .u8 (qos : Int)) := b1.ld (i := 2) rfl
  have a6 : A.load false 1 (.pointer (some ⟨h.next,6,none⟩)) h1 = some (str payload) := b1.ld (i := 6) rfl
  have a4 : A.load false 1 (.pointer (some ⟨h.next,4,none⟩)) h1 = some (.int .u16 (id : Int)) := a4
  have m67 : callO prog 0 Q (k + 5) 67 [.int .u16 (id : Int)] h1 = some (str (wordB id),h1) := m67
  have htx : topic ∈ texts := by
   have : ∀ c ∈ names,c ∈ texts := by decide
   exact this topic ht
  have htl := texts_small _ htx
  have m66 : callO prog 0 Q (k + 5) 66 [str topic] h1 = _ := callO_known (kd.dt topic htx) (k + 4) h1
  have d1 : decide ((3 : Int) = 1) = false := rfl
  have d2 : decide ((3 : Int) = 2) = false := rfl
  have d3 : decide ((3 : Int) = 3) = true := rfl
  refine ⟨h1,?_,Ext.refl h1⟩
  have er : restB (mkP dup qos retain id topic payload) [] = fieldB topic ++ (if 0 < id then wordB id else []) ++ [] ++ payload := rfl
  rw [er,List.append_nil]
  by_cases hq0 : 0 < qos
  · have dq : decide ((0 : Int) < (qos : Int)) = true := by rw [decide_eq_true_iff]; omega
    rw [if_pos (q1 hq0)]
    have s1 := cat9 (a := fieldB topic) (b := wordB id) (by rw [fieldB_len]; simp [wordB]; omega)
    have s2 := cat9 (a := fieldB topic ++ wordB id) (b := payload) (by rw [List.length_append,fieldB_len]; simp [wordB]; omega)
    simp only [paaQ,panC,fieldAddr_eq,Nat.zero_add,bnd_some,a0,paaU,paaW,panD,bin_eql,d1,d2,d3,decide_true,toBK_bool,pabD,condV_bool,cond_true,cond_false,pabP,panG,pabX,pacD,panH,pacR,pavO,a5,m66,bnd2_some,a2,bin_gtr,dq,a4,m67,s1,a6,s2]
  · have dq : decide ((0 : Int) < (qos : Int)) = false := by rw [decide_eq_false_iff_not]; omega
    obtain ⟨i0,_⟩ := q2 (by omega)
    rw [if_neg (by omega),List.append_nil]
    have s2 := cat9 (a := fieldB topic) (b := payload) (by rw [fieldB_len]; omega)
    simp only [paaQ,panC,fieldAddr_eq,Nat.zero_add,bnd_some,a0,paaU,paaW,panD,bin_eql,d1,d2,d3,decide_true,toBK_bool,pabD,condV_bool,cond_true,cond_false,pabP,panG,pabX,pacD,panH,pacR,pavO,a5,m66,bnd2_some,a2,bin_gtr,dq,a6,s2]
 | s kind id l hk h0 hid hl hne hss =>
  have a0 : A.load false 1 (.pointer (some ⟨h.next,0,none⟩)) h1 = some (.int .u8 (kind : Int)) := a0
  have a4 : A.load false 1 (.pointer (some ⟨h.next,4,none⟩)) h1 = some (.int .u16 (id : Int)) := a4
  have m67 : callO prog 0 Q (k + 5) 67 [.int .u16 (id : Int)] h1 = some (str (wordB id),h1) := m67
  have d1 := dne (k := kind) (c := 1) (by omega)
  have d2 := dne (k := kind) (c := 2) (by omega)
  have d3 := dne (k := kind) (c := 3) (by omega)
  have loop := fun (kx : Value → H → Option (Value × H)) => lp40 kd (p := mkI kind id) (w := w) (k + 4) (k + 5) kx (t := h.next) hk (by omega) (fun s hm => ⟨(hss s hm).1,(f7 s hm).2⟩) l.length 0 (k + 5) h1 (wordB id) (by omega) (by omega) b1 (sl.ext x1) (by simp [wordB])
  obtain ⟨h2,e,x⟩ := loop (fun x3 h => some (x3,h))
  have e : parO (callO prog 0 Q (k + 5)) (k + 5) (fun x3 h => some (x3,h)) (k + 5) (.int .i64 0) (ptrV h.next) (str (wordB id)) h1 = some (str (wordB id ++ subsB kind l),h2) := e
  have er : restB (mkI kind id) l = wordB id ++ subsB kind l := by
   unfold restB
   rw [if_neg (by show ¬ kind = 1; omega),if_neg (by show ¬ kind = 3; omega),if_pos (by exact h0)]
   show [] ++ wordB id ++ subsB kind l ++ [] = _
   rw [List.nil_append,List.append_nil]
  rw [er]
  refine ⟨h2,?_,x⟩
  generalize k + 5 = m at e m67 ⊢
  rcases hk with h8 | h10
  · have d8 := deq (k := kind) (c := 8) (by omega)
    simp only [paaQ,panC,fieldAddr_eq,Nat.zero_add,bnd_some,a0,paaU,paaW,panD,bin_eql,d1,d2,d3,d8,toBK_bool,pabD,condV_bool,cond_true,cond_false,pabP,panG,pabX,pacD,panH,pacR,padA,panR,padN,pahB,parM,a4,m67,bnd2_some,parN,pajP,pakV,e]
  · have d8 := dne (k := kind) (c := 8) (by omega)
    have d10 := deq (k := kind) (c := 10) (by omega)
    simp only [paaQ,panC,fieldAddr_eq,Nat.zero_add,bnd_some,a0,paaU,paaW,panD,bin_eql,d1,d2,d3,d8,d10,toBK_bool,pabD,condV_bool,cond_true,cond_false,pabP,panG,pabX,pacD,panH,pacR,padA,panR,padN,pahB,parM,a4,m67,bnd2_some,parN,pajP,pakV,e]
 | a kind id hk h0 hid =>
  have a0 : A.load false 1 (.pointer (some ⟨h.next,0,none⟩)) h1 = some (.int .u8 (kind : Int)) := a0
  have a4 : A.load false 1 (.pointer (some ⟨h.next,4,none⟩)) h1 = some (.int .u16 (id : Int)) := a4
  have m67 : callO prog 0 Q (k + 5) 67 [.int .u16 (id : Int)] h1 = some (str (wordB id),h1) := m67
  have d1 := dne (k := kind) (c := 1) (by omega)
  have d2 := dne (k := kind) (c := 2) (by omega)
  have d3 := dne (k := kind) (c := 3) (by omega)
  have d8 := dne (k := kind) (c := 8) (by omega)
  have d9 := dne (k := kind) (c := 9) (by omega)
  have d10 := dne (k := kind) (c := 10) (by omega)
  have d12 := dne (k := kind) (c := 12) (by omega)
  have d13 := dne (k := kind) (c := 13) (by omega)
  have d14 := dne (k := kind) (c := 14) (by omega)
  have er : restB (mkI kind id) [] = wordB id := by
   unfold restB
   rw [if_neg (by show ¬ kind = 1; omega),if_neg (by show ¬ kind = 3; omega),if_pos (by exact h0)]
   show [] ++ wordB id ++ [] ++ [] = _
   simp
  rw [er]
  refine ⟨h1,?_,Ext.refl h1⟩
  generalize k + 5 = m at m67 ⊢
  simp only [paaQ,panC,fieldAddr_eq,Nat.zero_add,bnd_some,a0,paaU,paaW,panD,bin_eql,d1,d2,d3,d8,d9,d10,d12,d13,d14,toBK_bool,pabD,condV_bool,cond_false,pabP,panG,pabX,pacD,panH,pacR,padA,panR,padN,pahF,papG,paiX,pakO,papH,papI,a4,m67,bnd2_some]
 | b kind hk =>
  have a0 : A.load false 1 (.pointer (some ⟨h.next,0,none⟩)) h1 = some (.int .u8 (kind : Int)) := a0
  have d1 := dne (k := kind) (c := 1) (by omega)
  have d2 := dne (k := kind) (c := 2) (by omega)
  have d3 := dne (k := kind) (c := 3) (by omega)
  have d8 := dne (k := kind) (c := 8) (by omega)
  have d9 := dne (k := kind) (c := 9) (by omega)
  have d10 := dne (k := kind) (c := 10) (by omega)
  have er : restB (mkI kind 0) [] = [] := by
   unfold restB
   rw [if_neg (by show ¬ kind = 1; omega),if_neg (by show ¬ kind = 3; omega)]; rfl
  rw [er]
  refine ⟨h1,?_,Ext.refl h1⟩
  generalize k + 5 = m
  rcases hk with h12 | h14
  · have d12 := deq (k := kind) (c := 12) (by omega)
    simp only [paaQ,panC,fieldAddr_eq,Nat.zero_add,bnd_some,a0,paaU,paaW,panD,bin_eql,d1,d2,d3,d8,d9,d10,d12,toBK_bool,pabD,condV_bool,cond_true,cond_false,pabP,panG,pabX,pacD,panH,pacR,padA,panR,padN,pahF,papG,paiX,pakO,papH,papI]
  · have d12 := dne (k := kind) (c := 12) (by omega)
    have d13 := dne (k := kind) (c := 13) (by omega)
    have d14 := deq (k := kind) (c := 14) (by omega)
    simp only [paaQ,panC,fieldAddr_eq,Nat.zero_add,bnd_some,a0,paaU,paaW,panD,bin_eql,d1,d2,d3,d8,d9,d10,d12,d13,d14,toBK_bool,pabD,condV_bool,cond_true,cond_false,pabP,panG,pabX,pacD,panH,pacR,padA,panR,padN,pahF,papG,paiX,pakO,papH,papI]
theorem T20 (k : Nat) {l : List Sb} (o : Okp p l) (sl : SliceE 2 h w (l.map sbC)) (hwn : p.kind = 8 ∨ p.kind = 10 ∨ w = nilS) : ∃ h',callO prog 0 Q (k + 13) 20 [.agg ⟨p.cells w⟩] h = some (.tuple ⟨[str (encB p l),.int .i64 0]⟩,h') ∧ Ext h h' := by
 rw [F20eq Q (k + 12) _ h (kd.kn.fr 20 _ (by decide))]
 have hw := sl.cells
 have hr := o.len kd.kn
 obtain ⟨f1,f2,f3,f4,f5,f6,f7,f8,f9⟩ := o.facts
 obtain ⟨h1,e1,b1,x1,n1⟩ := box_pk p hw h
 obtain ⟨h2,e39,x2⟩ := T39 kd (h := h1) k o (sl.ext x1) hwn
 have b2 := b1.ext x2
 obtain ⟨h3,e40,x3⟩ := T40 kd (h := h2) (k + 6) o ((sl.ext x1).ext x2)
 have e40 : callO prog 0 Q (k + 12) 40 [.agg ⟨p.cells w⟩] h2 = _ := e40
 have b3 := b2.ext x3
 have c41 : callO prog 0 Q (k + 12) 41 [.int .i64 ((restB p l).length : Int)] h3 = _ := callO_known (kd.ln (restB p l).length (by omega)) (k + 11) h3
 have t0 : A.extract 0 (.tuple ⟨[str [UInt8.ofNat (restB p l).length],.int .i64 0]⟩) = some (str [UInt8.ofNat (restB p l).length]) := rfl
 have t1 : A.extract 1 (.tuple ⟨[str [UInt8.ofNat (restB p l).length],.int .i64 0]⟩) = some (.int .i64 0) := rfl
 have hk15 : p.kind < 15 := by
  have := (o.good.fits hwn).kd
  have all : ∀ k ∈ kinds,k < 15 := by decide
  exact all p.kind this
 obtain ⟨h4,e43,x4⟩ := T43 kd.kn (h := h3) (k + 10) p hw hk15 f3
 have e43 : callO prog 0 Q (k + 12) 43 [.agg ⟨p.cells w⟩] h3 = _ := e43
 obtain ⟨h5,e42,x5⟩ := T42 kd.kn (h := h4) (k + 11) (n := 16 * p.kind + flagsN p) (by omega)
 have e42 : callO prog 0 Q (k + 12) 42 [.int .i64 ((16 * p.kind + flagsN p : Nat) : Int)] h4 = _ := e42
 have s1 := cat9 (a := [UInt8.ofNat (16 * p.kind + flagsN p)]) (b := [UInt8.ofNat (restB p l).length]) (by simp)
 have s2 := cat9 (a := [UInt8.ofNat (16 * p.kind + flagsN p)] ++ [UInt8.ofNat (restB p l).length]) (b := restB p l) (by simp; omega)
 refine ⟨h5,?_,(((x1.trans x2).trans x3).trans x4).trans x5⟩
 simp only [F20,p20a,e1,bnd2_some,b1.all,bnd_some,e39,toBK_bool,un_not,Bool.not_true,cond_false,b2.all,e40,lenStr_str,c41,t0,t1,b3.all,e43,e42,s1,s2]
 rfl
end
end Go.Proofs.YtdljlmpleibkiaaGreatDoor.Sc
