import Derived.Test.YtfodhidpefednaaGreatDoorRh
namespace Go.Proofs.YtfodhidpefednaaGreatDoor.An
open Tryz (prog)
open Go Go.AM AnA AnB AnC
def BS (s : CS) : Prop := s.1.length ≤ 300 ∧ Bd s.2.2 []
theorem zq_bd {kind : Nat} (h : kind < 256) : Bd (zq kind) [] := ⟨h,(by show 0 < 256; omega),(by show 0 < 65536; omega),(by show 0 < 256; omega),(by show 0 < 65536; omega),(by show 0 < 256; omega),(by show 0 < 256; omega),Nat.zero_le _,Nat.zero_le _,Nat.zero_le _,Nat.zero_le _,Nat.zero_le _,Nat.zero_le _,Nat.zero_le _,Nat.zero_le _,Nat.zero_le _,fun s hs => by cases hs⟩
theorem text_bd (val : List UInt8 → Bool) {l : List UInt8} (h : l.length ≤ 300) : (textL val l).2.1.length ≤ 300 ∧ (textL val l).1.length ≤ 300 := ⟨Nat.le_trans (textL_len val l).1 h,Nat.le_trans (textL_len val l).2 h⟩
theorem data_bd {l : List UInt8} (h : l.length ≤ 300) : (dataL l).2.1.length ≤ 300 ∧ (dataL l).1.length ≤ 300 := ⟨Nat.le_trans (dataL_len l).1 h,Nat.le_trans (dataL_len l).2 h⟩
theorem one_bd {l : List UInt8} (h : l.length ≤ 300) : (oneL l).2.1.length ≤ 300 ∧ (oneL l).1 < 256 := ⟨Nat.le_trans (oneL_len l) h,oneL_lt l⟩
theorem word_bd {l : List UInt8} (h : l.length ≤ 300) : (wordL l).2.1.length ≤ 300 ∧ (wordL l).1 < 65536 := ⟨Nat.le_trans (wordL_len l).1 h,(wordL_len l).2⟩
theorem connA_bd (val : List UInt8 → Bool) {s : CS} (h : BS s) : BS (connA val s) := by
 have a := text_bd val h.1
 have b := one_bd a.1
 have c := one_bd b.1
 exact ⟨c.1,{ h.2 with level := b.2,wq := by show (oneL _).1 / 8 % 4 < 256; omega }⟩
theorem connB2_bd (val : List UInt8 → Bool) {s : CS} (h : BS s) : BS (connB2 val s) := by
 have a := word_bd h.1
 have b := text_bd val a.1
 exact ⟨b.1,{ h.2 with keep := a.2,client := b.2 }⟩
theorem connC_bd (val : List UInt8 → Bool) {s : CS} (h : BS s) : BS (connC val s) := by
 unfold connC
 split
 · have a := text_bd val h.1
   have b := data_bd a.1
   exact ⟨b.1,{ h.2 with wt := a.2,wp := b.2 }⟩
 · exact h
theorem connU_bd (val : List UInt8 → Bool) {s : CS} (h : BS s) : BS (connU val s) := by
 unfold connU
 split
 · have a := text_bd val h.1
   exact ⟨a.1,{ h.2 with user := a.2 }⟩
 · exact h
theorem connP_bd {s : CS} (h : BS s) : BS (connP s) := by
 unfold connP
 split
 · have a := data_bd h.1
   exact ⟨a.1,{ h.2 with pass := a.2 }⟩
 · exact h
theorem connS_bd (val : List UInt8 → Bool) {s : CS} (h : BS s) : BS (connS val s) := connP_bd (connU_bd val (connC_bd val (connB2_bd val (connA_bd val h))))
theorem subL_bd (val : List UInt8 → Bool) (kind : Nat) : ∀ (n : Nat) {l : List UInt8} (bad : Bool),l.length ≤ 300 → (subL val kind n l bad).1.length ≤ n ∧ ∀ s ∈ (subL val kind n l bad).1,s.1.length ≤ 300 ∧ s.2 < 256
 | 0,l,bad,_ => ⟨Nat.le_refl _,fun s hs => by cases hs⟩
 | n + 1,l,bad,h => by
  by_cases c : l = [] ∨ bad = true
  · have e : subL val kind (n + 1) l bad = ([],l,bad) := if_pos c
    rw [e]
    exact ⟨Nat.zero_le _,fun s hs => by cases hs⟩
  · obtain ⟨a,ha⟩ : ∃ a,a = textL val l := ⟨_,rfl⟩
    obtain ⟨b,hb⟩ : ∃ b,b = if kind = 8 then oneL a.2.1 else (0,a.2.1,false) := ⟨_,rfl⟩
    have e : subL val kind (n + 1) l bad = ((a.1,b.1) :: (subL val kind n b.2.1 (bad || a.2.2 || b.2.2)).1,(subL val kind n b.2.1 (bad || a.2.2 || b.2.2)).2) := by rw [hb,ha]; exact if_neg c
    rw [e]
    have h1 := text_bd val h
    rw [← ha] at h1
    have h2 : b.2.1.length ≤ 300 ∧ b.1 < 256 := by
     rw [hb]
     split
     · exact one_bd h1.1
     · exact ⟨h1.1,by show 0 < 256; omega⟩
    obtain ⟨i1,i2⟩ := subL_bd val kind n (bad || a.2.2 || b.2.2) h2.1
    refine ⟨Nat.succ_le_succ i1,fun s hs => ?_⟩
    rcases List.mem_cons.1 hs with rfl | hs
    · exact ⟨h1.2,h2.2⟩
    · exact i2 s hs
theorem allS_bd (val : List UInt8 → Bool) {fl : Nat} {s : CS} (h : BS s) : Bd (allS val fl s).1.2.2 (allS val fl s).2 := by
 have ls : ∀ {s : CS},BS s → Bd (listS val s).1.2.2 (listS val s).2 := by
  intro s h
  unfold listS
  split
  · exact { h.2 with codes := h.1 }
  · split
    · have := subL_bd val s.2.2.kind 300 s.2.1 h.1
      exact { h.2 with len := this.1,es := this.2 }
    · exact h.2
 unfold allS
 split
 · exact (connS_bd val h).2
 split
 · have a := one_bd h.1
   have b := one_bd a.1
   exact { h.2 with code := b.2 }
 split
 · have a := text_bd val h.1
   have w := word_bd a.1
   have hb : (if 0 < fl / 2 % 4 then wordL (textL val s.1).2.1 else (s.2.2.id,(textL val s.1).2.1,false)).2.1.length ≤ 300 ∧ (if 0 < fl / 2 % 4 then wordL (textL val s.1).2.1 else (s.2.2.id,(textL val s.1).2.1,false)).1 < 65536 := by
    split
    · exact w
    · exact ⟨a.1,h.2.id⟩
   exact { h.2 with qos := by show fl / 2 % 4 < 256; omega,topic := a.2,id := hb.2,payload := hb.1 }
 split
 · exact h.2
 · have w := word_bd h.1
   exact ls ⟨w.1,{ h.2 with id := w.2 }⟩
def lv7 (K : Nat) (rest : List UInt8) : Prop := K = 1 ∧ 6 < rest.length ∧ rest.take 6 = proto ∧ rest[6]? ≠ some 4
instance (K : Nat) (rest : List UInt8) : Decidable (lv7 K rest) := by unfold lv7; infer_instance
theorem w7 {h : H} {r : Nat} {rest : List UInt8} {p : Pq} {w : Value} (q : RS h r rest false p w) (C : CF) (L : Nat) {β : Type} (x0 x6 x2 : Value) (kn : Value → Value → Value → Value → Value → Value → H → Option β) :
 pakR C L x0 (ptrV r) x6 (.int .i64 (rest.length : Int)) x2 h kn = kn (.bool (decide (lv7 p.kind rest))) x0 (ptrV r) x6 (.int .i64 (rest.length : Int)) x2 h := by
 have l2 := q.ld (i := 2) rfl
 have l0 := q.ld (i := 0) rfl
 by_cases k1 : p.kind = 1
 · have d1 : decide ((p.kind : Int) = 1) = true := deq (by omega)
   by_cases g6 : 6 < rest.length
   · have d2 : decide ((6 : Int) < (rest.length : Int)) = true := decide_eq_true (by omega)
     have sl := slS6 (l := rest) (by omega)
     have st := str_eq9 (rest.take 6) proto
     have st : A.bin prog .eql 9 (str (rest.take 6)) (.string ⟨⟨[0,4,77,81,84,84]⟩⟩) = _ := st
     by_cases hp : rest.take 6 = proto
     · rw [decide_eq_true hp] at st
       obtain ⟨b,hb⟩ : ∃ b,rest[6]? = some b := ⟨_,List.getElem?_eq_getElem g6⟩
       have ix : A.indexStr (str rest) (.int .i64 6) = some (u8 b) := ixS (i := 6) hb
       have db : (!decide ((b.toNat : Int) = 4)) = decide (lv7 p.kind rest) := by
        rw [← decide_not,decide_eq_decide]
        unfold lv7
        rw [hb]
        constructor
        · exact fun hn => ⟨k1,g6,hp,fun e => hn (by rw [Option.some.inj e]; rfl)⟩
        · intro ⟨_,_,_,hn⟩ e
          exact hn (congrArg some (UInt8.toNat_inj.1 (by show b.toNat = 4; omega)))
       simp only [pakR,qV,qZ,qY,Nat.zero_add,Nat.add_zero,l2,zQ,d1,qQ,cond_true,zY,d2,l0,sl,st,ix,bin_neq,db]
     · rw [decide_eq_false hp] at st
       have db : decide (lv7 p.kind rest) = false := decide_eq_false fun hn => hp hn.2.2.1
       simp only [pakR,qV,qZ,qY,Nat.zero_add,Nat.add_zero,l2,zQ,d1,qQ,cond_true,cond_false,zY,d2,l0,sl,st,db]
   · have d2 : decide ((6 : Int) < (rest.length : Int)) = false := decide_eq_false (by omega)
     have db : decide (lv7 p.kind rest) = false := decide_eq_false fun hn => g6 hn.2.1
     simp only [pakR,qV,qZ,qY,Nat.zero_add,Nat.add_zero,l2,zQ,d1,qQ,cond_true,cond_false,zY,d2,db]
 · have d1 : decide ((p.kind : Int) = 1) = false := dne (by omega)
   have db : decide (lv7 p.kind rest) = false := decide_eq_false fun hn => k1 hn.1
   simp only [pakR,qV,qZ,qY,Nat.zero_add,Nat.add_zero,l2,zQ,d1,qQ,cond_false,db]
end Go.Proofs.YtfodhidpefednaaGreatDoor.An

namespace Go.Proofs.YtfodhidpefednaaGreatDoor.An
open Tryz (prog)
open Go Go.AM AnA AnB AnC
def res7 (p : Pq) (w : Value) (u : Nat × Nat) : Value := .tuple ⟨[.agg ⟨p.cells w⟩,.int .i64 (u.1 : Int),.int .i64 (u.2 : Int)]⟩
theorem end7 {h : H} {r : Nat} {zs : List Value} (hz : zs.length = 24) (g : h.get r = some (.cells zs (some 0))) (p : Pq) (w : Value) :
 ∃ h',A.store 24 (ptrV r) (.agg ⟨p.cells w⟩) h = some h' ∧ (∀ x3 x4 : Value,(bnd (resC (A.load true 24 (ptrV r) h') (resC (some x3) (resC (some x4) (some [])))) fun vs => some (packA vs,h')) = some (.tuple ⟨[.agg ⟨p.cells w⟩,x3,x4]⟩,h')) ∧ ExtBut (fun i => i = r) h h' := by
 obtain ⟨h',e,l,x⟩ := fin7 hz g p w
 refine ⟨h',e,fun x3 x4 => ?_,x⟩
 rw [l]; rfl
section
variable {Q : Orc} {B : H} {val : List UInt8 → Bool} {rgt : Pq → List Sb → Bool} (ka : KnA Q) (va : VA Q B val) (rg : RG Q B rgt) {h : H}
include ka va rg
theorem T7 (k : Nat) {l : List UInt8} (hl : l.length ≤ 300) (hB : Ext B h) : ∃ h' p w,callO prog 4 Q (k + 1001) 7 [str l] h = some (res7 p w (decF val rgt l),h') ∧ Ext h h' := by
 rw [F7eq Q (k + 1000) _ h (ka.fr 7 _ (by decide))]
 obtain ⟨h1,hh1⟩ : ∃ h1,h1 = h.push (.cells AnC.Z39L (some 0)) := ⟨_,rfl⟩
 have e1 : A.box 24 AnC.Z39 h = some (ptrV h.next,h1) := by rw [hh1]; rfl
 have g1 : h1.get h.next = some (.cells AnC.Z39L (some 0)) := by rw [hh1,H.get_push,if_pos rfl]
 have x1 : Ext h h1 := by rw [hh1]; exact Ext.push h _
 have n1 : h1.next = h.next + 1 := by rw [hh1]; rfl
 have b0 : A.build AnC.Z39L [] = some (.agg ⟨(zq 0).cells nilS⟩) := rfl
 have toE : ∀ {hx h' : H},Ext h hx → ExtBut (fun i => i = h.next) hx h' → Ext h h' := fun a b => ⟨Nat.le_trans a.next b.next,fun i hi => by rw [b.get i (Nat.lt_of_lt_of_le hi a.next) (by omega)]; exact a.get i hi⟩
 obtain ⟨hz,ez,fz,xz⟩ := end7 (zs := AnC.Z39L) rfl g1 (zq 0) nilS
 cases l with
 | nil =>
  have d : A.bin prog .eql 9 (str []) (.string ⟨⟨[]⟩⟩) = some (.bool true) := str_eq9 [] []
  refine ⟨hz,zq 0,nilS,?_,toE x1 xz⟩
  simp only [F7,p7a,pagU,pajH,e1,qX,qZ,d,qQ,cond_true,b0,ez,fz]
  rfl
 | cons c t =>
  have d : A.bin prog .eql 9 (str (c :: t)) (.string ⟨⟨[]⟩⟩) = some (.bool false) := by
   have := str_eq9 (c :: t) []
   rw [decide_eq_false (by simp)] at this
   exact this
  have ix : A.indexStr (str (c :: t)) (.int .i64 0) = some (u8 c) := ixS (i := 0) rfl
  have e15 := qB (ka.fq c.toNat c.toNat_lt) (k + 999) h1
  have e15 : callO prog 4 Q (k + 1000) 15 [u8 c] h1 = _ := e15
  cases hf : firstB c.toNat with
  | false =>
   rw [hf] at e15
   have hr : decF val rgt (c :: t) = (0,4) := by unfold decF; simp only [hf,Bool.false_eq_true,if_false]
   rw [hr]
   refine ⟨hz,zq 0,nilS,?_,toE x1 xz⟩
   simp only [F7,p7a,pagU,pajH,e1,qX,qZ,d,qQ,cond_false,pajX,ix,e15,un_not,Bool.not_false,cond_true,b0,ez,fz]
   rfl
  | true =>
   rw [hf] at e15
   have sl1 : A.sliceStr (str (c :: t)) (some (.int .i64 1)) none = some (str t) := slS (l := c :: t) (k := 1) (by simp)
   have hl : t.length + 1 ≤ 300 := hl
   have e16 := T16 ka (h := h1) (k + 993) (l := t) (by omega)
   have e16 : callO prog 4 Q (k + 1000) 16 [str t] h1 = _ := e16
   have hu := rlF_used t 4 1 0 0
   obtain ⟨R,hR⟩ : ∃ R,R = rlF t 4 1 0 0 := ⟨_,rfl⟩
   rw [← hR] at e16 hu
   have t0 : A.extract 0 (.tuple ⟨[.int .i64 (R.1 : Int),.int .i64 (R.2.1 : Int),.int .i64 (R.2.2 : Int)]⟩) = some (.int .i64 (R.1 : Int)) := rfl
   have t1 : A.extract 1 (.tuple ⟨[.int .i64 (R.1 : Int),.int .i64 (R.2.1 : Int),.int .i64 (R.2.2 : Int)]⟩) = some (.int .i64 (R.2.1 : Int)) := rfl
   have t2 : A.extract 2 (.tuple ⟨[.int .i64 (R.1 : Int),.int .i64 (R.2.1 : Int),.int .i64 (R.2.2 : Int)]⟩) = some (.int .i64 (R.2.2 : Int)) := rfl
   by_cases he : R.2.2 = 0
   · have hu := hu he
     have dn : A.bin prog .neq 40 (.int .i64 (R.2.2 : Int)) (.int .i64 0) = some (.bool false) := by rw [bin_neq,decide_eq_true (by omega)]; rfl
     have w1 : IntKind.i64.wrap ((R.2.1 : Int) + 1) = ((R.2.1 + 1 : Nat) : Int) := wrap_succ (by omega)
     have w2 : IntKind.i64.wrap (((c :: t).length : Int) - ((R.2.1 + 1 : Nat) : Int)) = (((c :: t).length - (R.2.1 + 1) : Nat) : Int) := by
      have : (c :: t).length = t.length + 1 := rfl
      rw [wrap64 (by omega) (by omega)]; omega
     obtain ⟨U,hU⟩ : ∃ U,U = R.2.1 + 1 := ⟨_,rfl⟩
     rw [← hU] at w1 w2
     have hUl : U ≤ (c :: t).length := by show U ≤ t.length + 1; omega
     by_cases hlt : (c :: t).length - U < R.1
     · have hr : decF val rgt (c :: t) = (0,2) := by
        show (if firstB c.toNat = true then _ else _) = _
        rw [if_pos hf,← hR,if_pos he,← hU,if_pos hlt]
       rw [hr]
       have dl : decide ((((c :: t).length - U : Nat) : Int) < (R.1 : Int)) = true := decide_eq_true (by omega)
       refine ⟨hz,zq 0,nilS,?_,toE x1 xz⟩
       simp only [F7,p7a,pagU,pajH,e1,qX,qZ,d,qQ,cond_false,pajX,ix,e15,un_not,Bool.not_true,pakP,sl1,e16,t0,t1,t2,pakQ,dn,pamL,bin_add,w1,pamM,qJ,bin_sub,w2,zZ,dl,cond_true,b0,ez,fz]
       rfl
     · have dl : decide ((((c :: t).length - U : Nat) : Int) < (R.1 : Int)) = false := decide_eq_false (by omega)
       have w3 : IntKind.i64.wrap ((U : Int) + (R.1 : Int)) = ((U + R.1 : Nat) : Int) := by
        have : (c :: t).length = t.length + 1 := rfl
        rw [wrap64 (by omega) (by omega)]; omega
       have sl2 := slS2 (l := c :: t) (a := U) (b := U + R.1) (by omega) (by omega)
       rw [Nat.add_sub_cancel_left] at sl2
       obtain ⟨rest,hrest⟩ : ∃ rest,rest = ((c :: t).drop U).take R.1 := ⟨_,rfl⟩
       have rlen : rest.length = R.1 := by rw [hrest,List.length_take,List.length_drop]; omega
       rw [← hrest] at sl2
       have b64 : A.build AnC.Z64L [(0,1,str rest)] = some (.agg ⟨[str rest,.bool false]⟩) := rfl
       have b66 : A.build AnC.Z66L [(0,2,.agg ⟨[str rest,.bool false]⟩)] = some (.agg ⟨str rest :: .bool false :: (zq 0).cells nilS⟩) := rfl
       obtain ⟨h2,hh2⟩ : ∃ h2,h2 = h1.push (.cells (str rest :: .bool false :: (zq 0).cells nilS) (some 0)) := ⟨_,rfl⟩
       have e2 : A.box 26 (.agg ⟨str rest :: .bool false :: (zq 0).cells nilS⟩) h1 = some (ptrV h1.next,h2) := by rw [hh2]; rfl
       have x2 : Ext h1 h2 := by rw [hh2]; exact Ext.push h1 _
       have g2 : h2.get h.next = some (.cells AnC.Z39L (some 0)) := by rw [x2.get _ (by omega)]; exact g1
       have q2 : RS h2 h1.next rest false (zq 0) nilS := ⟨by rw [hh2,H.get_push,if_pos rfl],by rw [hh2]; exact Nat.lt_succ_self _⟩
       obtain ⟨sh,an⟩ := shr4 c.toNat_lt
       have sh : A.bin prog .shr 5 (u8 c) (.int .u64 4) = _ := sh
       have an : A.bin prog .and 5 (u8 c) (.int .u8 15) = _ := an
       have hc4 := c.toNat_lt
       obtain ⟨h3,e3,q3,x3,n3⟩ := q2.set (i := 2) (v := .int .u8 ((c.toNat / 16 : Nat) : Int)) (l' := rest) (bad' := false) (p' := zq (c.toNat / 16)) (w' := nilS) (by omega) rfl rfl
       have hne : h.next ≠ h1.next := by omega
       have g3 : h3.get h.next = some (.cells AnC.Z39L (some 0)) := by rw [x3.get _ (by rw [hh2]; show _ < h1.next + 1; omega) hne]; exact g2
       have x03 : Ext h h3 := ⟨Nat.le_trans (x1.trans x2).next x3.next,fun i hi => by rw [x3.get i (Nat.lt_of_lt_of_le hi (x1.trans x2).next) (by omega)]; exact (x1.trans x2).get i hi⟩
       have w7' := fun (β : Type) (x0 x6 x2 : Value) (kn : Value → Value → Value → Value → Value → Value → H → Option β) => w7 q3 (callO prog 4 Q (k + 1000)) (k + 1000) x0 x6 x2 kn
       rw [rlen] at w7'
       have kz : (zq (c.toNat / 16)).kind = c.toNat / 16 := rfl
       by_cases hv : lv7 (c.toNat / 16) rest
       · have hr : decF val rgt (c :: t) = (U + R.1,0) := by
          show (if firstB c.toNat = true then _ else _) = _
          rw [if_pos hf,← hR,if_pos he,← hU,if_neg hlt,← hrest]
          exact if_pos hv
         rw [hr]
         have l0 := q3.ld (i := 0) rfl
         obtain ⟨b,hb⟩ : ∃ b,rest[6]? = some b := ⟨_,List.getElem?_eq_getElem hv.2.1⟩
         have ix6 : A.indexStr (str rest) (.int .i64 6) = some (u8 b) := ixS (i := 6) hb
         have bl : A.build AnC.Z39L [(0,1,.int .u8 1),(7,1,u8 b)] = some (.agg ⟨({ zq 1 with level := b.toNat } : Pq).cells nilS⟩) := rfl
         obtain ⟨hy,ey,fy,xy⟩ := end7 (zs := AnC.Z39L) rfl g3 ({ zq 1 with level := b.toNat } : Pq) nilS
         have dv : decide (lv7 (zq (c.toNat / 16)).kind rest) = true := decide_eq_true hv
         refine ⟨hy,{ zq 1 with level := b.toNat },nilS,?_,toE x03 xy⟩
         simp only [F7,p7a,pagU,pajH,e1,qX,qZ,d,qQ,cond_false,pajX,ix,e15,un_not,Bool.not_true,pakP,sl1,e16,t0,t1,t2,pakQ,dn,pamL,bin_add,w1,pamM,qJ,bin_sub,w2,zZ,dl,panW,w3,sl2,b64,b66,e2,panX,sh,qV,qY,Nat.zero_add,Nat.add_zero,e3,pagV,w7',dv,panY,qW,cond_true,l0,ix6,bl,ey,fy]
         rfl
       · have dv : decide (lv7 (zq (c.toNat / 16)).kind rest) = false := decide_eq_false hv
         have hb1 : BS ((rest,false,zq (c.toNat / 16)) : CS) := ⟨by show rest.length ≤ 300; rw [hrest,List.length_take,List.length_drop]; have : (c :: t).length = t.length + 1 := rfl; omega,zq_bd (by omega)⟩
         have hbd := allS_bd val (fl := c.toNat % 16) hb1
         have hB3 : Ext B h3 := hB.trans x03
         obtain ⟨h4,w4,e4,q4,s4,sw4,x4⟩ := T17 ka va (h := h3) (r := h1.next) (s := (rest,false,zq (c.toNat / 16))) (k + 596) (fl := c.toNat % 16) (by omega) hb1.1 hB3 (by have := hB.next; omega) q3
         have e4 : callO prog 4 Q (k + 1000) 17 [ptrV h1.next,.int .u8 ((c.toNat % 16 : Nat) : Int)] h3 = _ := e4
         obtain ⟨a,ha⟩ : ∃ a,a = allS val (c.toNat % 16) (rest,false,zq (c.toNat / 16)) := ⟨_,rfl⟩
         rw [← ha] at q4 s4 hbd
         have n3' : h.next < h3.next := by have := x3.next; have := x2.next; omega
         have g4 : h4.get h.next = some (.cells AnC.Z39L (some 0)) := by rw [x4.get _ n3' hne]; exact g3
         have x04 : Ext h h4 := ⟨Nat.le_trans x03.next x4.next,fun i hi => by rw [x4.get i (Nat.lt_of_lt_of_le hi x03.next) (by omega)]; exact x03.get i hi⟩
         have l1 := q4.ld (i := 1) rfl
         have l0 := q4.ld (i := 0) rfl
         have ne := str_ne9 a.1.1 []
         have ne : A.bin prog .neq 9 (str a.1.1) (.string ⟨⟨[]⟩⟩) = _ := ne
         have lp := q4.packet
         have bad : ∀ {h5 : H},Ext h h5 → h5.get h.next = some (.cells AnC.Z39L (some 0)) → (a.1.2.1 = true ∨ a.1.1 ≠ [] ∨ rgt a.1.2.2 a.2 = false) →
          (∀ (kr : Value → Value → Value → H → Option (Value × H)),paeV (callO prog 4 Q (k + 1000)) (k + 1000) (ptrV h1.next) (.int .i64 (U : Int)) (.int .i64 (R.1 : Int)) (ptrV h.next) h4 kr = bnd (A.build AnC.Z39L []) fun t116 => bnd (A.store 24 (ptrV h.next) t116 h5) fun hq1 => kr (ptrV h.next) (.int .i64 0) (.int .i64 4) hq1) →
          ∃ h' p w,F7 (callO prog 4 Q (k + 1000)) (k + 1000) (str (c :: t)) h = some (res7 p w (decF val rgt (c :: t)),h') ∧ Ext h h' := by
          intro h5 x5 g5 hc st
          obtain ⟨hy,ey,fy,xy⟩ := end7 (zs := AnC.Z39L) rfl g5 (zq 0) nilS
          have hr : decF val rgt (c :: t) = (0,4) := by
           show (if firstB c.toNat = true then _ else _) = _
           rw [if_pos hf,← hR,if_pos he,← hU,if_neg hlt,← hrest]
           refine (if_neg hv).trans ?_
           rw [← ha]
           exact if_pos hc
          rw [hr]
          refine ⟨hy,zq 0,nilS,?_,toE x5 xy⟩
          simp only [F7,p7a,pagU,pajH,e1,qX,qZ,d,qQ,cond_false,pajX,ix,e15,un_not,Bool.not_true,pakP,sl1,e16,t0,t1,t2,pakQ,dn,pamL,bin_add,w1,pamM,qJ,bin_sub,w2,zZ,dl,panW,w3,sl2,b64,b66,e2,panX,sh,qV,qY,Nat.zero_add,Nat.add_zero,e3,pagV,w7',dv,panY,qW,paqS,an,e4,st,b0,ey,fy]
          rfl
         cases hbad : a.1.2.1 with
         | true =>
          have l1 := l1.trans (congrArg (fun b => some (Value.bool b)) hbad)
          refine bad x04 g4 (.inl hbad) fun kr => ?_
          simp only [paeV,pagN,pamN,qV,qZ,qY,Nat.zero_add,Nat.add_zero,l1,qQ,cond_true,pamO,qW]
         | false =>
          have l1 := l1.trans (congrArg (fun b => some (Value.bool b)) hbad)
          by_cases hn : a.1.1 = []
          · rw [decide_eq_true hn] at ne
            obtain ⟨h5,e5,x5⟩ := rg.rg k h4 a.1.2.2 a.2 w4 (hB.trans x04) hbd s4
            have g5 : h5.get h.next = some (.cells AnC.Z39L (some 0)) := by rw [x5.get _ (Nat.lt_of_lt_of_le n3' x4.next)]; exact g4
            cases hrg : rgt a.1.2.2 a.2 with
            | false =>
             rw [hrg] at e5
             refine bad (x04.trans x5) g5 (.inr (.inr hrg)) fun kr => ?_
             simp only [paeV,pagN,pamN,qV,qZ,qY,Nat.zero_add,Nat.add_zero,l1,qQ,cond_false,l0,ne,Bool.not_true,lp,e5,qX,un_not,Bool.not_false,pamO,qW,cond_true]
            | true =>
             rw [hrg] at e5
             have q5 := q4.ext x5
             have lp5 := q5.packet
             obtain ⟨hy,ey,fy,xy⟩ := end7 (zs := AnC.Z39L) rfl g5 a.1.2.2 w4
             have hr : decF val rgt (c :: t) = (U + R.1,0) := by
              show (if firstB c.toNat = true then _ else _) = _
              rw [if_pos hf,← hR,if_pos he,← hU,if_neg hlt,← hrest]
              refine (if_neg hv).trans ?_
              rw [← ha]
              refine if_neg ?_
              rw [hbad,hrg]
              simp [hn]
             rw [hr]
             refine ⟨hy,a.1.2.2,w4,?_,toE (x04.trans x5) xy⟩
             have st : ∀ (kr : Value → Value → Value → H → Option (Value × H)),paeV (callO prog 4 Q (k + 1000)) (k + 1000) (ptrV h1.next) (.int .i64 (U : Int)) (.int .i64 (R.1 : Int)) (ptrV h.next) h4 kr = kr (ptrV h.next) (.int .i64 ((U + R.1 : Nat) : Int)) (.int .i64 0) hy := by
              intro kr
              simp only [paeV,pagN,pamN,qV,qZ,qY,Nat.zero_add,Nat.add_zero,l1,qQ,cond_false,l0,ne,Bool.not_true,lp,e5,qX,un_not,pamO,qW,pauT,lp5,bin_add,w3,ey]
             simp only [F7,p7a,pagU,pajH,e1,qX,qZ,d,qQ,cond_false,pajX,ix,e15,un_not,Bool.not_true,pakP,sl1,e16,t0,t1,t2,pakQ,dn,pamL,bin_add,w1,pamM,qJ,bin_sub,w2,zZ,dl,panW,w3,sl2,b64,b66,e2,panX,sh,qV,qY,Nat.zero_add,Nat.add_zero,e3,pagV,w7',dv,panY,qW,paqS,an,e4,st,fy]
             rfl
          · rw [decide_eq_false hn] at ne
            refine bad x04 g4 (.inr (.inl hn)) fun kr => ?_
            simp only [paeV,pagN,pamN,qV,qZ,qY,Nat.zero_add,Nat.add_zero,l1,qQ,cond_false,l0,ne,Bool.not_false,cond_true,pamO,qW]
   · have hr : decF val rgt (c :: t) = (0,R.2.2) := by
      show (if firstB c.toNat = true then _ else _) = _
      rw [if_pos hf,← hR,if_neg he]
     rw [hr]
     have dn : A.bin prog .neq 40 (.int .i64 (R.2.2 : Int)) (.int .i64 0) = some (.bool true) := by rw [bin_neq,decide_eq_false (by omega)]; rfl
     refine ⟨hz,zq 0,nilS,?_,toE x1 xz⟩
     simp only [F7,p7a,pagU,pajH,e1,qX,qZ,d,qQ,cond_false,pajX,ix,e15,un_not,Bool.not_true,pakP,sl1,e16,t0,t1,t2,pakQ,dn,cond_true,b0,ez,fz]
     rfl
end
end Go.Proofs.YtfodhidpefednaaGreatDoor.An

namespace Go.Proofs.YtfodhidpefednaaGreatDoor.An
open Tryz (prog)
open Go Go.AM
def optV : Option Nat → Value
 | none => .int .i64 (-1)
 | some n => .int .i64 (n : Int)
structure OK3 (Q : Orc) (B : H) (nm fi : List UInt8 → Bool) : Prop where
 nm : ∀ (k : Nat) (h : H) (s : List UInt8),Ext B h → s.length ≤ 300 → ∃ h',callO prog 4 Q (k + 900) 78 [str s] h = some (.bool (nm s),h') ∧ Ext h h'
 fi : ∀ (k : Nat) (h : H) (s : List UInt8),Ext B h → s.length ≤ 300 → ∃ h',callO prog 4 Q (k + 900) 79 [str s] h = some (.bool (fi s),h') ∧ Ext h h'
def BQ (h : H) (t : Nat) (p : Pq) (w : Value) : Prop := h.get t = some (.cells (p.cells w) (some 0)) ∧ t < h.next
theorem BQ.ld {h : H} {t : Nat} {p : Pq} {w : Value} (b : BQ h t p w) {i : Nat} {v : Value} (hv : (p.cells w)[i]? = some v) : A.load false 1 (.pointer (some ⟨t,i,none⟩)) h = some v := by
 rw [qK,b.1]; exact hv
theorem BQ.all {h : H} {t : Nat} {p : Pq} {w : Value} (b : BQ h t p w) : A.load true 24 (ptrV t) h = some (.agg ⟨p.cells w⟩) := by
 rw [loadN_eq,b.1]; rfl
theorem BQ.but {S : Nat → Prop} {h h' : H} {t : Nat} {p : Pq} {w : Value} (b : BQ h t p w) (x : ExtBut S h h') (s : ¬ S t) : BQ h' t p w := ⟨by rw [x.get t b.2 s]; exact b.1,Nat.lt_of_lt_of_le b.2 x.next⟩
theorem BQ.ext {h h' : H} {t : Nat} {p : Pq} {w : Value} (b : BQ h t p w) (x : Ext h h') : BQ h' t p w := b.but (S := fun _ => False) x.but (fun h => h)
theorem box_pq (p : Pq) {w : Value} (hw : cellsL w = some [w]) (h : H) : ∃ h',A.box 24 (.agg ⟨p.cells w⟩) h = some (ptrV h.next,h') ∧ BQ h' h.next p w ∧ Ext h h' ∧ h'.next = h.next + 1 := by
 obtain ⟨h',hh⟩ : ∃ h',h' = h.push (.cells (p.cells w) (some 0)) := ⟨_,rfl⟩
 refine ⟨h',?_,⟨by rw [hh,H.get_push,if_pos rfl],by rw [hh]; exact Nat.lt_succ_self _⟩,by rw [hh]; exact Ext.push h _,by rw [hh]; rfl⟩
 rw [box_eq,hh]; rfl
def idO (p : Pq) : Option Nat := if p.id = 0 then none else some 2
def wz (p : Pq) : Bool := bif p.wt == [] then bif p.wp == [] then bif (p.wq : Int) == 0 then p.wr == false else false else false else false
def wilO (nm : List UInt8 → Bool) (p : Pq) (n : Nat) : Option Nat :=
 if p.will then (if nm p.wt then (if 2 < p.wq then none else some (n + (4 + p.wt.length + p.wp.length))) else none) else (if wz p then some n else none)
def usrO (p : Pq) (n : Nat) : Option Nat :=
 if p.hu then some (n + (2 + p.user.length)) else if p.user = [] then (if p.hp then none else some n) else none
def pasO (p : Pq) (n : Nat) : Option Nat :=
 if p.hp then some (n + (2 + p.pass.length)) else if p.pass = [] then some n else none
def conO (val nm : List UInt8 → Bool) (p : Pq) : Option Nat :=
 if p.level = 4 then
  if val p.client then
   match wilO nm p (12 + p.client.length) with
   | none => none
   | some n => match usrO p n with
    | none => none
    | some n => match pasO p n with
     | none => none
     | some n => if val p.user then some n else none
  else none
 else none
theorem wilO_le {nm : List UInt8 → Bool} {p : Pq} {n m : Nat} (e : wilO nm p n = some m) (h1 : p.wt.length ≤ 300) (h2 : p.wp.length ≤ 300) : m ≤ n + 604 := by
 unfold wilO at e
 split at e
 · split at e
   · split at e
     · cases e
     · cases e; omega
   · cases e
 · split at e
   · cases e; omega
   · cases e
theorem usrO_le {p : Pq} {n m : Nat} (e : usrO p n = some m) (h1 : p.user.length ≤ 300) : m ≤ n + 302 := by
 unfold usrO at e
 split at e
 · cases e; omega
 · split at e
   · split at e
     · cases e
     · cases e; omega
   · cases e
theorem pasO_le {p : Pq} {n m : Nat} (e : pasO p n = some m) (h1 : p.pass.length ≤ 300) : m ≤ n + 302 := by
 unfold pasO at e
 split at e
 · cases e; omega
 · split at e
   · cases e; omega
   · cases e
theorem will_ne (p : Pq) : A.bin prog .neq 36 (.agg ⟨[str p.wt,str p.wp,.int .u8 (p.wq : Int),.bool p.wr]⟩) (.agg ⟨[str [],str [],.int .u8 0,.bool false]⟩) = some (.bool (!wz p)) := by
 have e : A.eqV prog 20 36 (.agg ⟨[str p.wt,str p.wp,.int .u8 (p.wq : Int),.bool p.wr]⟩) (.agg ⟨[str [],str [],.int .u8 0,.bool false]⟩) = (bif p.wt == [] then bif p.wp == [] then bif (p.wq : Int) == 0 then bif p.wr == false then some true else some false else some false else some false else some false) := by kernel_rfl
 have e2 : A.eqV prog 20 36 (.agg ⟨[str p.wt,str p.wp,.int .u8 (p.wq : Int),.bool p.wr]⟩) (.agg ⟨[str [],str [],.int .u8 0,.bool false]⟩) = some (wz p) := by
  rw [e]; unfold wz
  cases p.wt == [] <;> cases p.wp == [] <;> cases (p.wq : Int) == 0 <;> cases p.wr == false <;> rfl
 exact bin_agg_neq rfl rfl (by kernel_rfl) e2
end Go.Proofs.YtfodhidpefednaaGreatDoor.An

namespace Go.Proofs.YtfodhidpefednaaGreatDoor.An
open Tryz (prog)
open Go Go.AM AnA AnB AnC
theorem T57q {Q : Orc} (ka : KnA Q) (k : Nat) (h : H) (p : Pq) {w : Value} (hw : cellsL w = some [w]) : ∃ h',callO prog 4 Q (k + 1) 57 [.agg ⟨p.cells w⟩] h = some (optV (idO p),h') ∧ Ext h h' := by
 rw [F57eq Q k _ h (ka.kn.fr 57 _ (by decide))]
 obtain ⟨ha,ea,b,x,_⟩ := box_pq p hw h
 have l4 := b.ld (i := 4) rfl
 refine ⟨ha,?_,x⟩
 unfold idO
 by_cases hz : p.id = 0
 · have d : decide ((p.id : Int) = 0) = true := decide_eq_true (by omega)
   rw [if_pos hz]
   simp only [F57,p57a,ea,qX,qY,Nat.zero_add,qZ,l4,zQ,d,qQ,cond_true]
   rfl
 · have d : decide ((p.id : Int) = 0) = false := decide_eq_false (by omega)
   rw [if_neg hz]
   simp only [F57,p57a,ea,qX,qY,Nat.zero_add,qZ,l4,zQ,d,qQ,cond_false]
   rfl
section
variable {Q : Orc} {B : H} {val nm fi : List UInt8 → Bool} (ka : KnA Q) (va : VA Q B val) (ok : OK3 Q B nm fi) {h : H}
include ka va ok
theorem e55 (k L : Nat) {t : Nat} {p : Pq} {es : List Sb} {w : Value} (hB : Ext B h) (bd : Bd p es) (b : BQ h t p w) (n : Nat) :
 ∃ h',pakJ (callO prog 4 Q (k + 900)) L (ptrV t) (.int .i64 (n : Int)) h (fun x2 h => some (x2,h)) = some (optV (if val p.user then some n else none),h') ∧ Ext h h' := by
 have _ := ka
 have _ := ok
 have l18 := b.ld (i := 18) rfl
 obtain ⟨h1,e1,x1⟩ := va.va (k + 500) h p.user hB bd.user
 have e1 : callO prog 4 Q (k + 900) 77 [str p.user] h = _ := e1
 have l19 := (b.ext x1).ld (i := 19) rfl
 have hp := bd.pass
 have d : decide ((65535 : Int) < (p.pass.length : Int)) = false := decide_eq_false (by omega)
 refine ⟨h1,?_,x1⟩
 cases hv : val p.user with
 | false =>
  rw [hv] at e1
  simp only [pakJ,qY,Nat.zero_add,qZ,l18,e1,qX,qQ,un_not,Bool.not_false,cond_true]
  rfl
 | true =>
  rw [hv] at e1
  simp only [pakJ,qY,Nat.zero_add,qZ,l18,e1,qX,qQ,un_not,Bool.not_true,cond_false,l19,qJ,zY,d]
  rfl
theorem d55 (k L : Nat) {t : Nat} {p : Pq} {es : List Sb} {w : Value} (hB : Ext B h) (bd : Bd p es) (b : BQ h t p w) (n : Nat) (hn : n ≤ 2000) :
 ∃ h',pafS (callO prog 4 Q (k + 900)) L (ptrV t) (.int .i64 (n : Int)) h (fun x2 h => some (x2,h)) = some (optV (match pasO p n with | none => none | some n => if val p.user then some n else none),h') ∧ Ext h h' := by
 have l17 := b.ld (i := 17) rfl
 have l19 := b.ld (i := 19) rfl
 unfold pasO
 cases hp : p.hp with
 | true =>
  have l17 := l17.trans (congrArg (fun b => some (Value.bool b)) hp)
  have hb := bd.pass
  have w1 : IntKind.i64.wrap (2 + (p.pass.length : Int)) = ((2 + p.pass.length : Nat) : Int) := by rw [wrap64 (by omega) (by omega)]; omega
  have w2 : IntKind.i64.wrap ((n : Int) + ((2 + p.pass.length : Nat) : Int)) = ((n + (2 + p.pass.length) : Nat) : Int) := by rw [wrap64 (by omega) (by omega)]; omega
  obtain ⟨h',e,x⟩ := e55 ka va ok k L hB bd b (n + (2 + p.pass.length))
  refine ⟨h',?_,x⟩
  simp only [pafS,pakI,qY,Nat.zero_add,qZ,l17,qQ,cond_true,l19,qJ,bin_add,w1,w2,e,if_true]
 | false =>
  have l17 := l17.trans (congrArg (fun b => some (Value.bool b)) hp)
  have ne := str_ne9 p.pass []
  have ne : A.bin prog .neq 9 (str p.pass) (.string ⟨⟨[]⟩⟩) = _ := ne
  by_cases hz : p.pass = []
  · rw [decide_eq_true hz] at ne
    obtain ⟨h',e,x⟩ := e55 ka va ok k L hB bd b n
    refine ⟨h',?_,x⟩
    simp only [pafS,pakI,qY,Nat.zero_add,qZ,l17,qQ,cond_false,l19,ne,Bool.not_true,e,Bool.false_eq_true,if_false,if_pos hz]
  · rw [decide_eq_false hz] at ne
    refine ⟨h,?_,Ext.refl h⟩
    simp only [pafS,pakI,qY,Nat.zero_add,qZ,l17,qQ,cond_false,l19,ne,Bool.not_false,cond_true,Bool.false_eq_true,if_false,if_neg hz]
    rfl
theorem c55 (k L : Nat) {t : Nat} {p : Pq} {es : List Sb} {w : Value} (hB : Ext B h) (bd : Bd p es) (b : BQ h t p w) (n : Nat) (hn : n ≤ 1000) :
 ∃ h',pacS (callO prog 4 Q (k + 900)) L (ptrV t) (.int .i64 (n : Int)) h (fun x2 h => some (x2,h)) = some (optV (match usrO p n with | none => none | some n => match pasO p n with | none => none | some n => if val p.user then some n else none),h') ∧ Ext h h' := by
 have l16 := b.ld (i := 16) rfl
 have l17 := b.ld (i := 17) rfl
 have l18 := b.ld (i := 18) rfl
 unfold usrO
 cases hu : p.hu with
 | true =>
  have l16 := l16.trans (congrArg (fun b => some (Value.bool b)) hu)
  have hb := bd.user
  have w1 : IntKind.i64.wrap (2 + (p.user.length : Int)) = ((2 + p.user.length : Nat) : Int) := by rw [wrap64 (by omega) (by omega)]; omega
  have w2 : IntKind.i64.wrap ((n : Int) + ((2 + p.user.length : Nat) : Int)) = ((n + (2 + p.user.length) : Nat) : Int) := by rw [wrap64 (by omega) (by omega)]; omega
  obtain ⟨h',e,x⟩ := d55 ka va ok k L hB bd b (n + (2 + p.user.length)) (by omega)
  refine ⟨h',?_,x⟩
  simp only [pacS,paeM,pajU,qY,Nat.zero_add,qZ,l16,qQ,pagL,qW,cond_true,patY,l18,qJ,bin_add,w1,w2,e,if_true]
 | false =>
  have l16 := l16.trans (congrArg (fun b => some (Value.bool b)) hu)
  have ne := str_ne9 p.user []
  have ne : A.bin prog .neq 9 (str p.user) (.string ⟨⟨[]⟩⟩) = _ := ne
  by_cases hz : p.user = []
  · rw [decide_eq_true hz] at ne
    cases hp : p.hp with
    | true =>
     have l17 := l17.trans (congrArg (fun b => some (Value.bool b)) hp)
     refine ⟨h,?_,Ext.refl h⟩
     simp only [pacS,paeM,pajU,qY,Nat.zero_add,qZ,l16,qQ,pagL,qW,cond_false,pakH,l18,ne,Bool.not_true,l17,cond_true,Bool.false_eq_true,if_false,if_true,if_pos hz]
     rfl
    | false =>
     have l17 := l17.trans (congrArg (fun b => some (Value.bool b)) hp)
     obtain ⟨h',e,x⟩ := d55 ka va ok k L hB bd b n (by omega)
     refine ⟨h',?_,x⟩
     simp only [pacS,paeM,pajU,qY,Nat.zero_add,qZ,l16,qQ,pagL,qW,cond_false,pakH,l18,ne,Bool.not_true,l17,e,Bool.false_eq_true,if_false,if_pos hz]
  · rw [decide_eq_false hz] at ne
    refine ⟨h,?_,Ext.refl h⟩
    simp only [pacS,paeM,pajU,qY,Nat.zero_add,qZ,l16,qQ,pagL,qW,cond_false,pakH,l18,ne,Bool.not_false,cond_true,Bool.false_eq_true,if_false,if_neg hz]
    rfl
theorem b55 (k L : Nat) {t : Nat} {p : Pq} {es : List Sb} {w : Value} (hB : Ext B h) (bd : Bd p es) (b : BQ h t p w) (n : Nat) (hn : n ≤ 350) :
 ∃ h',paaY (callO prog 4 Q (k + 900)) L (ptrV t) (.int .i64 (n : Int)) h (fun x2 h => some (x2,h)) = some (optV (match wilO nm p n with | none => none | some n => match usrO p n with | none => none | some n => match pasO p n with | none => none | some n => if val p.user then some n else none),h') ∧ Ext h h' := by
 have l11 := b.ld (i := 11) rfl
 have l12 := b.ld (i := 12) rfl
 have lw : A.load true 4 (.pointer (some ⟨t,12,none⟩)) h = some (.agg ⟨[str p.wt,str p.wp,.int .u8 (p.wq : Int),.bool p.wr]⟩) := by rw [loadN_eq,b.1]; rfl
 unfold wilO
 cases hw : p.will with
 | true =>
  have l11 := l11.trans (congrArg (fun b => some (Value.bool b)) hw)
  obtain ⟨h1,e1,x1⟩ := ok.nm k h p.wt hB bd.wt
  have b1 := b.ext x1
  have l12' := b1.ld (i := 12) rfl
  have l13 := b1.ld (i := 13) rfl
  have l14 := b1.ld (i := 14) rfl
  have hwt := bd.wt
  have hwp := bd.wp
  have dp : decide ((65535 : Int) < (p.wp.length : Int)) = false := decide_eq_false (by omega)
  have w2 : IntKind.i64.wrap (4 + (p.wt.length : Int)) = ((4 + p.wt.length : Nat) : Int) := by rw [wrap64 (by omega) (by omega)]; omega
  have w3 : IntKind.i64.wrap (((4 + p.wt.length : Nat) : Int) + (p.wp.length : Int)) = ((4 + p.wt.length + p.wp.length : Nat) : Int) := by rw [wrap64 (by omega) (by omega)]; omega
  have w4 : IntKind.i64.wrap ((n : Int) + ((4 + p.wt.length + p.wp.length : Nat) : Int)) = ((n + (4 + p.wt.length + p.wp.length) : Nat) : Int) := by rw [wrap64 (by omega) (by omega)]; omega
  cases hn1 : nm p.wt with
  | false =>
   rw [hn1] at e1
   refine ⟨h1,?_,x1⟩
   simp only [paaY,pacW,paiZ,qY,Nat.zero_add,Nat.add_zero,Nat.reduceAdd,qZ,l11,qQ,padT,qW,cond_true,paeY,pagK,palZ,l12,e1,qX,un_not,Bool.not_false,pamA,if_true,Bool.false_eq_true,if_false]
   rfl
  | true =>
   rw [hn1] at e1
   by_cases hq : 2 < p.wq
   · have dq : decide ((2 : Int) < (p.wq : Int)) = true := decide_eq_true (by omega)
     refine ⟨h1,?_,x1⟩
     simp only [paaY,pacW,paiZ,qY,Nat.zero_add,Nat.add_zero,Nat.reduceAdd,qZ,l11,qQ,padT,qW,cond_true,cond_false,paeY,pagK,palZ,l12,e1,qX,un_not,Bool.not_true,l13,qJ,zY,dp,l14,dq,pamA,if_true,if_pos hq]
     rfl
   · have dq : decide ((2 : Int) < (p.wq : Int)) = false := decide_eq_false (by omega)
     obtain ⟨h',e,x⟩ := c55 ka va ok k L (hB.trans x1) bd b1 (n + (4 + p.wt.length + p.wp.length)) (by omega)
     refine ⟨h',?_,x1.trans x⟩
     simp only [paaY,pacW,paiZ,qY,Nat.zero_add,Nat.add_zero,Nat.reduceAdd,qZ,l11,qQ,padT,qW,cond_true,cond_false,paeY,pagK,palZ,l12,e1,qX,un_not,Bool.not_true,l13,qJ,zY,dp,l14,dq,pamA,paqF,l12',bin_add,w2,w3,w4,e,if_true,if_neg hq]
 | false =>
  have l11 := l11.trans (congrArg (fun b => some (Value.bool b)) hw)
  have bl : A.build AnB.Z36L [] = some (.agg ⟨[str [],str [],.int .u8 0,.bool false]⟩) := by kernel_rfl
  have ne := will_ne p
  cases hz : wz p with
  | true =>
   rw [hz] at ne
   obtain ⟨h',e,x⟩ := c55 ka va ok k L hB bd b n (by omega)
   refine ⟨h',?_,x⟩
   simp only [paaY,pacW,paiZ,qY,Nat.zero_add,Nat.add_zero,qZ,l11,qQ,padT,qW,cond_false,panL,lw,bl,ne,Bool.not_true,e,Bool.false_eq_true,if_false,if_true]
  | false =>
   rw [hz] at ne
   refine ⟨h,?_,Ext.refl h⟩
   simp only [paaY,pacW,paiZ,qY,Nat.zero_add,Nat.add_zero,qZ,l11,qQ,padT,qW,cond_false,panL,lw,bl,ne,Bool.not_false,cond_true,Bool.false_eq_true,if_false]
   rfl
theorem T55q (k : Nat) {p : Pq} {es : List Sb} {w : Value} (hw : cellsL w = some [w]) (hB : Ext B h) (bd : Bd p es) :
 ∃ h',callO prog 4 Q (k + 901) 55 [.agg ⟨p.cells w⟩] h = some (optV (conO val nm p),h') ∧ Ext h h' := by
 rw [F55eq Q (k + 900) _ h (ka.kn.fr 55 _ (by decide))]
 obtain ⟨ha,ea,b,x,_⟩ := box_pq p hw h
 have l7 := b.ld (i := 7) rfl
 have l10 := b.ld (i := 10) rfl
 unfold conO
 by_cases h4 : p.level = 4
 · have d4 : decide ((p.level : Int) = 4) = true := decide_eq_true (by omega)
   obtain ⟨h1,e1,x1⟩ := va.va (k + 500) ha p.client (hB.trans x) bd.client
   have e1 : callO prog 4 Q (k + 900) 77 [str p.client] ha = _ := e1
   rw [if_pos h4]
   cases hv : val p.client with
   | false =>
    rw [hv] at e1
    refine ⟨h1,?_,x.trans x1⟩
    simp only [F55,p55a,pakF,ea,qX,pakG,qY,Nat.zero_add,qZ,l7,bin_neq,d4,Bool.not_true,qQ,cond_false,l10,e1,un_not,Bool.not_false,cond_true,Bool.false_eq_true,if_false]
    rfl
   | true =>
    rw [hv] at e1
    have b1 := b.ext x1
    have l10' := b1.ld (i := 10) rfl
    have hcl := bd.client
    have w1 : IntKind.i64.wrap (12 + (p.client.length : Int)) = ((12 + p.client.length : Nat) : Int) := by rw [wrap64 (by omega) (by omega)]; omega
    obtain ⟨h2,e2,x2⟩ := b55 ka va ok k (k + 900) ((hB.trans x).trans x1) bd b1 (12 + p.client.length) (by omega)
    refine ⟨h2,?_,(x.trans x1).trans x2⟩
    rw [if_pos rfl]
    simp only [F55,p55a,pakF,ea,qX,pakG,qY,Nat.zero_add,qZ,l7,bin_neq,d4,Bool.not_true,qQ,cond_false,l10,e1,un_not,panK,l10',qJ,bin_add,w1]
    exact e2
 · have d4 : decide ((p.level : Int) = 4) = false := decide_eq_false (by omega)
   rw [if_neg h4]
   refine ⟨ha,?_,x⟩
   simp only [F55,p55a,pakF,ea,qX,pakG,qY,Nat.zero_add,qZ,l7,bin_neq,d4,Bool.not_false,qQ,cond_true]
   rfl
theorem conO_le {p : Pq} {es : List Sb} (bd : Bd p es) {n : Nat} (e : conO val nm p = some n) : n ≤ 5000 := by
 have _ := ka
 have _ := va
 have _ := ok
 have h1 := bd.client
 unfold conO at e
 split at e
 · split at e
   · split at e
     · cases e
     · rename_i a ea
       split at e
       · cases e
       · rename_i b eb
         split at e
         · cases e
         · rename_i c ec
           have := wilO_le ea bd.wt bd.wp
           have := usrO_le eb bd.user
           have := pasO_le ec bd.pass
           split at e
           · cases e; omega
           · cases e
   · cases e
 · cases e
end
end Go.Proofs.YtfodhidpefednaaGreatDoor.An
