import Derived.Test.YtfodhidpefednaaGreatDoorRi
import Derived.Test.YtfodhidpefednaaGreatDoorAnE
namespace Go.Proofs.YtfodhidpefednaaGreatDoor.An
open Tryz (prog)
open Go Go.AM AnA AnB AnC AnE
def pubO (nm : List UInt8 → Bool) (p : Pq) : Option Nat :=
 if nm p.topic then
  if 2 < p.qos then none
  else if 0 < p.qos ∧ 0 < p.id then some (2 + p.topic.length + p.payload.length + 2)
  else if 0 < p.qos ∨ 0 < p.id ∨ p.dup = true then none
  else some (2 + p.topic.length + p.payload.length)
 else none
def suL (fi : List UInt8 → Bool) (most more : Nat) : List Sb → Nat → Option Nat
 | [],n => some n
 | s :: l,n => if fi s.1 then (if most < s.2 then none else suL fi most more l (n + (2 + s.1.length + more))) else none
def subO (fi : List UInt8 → Bool) (p : Pq) (es : List Sb) : Option Nat :=
 match idO p with
 | none => none
 | some n => if es = [] then none else suL fi (mostN p.kind) (moreN p.kind) es n
def okc (c : UInt8) : Bool := decide (c.toNat ≤ 2 ∨ c.toNat = 128)
def codO (p : Pq) : Option Nat :=
 match idO p with
 | none => none
 | some n => if p.codes = [] then none else if p.codes.all okc then some (n + p.codes.length) else none
theorem suL_le (fi : List UInt8 → Bool) (most more : Nat) (hm : more ≤ 1) : ∀ (l : List Sb) (n m : Nat),(∀ s ∈ l,s.1.length ≤ 300 ∧ s.2 < 256) → suL fi most more l n = some m → m ≤ n + 303 * l.length
 | [],n,m,_,e => by cases e; simp
 | s :: l,n,m,hl,e => by
  have e : (if fi s.1 then (if most < s.2 then none else suL fi most more l (n + (2 + s.1.length + more))) else none) = some m := e
  split at e
  · split at e
    · cases e
    · have := suL_le fi most more hm l _ m (fun s hs => hl s (List.mem_cons_of_mem _ hs)) e
      have := (hl s (List.mem_cons_self ..)).1
      rw [List.length_cons]
      omega
  · cases e
theorem more_le (k : Nat) : moreN k ≤ 1 := by unfold moreN; split <;> omega
theorem idO_le {p : Pq} {n : Nat} (e : idO p = some n) : n = 2 := by
 unfold idO at e
 split at e
 · cases e
 · cases e; rfl
section
variable {Q : Orc} {B : H} {val nm fi : List UInt8 → Bool} (ka : KnA Q) (va : VA Q B val) (ok : OK3 Q B nm fi) {h : H}
include ka va ok
theorem T56q (k : Nat) {p : Pq} {es : List Sb} {w : Value} (hw : cellsL w = some [w]) (hB : Ext B h) (bd : Bd p es) :
 ∃ h',callO prog 4 Q (k + 901) 56 [.agg ⟨p.cells w⟩] h = some (optV (pubO nm p),h') ∧ Ext h h' := by
 have _ := va
 rw [F56eq Q (k + 900) _ h (ka.kn.fr 56 _ (by decide))]
 obtain ⟨ha,ea,b,x,_⟩ := box_pq p hw h
 have l5 := b.ld (i := 5) rfl
 obtain ⟨h1,e1,x1⟩ := ok.nm k ha p.topic (hB.trans x) bd.topic
 have b1 := b.ext x1
 have l5' := b1.ld (i := 5) rfl
 have l6 := b1.ld (i := 6) rfl
 have l2 := b1.ld (i := 2) rfl
 have l4 := b1.ld (i := 4) rfl
 have ld := b1.ld (i := 1) rfl
 unfold pubO
 refine ⟨h1,?_,x.trans x1⟩
 cases hn : nm p.topic with
 | false =>
  rw [hn] at e1
  simp only [F56,p56a,pakK,ea,qX,pabX,pakL,qY,Nat.zero_add,qZ,l5,e1,qQ,un_not,Bool.not_false,cond_true,Bool.false_eq_true,if_false]
  rfl
 | true =>
  rw [hn] at e1
  rw [if_pos rfl]
  have ht := bd.topic
  have hp := bd.payload
  by_cases hq : 2 < p.qos
  · have dq : decide ((2 : Int) < (p.qos : Int)) = true := decide_eq_true (by omega)
    rw [if_pos hq]
    simp only [F56,p56a,pakK,ea,qX,pabX,pakL,qY,Nat.zero_add,qZ,l5,e1,qQ,un_not,Bool.not_true,cond_false,l2,zY,dq,cond_true]
    rfl
  · have dq : decide ((2 : Int) < (p.qos : Int)) = false := decide_eq_false (by omega)
    rw [if_neg hq]
    have w1 : IntKind.i64.wrap (2 + (p.topic.length : Int)) = ((2 + p.topic.length : Nat) : Int) := by rw [wrap64 (by omega) (by omega)]; omega
    have w2 : IntKind.i64.wrap (((2 + p.topic.length : Nat) : Int) + (p.payload.length : Int)) = ((2 + p.topic.length + p.payload.length : Nat) : Int) := by rw [wrap64 (by omega) (by omega)]; omega
    have w3 : IntKind.i64.wrap (((2 + p.topic.length + p.payload.length : Nat) : Int) + 2) = ((2 + p.topic.length + p.payload.length + 2 : Nat) : Int) := by rw [wrap64 (by omega) (by omega)]; omega
    have hd : ∀ kr : Value → H → Option (Value × H),pabX (callO prog 4 Q (k + 900)) (k + 900) (ptrV h.next) ha kr = pacR (callO prog 4 Q (k + 900)) (k + 900) (ptrV h.next) (.int .i64 ((2 + p.topic.length + p.payload.length : Nat) : Int)) h1 kr := by
     intro kr
     simp only [pabX,pakL,qY,Nat.zero_add,qZ,qX,l5,e1,qQ,un_not,Bool.not_true,cond_false,l2,zY,dq,panM,l5',qJ,bin_add,w1,l6,w2]
    simp only [F56,p56a,pakK,ea,qX]
    rw [hd]
    by_cases q0 : 0 < p.qos
    · have d1 : decide ((0 : Int) < (p.qos : Int)) = true := decide_eq_true (by omega)
      by_cases i0 : 0 < p.id
      · have d2 : decide ((0 : Int) < (p.id : Int)) = true := decide_eq_true (by omega)
        rw [if_pos ⟨q0,i0⟩]
        simp only [pacR,padK,pajA,qY,Nat.zero_add,qZ,l2,zY,d1,qQ,cond_true,l4,d2,paeN,qW,paqG,bin_add,w3]
        rfl
      · have d2 : decide ((0 : Int) < (p.id : Int)) = false := decide_eq_false (by omega)
        rw [if_neg (fun c => i0 c.2),if_pos (.inl q0)]
        simp only [pacR,padK,pajA,qY,Nat.zero_add,qZ,l2,zY,d1,qQ,cond_true,l4,d2,paeN,qW,cond_false,pafU,pakM,pakN]
        rfl
    · have d1 : decide ((0 : Int) < (p.qos : Int)) = false := decide_eq_false (by omega)
      rw [if_neg (fun c => q0 c.1)]
      by_cases i0 : 0 < p.id
      · have d2 : decide ((0 : Int) < (p.id : Int)) = true := decide_eq_true (by omega)
        rw [if_pos (.inr (.inl i0))]
        simp only [pacR,padK,pajA,qY,Nat.zero_add,qZ,l2,zY,d1,qQ,cond_true,l4,d2,paeN,qW,cond_false,pafU,pakM,pakN]
        rfl
      · have d2 : decide ((0 : Int) < (p.id : Int)) = false := decide_eq_false (by omega)
        cases hd : p.dup with
        | true =>
         have ld := ld.trans (congrArg (fun b => some (Value.bool b)) hd)
         rw [if_pos (.inr (.inr rfl))]
         simp only [pacR,padK,pajA,qY,Nat.zero_add,qZ,l2,zY,d1,qQ,cond_true,l4,d2,ld,paeN,qW,cond_false,pafU,pakM,pakN]
         rfl
        | false =>
         have ld := ld.trans (congrArg (fun b => some (Value.bool b)) hd)
         rw [if_neg (by intro c; rcases c with c | c | c; exact q0 c; exact i0 c; cases c)]
         simp only [pacR,padK,pajA,qY,Nat.zero_add,qZ,l2,zY,d1,qQ,l4,d2,ld,paeN,qW,cond_false,pafU,pakM,pakN,paqH]
         rfl
theorem lp58 (k L : Nat) {most more : Nat} (hmo : more ≤ 1) {w : Value} {l : List Sb} (hl : l.length ≤ 300) (hs : ∀ s ∈ l,s.1.length ≤ 300 ∧ s.2 < 256) :
 ∀ (d i m : Nat) (h : H) (a : Nat),i + d = l.length → d < m → Ext B h → SliceE 2 h w (l.map sbC) → a ≤ i * 303 + 100 →
  ∃ h',paiB (callO prog 4 Q (k + 900)) L (fun x2 h => some (x2,h)) (fun x2 h => some (x2,h)) m (.int .i64 (l.length : Int)) (.int .i64 (i : Int)) (.int .i64 (more : Int)) (.int .u8 (most : Int)) w (.int .i64 (a : Int)) h = some (optV (suL fi most more (l.drop i) a),h') ∧ Ext h h' := by
 have _ := ka
 have _ := va
 intro d
 induction d with
 | zero =>
  intro i m h a hi hm hB sl ha
  obtain ⟨m,rfl⟩ : ∃ r,m = r + 1 := ⟨m - 1,by omega⟩
  have hd : decide ((i : Int) < (l.length : Int)) = false := by rw [decide_eq_false_iff_not]; omega
  have hdr : l.drop i = [] := List.drop_eq_nil_of_le (by omega)
  rw [hdr]
  refine ⟨h,?_,Ext.refl h⟩
  simp only [paiB,paeO,pajV,zZ,hd,qZ,pajW,qW,cond_false]
  rfl
 | succ d ih =>
  intro i m h a hi hm hB sl ha
  obtain ⟨m,rfl⟩ : ∃ r,m = r + 1 := ⟨m - 1,by omega⟩
  have hd : decide ((i : Int) < (l.length : Int)) = true := by rw [decide_eq_true_iff]; omega
  have hil : i < l.length := by omega
  obtain ⟨s,hsi⟩ : ∃ s,l[i]? = some s := ⟨l[i],List.getElem?_eq_getElem hil⟩
  obtain ⟨hs1,hs2⟩ := hs s (List.mem_of_getElem? hsi)
  rw [drop_cons hsi]
  obtain ⟨id,off,cells,own,ix,_,hg,h4,h5,_⟩ := sl.at (i := i) (e := sbC s) (by rw [List.getElem?_map,hsi]; rfl) .i64
  have ld : A.load true 2 (.pointer (some ⟨id,off,none⟩)) h = some (.agg ⟨sbC s⟩) := load_of hg h4 h5
  obtain ⟨h1,hh1⟩ : ∃ h1,h1 = h.push (.cells AnB.Z120L (some 0)) := ⟨_,rfl⟩
  have e1 : A.box 2 AnB.Z120 h = some (ptrV h.next,h1) := by rw [hh1]; rfl
  obtain ⟨h2,hh2⟩ : ∃ h2,h2 = h1.put h.next (.cells (sbC s) (some 0)) := ⟨_,rfl⟩
  have g1 : h1.get h.next = some (.cells AnB.Z120L (some 0)) := by rw [hh1,H.get_push,if_pos rfl]
  have hcl : cellsL (.agg ⟨sbC s⟩) = some (sbC s) := rfl
  have e2 : A.store 2 (ptrV h.next) (.agg ⟨sbC s⟩) h1 = some h2 := by
   rw [qU,g1,hcl,hh2]; rfl
  have x2 : Ext h h2 := by rw [hh2]; exact (hh1 ▸ Ext.push h _ : Ext h h1).put _ _ (Nat.le_refl _)
  have g2 : h2.get h.next = some (.cells (sbC s) (some 0)) := by rw [hh2,H.get_put,if_pos rfl]
  have n2 : h.next < h2.next := by rw [hh2,hh1]; exact Nat.lt_succ_self _
  have l0 : A.load false 1 (.pointer (some ⟨h.next,0,none⟩)) h2 = some (str s.1) := by rw [qK,g2]; rfl
  obtain ⟨h3,e3,x3⟩ := ok.fi k h2 s.1 (hB.trans x2) hs1
  have g3 : h3.get h.next = some (.cells (sbC s) (some 0)) := by rw [x3.get _ n2]; exact g2
  have l0' : A.load false 1 (.pointer (some ⟨h.next,0,none⟩)) h3 = some (str s.1) := by rw [qK,g3]; rfl
  have l1 : A.load false 1 (.pointer (some ⟨h.next,1,none⟩)) h3 = some (.int .u8 (s.2 : Int)) := by rw [qK,g3]; rfl
  have w1 : IntKind.i64.wrap (2 + (s.1.length : Int)) = ((2 + s.1.length : Nat) : Int) := by rw [wrap64 (by omega) (by omega)]; omega
  have w2 : IntKind.i64.wrap (((2 + s.1.length : Nat) : Int) + (more : Int)) = ((2 + s.1.length + more : Nat) : Int) := by rw [wrap64 (by omega) (by omega)]; omega
  have w3 : IntKind.i64.wrap ((a : Int) + ((2 + s.1.length + more : Nat) : Int)) = ((a + (2 + s.1.length + more) : Nat) : Int) := by rw [wrap64 (by omega) (by omega)]; omega
  have hwr : IntKind.i64.wrap ((i : Int) + 1) = ((i + 1 : Nat) : Int) := wrap_succ (by omega)
  cases hf : fi s.1 with
  | false =>
   rw [hf] at e3
   refine ⟨h3,?_,x2.trans x3⟩
   rw [show suL fi most more (s :: l.drop (i + 1)) a = none by simp [suL,hf]]
   simp only [paiB,paeO,pajV,zZ,hd,qZ,pajW,qW,cond_true,pamC,ix,ld,e1,qX,e2,qY,Nat.zero_add,l0,e3,qQ,un_not,Bool.not_false]
   rfl
  | true =>
   rw [hf] at e3
   by_cases hq : most < s.2
   · have dq : decide ((most : Int) < (s.2 : Int)) = true := decide_eq_true (by omega)
     refine ⟨h3,?_,x2.trans x3⟩
     rw [show suL fi most more (s :: l.drop (i + 1)) a = none by simp [suL,hf,hq]]
     simp only [paiB,paeO,pajV,zZ,hd,qZ,pajW,qW,cond_true,cond_false,pamC,ix,ld,e1,qX,e2,qY,Nat.zero_add,l0,e3,qQ,un_not,Bool.not_true,l1,zY,dq]
     rfl
   · have dq : decide ((most : Int) < (s.2 : Int)) = false := decide_eq_false (by omega)
     obtain ⟨h',e,y⟩ := ih (i + 1) m h3 (a + (2 + s.1.length + more)) (by omega) (by omega) ((hB.trans x2).trans x3) ((sl.ext x2).ext x3) (by omega)
     refine ⟨h',?_,(x2.trans x3).trans y⟩
     rw [show suL fi most more (s :: l.drop (i + 1)) a = suL fi most more (l.drop (i + 1)) (a + (2 + s.1.length + more)) by simp only [suL,hf,if_true,if_neg hq]]
     simp only [paiB,paeO,pajV,zZ,hd,qZ,pajW,qW,cond_true,pamC,ix,ld,e1,qX,e2,qY,Nat.zero_add,l0,e3,qQ,un_not,Bool.not_true,cond_false,l1,zY,dq,l0',qJ,bin_add,w1,w2,w3,paqJ,hwr]
     exact e
theorem T58q (k : Nat) {p : Pq} {es : List Sb} {w : Value} (hw : cellsL w = some [w]) (hB : Ext B h) (bd : Bd p es) (sl : SliceE 2 h w (es.map sbC)) :
 ∃ h',callO prog 4 Q (k + 901) 58 [.agg ⟨p.cells w⟩] h = some (optV (subO fi p es),h') ∧ Ext h h' := by
 rw [F58eq Q (k + 900) _ h (ka.kn.fr 58 _ (by decide))]
 obtain ⟨ha,ea,b,x,_⟩ := box_pq p hw h
 obtain ⟨hb,eb,y⟩ := T57q ka (k + 899) ha p hw
 have eb : callO prog 4 Q (k + 900) 57 [.agg ⟨p.cells w⟩] ha = _ := eb
 have b2 := b.ext y
 have l0 := b2.ld (i := 0) rfl
 have l22 := b2.ld (i := 22) rfl
 have slb := (sl.ext x).ext y
 have hlen : A.lenS w = some (.int .i64 (es.length : Int)) := by have := slb.len.1; rwa [List.length_map] at this
 have step : ∀ (v : Value) (K : Value → Value → Value → Value → H → Option (Value × H)),padP (callO prog 4 Q (k + 900)) (k + 900) (ptrV h.next) (.int .i64 1) (.int .u8 2) v hb K = K (ptrV h.next) (.int .i64 (moreN p.kind : Int)) (.int .u8 (mostN p.kind : Int)) v hb := by
  intro v K
  unfold moreN mostN
  by_cases h10 : p.kind = 10
  · have d : decide ((p.kind : Int) = 10) = true := deq (by omega)
    rw [if_pos h10,if_pos h10]
    simp only [padP,qY,Nat.zero_add,qZ,l0,zQ,d,qQ,cond_true]
    rfl
  · have d : decide ((p.kind : Int) = 10) = false := dne (by omega)
    rw [if_neg h10,if_neg h10]
    simp only [padP,qY,Nat.zero_add,qZ,l0,zQ,d,qQ,cond_false]
    rfl
 unfold subO
 cases hid : idO p with
 | none =>
  rw [hid] at eb
  have eb : callO prog 4 Q (k + 900) 57 [.agg ⟨p.cells w⟩] ha = some (.int .i64 (-1),hb) := eb
  have c2 : decide ((-1 : Int) < 0) = true := rfl
  refine ⟨hb,?_,x.trans y⟩
  simp only [F58,p58a,pahZ,ea,qX,paiA,b.all,qZ,eb]
  rw [step]
  simp only [pamB,zZ,c2,qZ,qQ,cond_true]
  rfl
 | some n =>
  have hn := idO_le hid
  subst hn
  rw [hid] at eb
  have eb : callO prog 4 Q (k + 900) 57 [.agg ⟨p.cells w⟩] ha = some (.int .i64 2,hb) := eb
  have c2 : decide ((2 : Int) < 0) = false := rfl
  by_cases hz : es = []
  · have dz : decide ((es.length : Int) = 0) = true := by rw [hz]; rfl
    refine ⟨hb,?_,x.trans y⟩
    simp only [if_pos hz]
    simp only [F58,p58a,pahZ,ea,qX,paiA,b.all,qZ,eb]
    rw [step]
    simp only [pamB,zZ,c2,qZ,qQ,cond_false,qY,Nat.zero_add,l22,hlen,zQ,dz,cond_true]
    rfl
  · have hpos : 0 < es.length := Nat.pos_of_ne_zero (fun e => hz (List.eq_nil_of_length_eq_zero e))
    have dz : decide ((es.length : Int) = 0) = false := by rw [decide_eq_false_iff_not]; omega
    obtain ⟨h',e,z⟩ := lp58 ka va ok k (k + 900) (most := mostN p.kind) (more_le p.kind) bd.len bd.es es.length 0 (k + 900) hb 2 (by omega) (by have := bd.len; omega) ((hB.trans x).trans y) slb (by omega)
    rw [List.drop_zero] at e
    refine ⟨h',?_,(x.trans y).trans z⟩
    simp only [if_neg hz]
    simp only [F58,p58a,pahZ,ea,qX,paiA,b.all,qZ,eb]
    rw [step]
    generalize k + 900 = M at e ⊢
    simp only [pamB,zZ,c2,qZ,qQ,cond_false,qY,Nat.zero_add,l22,hlen,zQ,dz,pacZ,paqI,padN,paqK]
    exact e
theorem subO_le {p : Pq} {es : List Sb} (bd : Bd p es) {n : Nat} (e : subO fi p es = some n) : n ≤ 100000 := by
 have _ := ka
 have _ := va
 have _ := ok
 unfold subO at e
 split at e
 · cases e
 · rename_i a ea
   have := idO_le ea
   split at e
   · cases e
   · have := suL_le fi _ _ (more_le p.kind) es a n bd.es e
     have := bd.len
     omega
end
end Go.Proofs.YtfodhidpefednaaGreatDoor.An

namespace Go.Proofs.YtfodhidpefednaaGreatDoor.An
open Tryz (prog)
open Go Go.AM AnA AnB AnC AnE
def Pq.F (p : Pq) (w : Value) : PkF where
 i := fun n => if n = 0 then p.kind else if n = 2 then p.qos else if n = 4 then p.id else if n = 7 then p.level else if n = 9 then p.keep else if n = 14 then p.wq else if n = 21 then p.code else 0
 b := fun n => if n = 1 then p.dup else if n = 3 then p.retain else if n = 8 then p.clean else if n = 11 then p.will else if n = 15 then p.wr else if n = 16 then p.hu else if n = 17 then p.hp else if n = 20 then p.present else false
 s := fun n => if n = 5 then ⟨⟨p.topic⟩⟩ else if n = 6 then ⟨⟨p.payload⟩⟩ else if n = 10 then ⟨⟨p.client⟩⟩ else if n = 12 then ⟨⟨p.wt⟩⟩ else if n = 13 then ⟨⟨p.wp⟩⟩ else if n = 18 then ⟨⟨p.user⟩⟩ else if n = 19 then ⟨⟨p.pass⟩⟩ else if n = 23 then ⟨⟨p.codes⟩⟩ else ⟨⟨[]⟩⟩
 w := w
noncomputable def pe (f g : PkF) : Bool := (A.eqV prog 20 150 (.agg ⟨plainF f⟩) (.agg ⟨plainF g⟩)).getD false
theorem pe_refl (f : PkF) : pe f f = true := by unfold pe; rw [plain_refl]; rfl
theorem sbit (b r : Bool) : (bif b then some r else some false) = some (b && r) := by cases b <;> rfl
theorem pe_some (f g : PkF) : A.eqV prog 20 150 (.agg ⟨plainF f⟩) (.agg ⟨plainF g⟩) = some (pe f g) := by
 have e : A.eqV prog 20 150 (.agg ⟨plainF f⟩) (.agg ⟨plainF g⟩) = (bif (f.i 0 == g.i 0) then (bif (f.i 2 == g.i 2) then (bif (f.i 7 == g.i 7) then (bif (f.i 21 == g.i 21) then (bif (f.b 1 == g.b 1) then (bif (f.b 3 == g.b 3) then (bif (f.b 8 == g.b 8) then (bif (f.b 11 == g.b 11) then (bif (f.b 16 == g.b 16) then (bif (f.b 17 == g.b 17) then (bif (f.b 20 == g.b 20) then (bif (f.i 4 == g.i 4) then (bif (f.i 9 == g.i 9) then (bif ((f.s 5).data.toList == (g.s 5).data.toList) then (bif ((f.s 6).data.toList == (g.s 6).data.toList) then (bif ((f.s 10).data.toList == (g.s 10).data.toList) then (bif ((f.s 18).data.toList == (g.s 18).data.toList) then (bif ((f.s 19).data.toList == (g.s 19).data.toList) then (bif ((f.s 23).data.toList == (g.s 23).data.toList) then (match (bif ((f.s 12).data.toList == (g.s 12).data.toList) then (bif ((f.s 13).data.toList == (g.s 13).data.toList) then (bif (f.i 14 == g.i 14) then (bif (f.b 15 == g.b 15) then some true else some false) else some false) else some false) else some false) with | some q => (bif q then some true else some false) | none => none) else some false) else some false) else some false) else some false) else some false) else some false) else some false) else some false) else some false) else some false) else some false) else some false) else some false) else some false) else some false) else some false) else some false) else some false) else some false) := by kernel_rfl
 have : ∃ r,A.eqV prog 20 150 (.agg ⟨plainF f⟩) (.agg ⟨plainF g⟩) = some r := by
  rw [e]
  simp only [sbit]
  exact ⟨_,rfl⟩
 obtain ⟨r,hr⟩ := this
 unfold pe
 rw [hr]; rfl
theorem pe_eql (f g : PkF) : A.bin prog .eql 150 (.agg ⟨plainF f⟩) (.agg ⟨plainF g⟩) = some (.bool (pe f g)) := bin_agg_eql rfl rfl (by kernel_rfl) (pe_some f g)
def bz (p : Pq) : Pq :=
 if p.kind = 1 then { zq 0 with level := p.level,clean := p.clean,keep := p.keep,client := p.client,will := p.will,wt := p.wt,wp := p.wp,wq := p.wq,wr := p.wr,hu := p.hu,hp := p.hp,user := p.user,pass := p.pass }
 else if p.kind = 2 then { zq 0 with present := p.present,code := p.code }
 else if p.kind = 3 then { zq 0 with dup := p.dup,qos := p.qos,retain := p.retain,id := p.id,topic := p.topic,payload := p.payload }
 else if p.kind = 9 then { zq 0 with id := p.id,codes := p.codes }
 else if p.kind = 12 ∨ p.kind = 13 ∨ p.kind = 14 then zq 0
 else { zq 0 with id := p.id }
noncomputable def bareB (p : Pq) (es : List Sb) : Bool :=
 if es ≠ [] ∧ p.kind ≠ 8 ∧ p.kind ≠ 10 then false else pe (p.F nilS) (({ bz p with kind := p.kind } : Pq).F nilS)
theorem same_pq (p : Pq) : AM.same (.agg ⟨p.cells nilS⟩) (.agg ⟨p.cells nilS⟩) = true := by
 simp [AM.same,AM.sameA,AM.sameL,Pq.cells,nilS]
theorem storeQ {h : H} {t : Nat} {p : Pq} (b : BQ h t p nilS) (q : Pq) : ∃ h',A.store 24 (ptrV t) (.agg ⟨q.cells nilS⟩) h = some h' ∧ BQ h' t q nilS ∧ ExtBut (fun i => i = t) h h' := by
 obtain ⟨h',hh⟩ : ∃ h',h' = h.put t (.cells (q.cells nilS) (some 0)) := ⟨_,rfl⟩
 refine ⟨h',?_,⟨by rw [hh,H.get_put,if_pos rfl],by rw [hh]; exact b.2⟩,by rw [hh]; exact ExtBut.put ⟨Nat.le_refl _,fun _ _ _ => rfl⟩ t _ rfl⟩
 have hcl : cellsL (.agg ⟨q.cells nilS⟩) = some (q.cells nilS) := rfl
 rw [qU,b.1,hcl,hh]; rfl
section
variable {Q : Orc} (ka : KnA Q) {h : H}
include ka
theorem T59q (k : Nat) {p : Pq} {es : List Sb} {w : Value} (hw : cellsL w = some [w]) (bd : Bd p es) :
 ∃ h',callO prog 4 Q (k + 901) 59 [.agg ⟨p.cells w⟩] h = some (optV (codO p),h') ∧ Ext h h' := by
 rw [F59eq Q (k + 900) _ h (ka.fr 59 _ (by decide))]
 obtain ⟨ha,ea,b,x,_⟩ := box_pq p hw h
 obtain ⟨hb,eb,y⟩ := T57q ka (k + 899) ha p hw
 have eb : callO prog 4 Q (k + 900) 57 [.agg ⟨p.cells w⟩] ha = _ := eb
 have b2 := b.ext y
 have l23 := b2.ld (i := 23) rfl
 have hc := bd.codes
 unfold codO
 refine ⟨hb,?_,x.trans y⟩
 cases hid : idO p with
 | none =>
  rw [hid] at eb
  have eb : callO prog 4 Q (k + 900) 57 [.agg ⟨p.cells w⟩] ha = some (.int .i64 (-1),hb) := eb
  have c2 : decide ((-1 : Int) < 0) = true := rfl
  simp only [F59,p59a,panN,ea,qX,panO,b.all,qZ,eb,panP,zZ,c2,qQ,cond_true]
  rfl
 | some n =>
  have hn := idO_le hid
  subst hn
  rw [hid] at eb
  have eb : callO prog 4 Q (k + 900) 57 [.agg ⟨p.cells w⟩] ha = some (.int .i64 2,hb) := eb
  have c2 : decide ((2 : Int) < 0) = false := rfl
  have st := str_eq9 p.codes []
  have st : A.bin prog .eql 9 (str p.codes) (.string ⟨⟨[]⟩⟩) = _ := st
  by_cases hz : p.codes = []
  · rw [decide_eq_true hz] at st
    simp only [if_pos hz]
    simp only [F59,p59a,panN,ea,qX,panO,b.all,qZ,eb,panP,zZ,c2,qQ,cond_false,qY,Nat.zero_add,l23,st,cond_true]
    rfl
  · rw [decide_eq_false hz] at st
    simp only [if_neg hz]
    have w1 : IntKind.i64.wrap (2 + (p.codes.length : Int)) = ((2 + p.codes.length : Nat) : Int) := by rw [wrap64 (by omega) (by omega)]; omega
    have lp : ∀ (d i m L : Nat),i + d = p.codes.length → d < m →
     pajB (callO prog 4 Q (k + 900)) L (fun x2 h => some (x2,h)) (fun x3 x1 h => paqM (callO prog 4 Q (k + 900)) L x3 x1 h (fun x2 h => some (x2,h))) m (.int .i64 (p.codes.length : Int)) (.int .i64 (i : Int)) (.int .i64 2) (ptrV h.next) hb = some (optV (if (p.codes.drop i).all okc then some (2 + p.codes.length) else none),hb) := by
     intro d
     induction d with
     | zero =>
      intro i m L hi hm
      obtain ⟨m,rfl⟩ : ∃ r,m = r + 1 := ⟨m - 1,by omega⟩
      have hd : decide ((i : Int) < (p.codes.length : Int)) = false := by rw [decide_eq_false_iff_not]; omega
      rw [List.drop_eq_nil_of_le (by omega : p.codes.length ≤ i)]
      simp only [pajB,pafA,pamD,zZ,hd,qZ,qQ,pamE,qW,cond_false,paqM,qY,Nat.zero_add,l23,qJ,bin_add,w1,List.all_nil,if_true]
      rfl
     | succ d ih =>
      intro i m L hi hm
      obtain ⟨m,rfl⟩ : ∃ r,m = r + 1 := ⟨m - 1,by omega⟩
      have hd : decide ((i : Int) < (p.codes.length : Int)) = true := by rw [decide_eq_true_iff]; omega
      obtain ⟨c,hci⟩ : ∃ c,p.codes[i]? = some c := ⟨_,List.getElem?_eq_getElem (by omega)⟩
      have ix := ixS hci
      have hwr : IntKind.i64.wrap ((i : Int) + 1) = ((i + 1 : Nat) : Int) := wrap_succ (by omega)
      rw [drop_cons hci,List.all_cons]
      have next := ih (i + 1) m L (by omega) (by omega)
      by_cases g2 : c.toNat ≤ 2
      · have dg : decide ((2 : Int) < (c.toNat : Int)) = false := decide_eq_false (by omega)
        have ho : okc c = true := decide_eq_true (.inl g2)
        rw [ho,Bool.true_and]
        simp only [pajB,pafA,pamD,zZ,hd,qZ,qQ,pamE,qW,cond_true,panQ,qY,Nat.zero_add,l23,ix,zY,dg,cond_false,paqL,bin_add,hwr]
        exact next
      · have dg : decide ((2 : Int) < (c.toNat : Int)) = true := decide_eq_true (by omega)
        by_cases g8 : c.toNat = 128
        · have d8 : decide ((c.toNat : Int) = 128) = true := decide_eq_true (by omega)
          have ho : okc c = true := decide_eq_true (.inr g8)
          rw [ho,Bool.true_and]
          simp only [pajB,pafA,pamD,zZ,hd,qZ,qQ,pamE,qW,cond_true,panQ,qY,Nat.zero_add,l23,ix,zY,dg,bin_neq,d8,Bool.not_true,cond_false,paqL,bin_add,hwr]
          exact next
        · have d8 : decide ((c.toNat : Int) = 128) = false := decide_eq_false (by omega)
          have ho : okc c = false := decide_eq_false (by omega)
          rw [ho,Bool.false_and]
          simp only [pajB,pafA,pamD,zZ,hd,qZ,qQ,pamE,qW,cond_true,panQ,qY,Nat.zero_add,l23,ix,zY,dg,bin_neq,d8,Bool.not_false,Bool.false_eq_true,if_false]
          rfl
    have lp := lp p.codes.length 0 (k + 900) (k + 900) (by omega) (by omega)
    rw [List.drop_zero] at lp
    generalize k + 900 = M at eb lp ⊢
    simp only [F59,p59a,panN,ea,qX,panO,b.all,qZ,eb,panP,zZ,c2,qQ,cond_false,qY,Nat.zero_add,l23,st,padL,patZ,qJ,paeA]
    exact lp
theorem codO_le {p : Pq} {es : List Sb} (bd : Bd p es) {n : Nat} (e : codO p = some n) : n ≤ 1000 := by
 have _ := ka
 have := bd.codes
 unfold codO at e
 split at e
 · cases e
 · rename_i a ea
   have := idO_le ea
   split at e
   · cases e
   · split at e
     · cases e; omega
     · cases e
theorem tail60 (k L : Nat) (p q : Pq) {w : Value} {t1 t3 : Nat} (b1 : BQ h t1 p w) (b3 : BQ h t3 q nilS) (hne : t1 ≠ t3) :
 ∃ h',pamG (callO prog 4 Q (k + 1)) L (ptrV t1) (ptrV t3) h (fun x2 h => some (x2,h)) = some (.bool (pe (p.F nilS) (({ q with kind := p.kind } : Pq).F nilS)),h') ∧ ExtBut (fun i => i = t3) h h' := by
 have l0 := b1.ld (i := 0) rfl
 obtain ⟨q',hq'⟩ : ∃ q' : Pq,q' = { q with kind := p.kind } := ⟨_,rfl⟩
 rw [← hq']
 obtain ⟨h1,hh1⟩ : ∃ h1,h1 = h.put t3 (.cells (q'.cells nilS) (some 0)) := ⟨_,rfl⟩
 have st : A.store 1 (.pointer (some ⟨t3,0,none⟩)) (.int .u8 (p.kind : Int)) h = some h1 := by
  rw [qU,b3.1,hh1,hq']; rfl
 have x1 : ExtBut (fun i => i = t3) h h1 := by rw [hh1]; exact ExtBut.put ⟨Nat.le_refl _,fun _ _ _ => rfl⟩ t3 _ rfl
 have c3 : BQ h1 t3 q' nilS := ⟨by rw [hh1,H.get_put,if_pos rfl],by rw [hh1]; exact b3.2⟩
 have c1 : BQ h1 t1 p w := b1.but x1 hne
 obtain ⟨h2,e2,x2⟩ := T143F ka.kn k h1 (p.F w)
 have e2 : callO prog 4 Q (k + 1) 80 [.agg ⟨p.cells w⟩] h1 = some (.agg ⟨plainF (p.F nilS)⟩,h2) := e2
 have d3 := c3.ext x2
 obtain ⟨h3,e3,x3⟩ := T143F ka.kn k h2 (q'.F nilS)
 have e3 : callO prog 4 Q (k + 1) 80 [.agg ⟨q'.cells nilS⟩] h2 = some (.agg ⟨plainF (q'.F nilS)⟩,h3) := e3
 have ck : chk (some (.agg ⟨q'.cells nilS⟩)) (.agg ⟨q'.cells nilS⟩) = true := chk1 (same_pq q')
 have pl := pe_eql (p.F nilS) (q'.F nilS)
 refine ⟨h3,?_,(x1.trans x2.but).trans x3.but⟩
 simp only [pamG,qY,Nat.zero_add,qZ,l0,st,c1.all,e2,qX,d3.all,c3.all,ck,Bool.and_true,cond_true,e3,pl,qQ]
theorem mid60 (C : CF) (L : Nat) {p : Pq} {w : Value} {t1 t3 : Nat} (b1 : BQ h t1 p w) (b3 : BQ h t3 (zq 0) nilS) (hne : t1 ≠ t3) :
 ∃ h3,(∀ K : Value → Value → H → Option (Value × H),paaH C L (ptrV t1) (ptrV t3) h K = K (ptrV t1) (ptrV t3) h3) ∧ BQ h3 t1 p w ∧ BQ h3 t3 (bz p) nilS ∧ ExtBut (fun i => i = t3) h h3 := by
 have _ := ka
 have l0 := b1.ld (i := 0) rfl
 have s := storeQ b3
 have w' : ∀ {q : Pq} {h3 : H},bz p = q → BQ h3 t3 q nilS → ExtBut (fun i => i = t3) h h3 → BQ h3 t1 p w ∧ BQ h3 t3 (bz p) nilS ∧ ExtBut (fun i => i = t3) h h3 := fun e b x => ⟨b1.but x hne,by rw [e]; exact b,x⟩
 have l1 := b1.ld (i := 1) rfl
 have l2 := b1.ld (i := 2) rfl
 have l3 := b1.ld (i := 3) rfl
 have l4 := b1.ld (i := 4) rfl
 have l5 := b1.ld (i := 5) rfl
 have l6 := b1.ld (i := 6) rfl
 have l7 := b1.ld (i := 7) rfl
 have l8 := b1.ld (i := 8) rfl
 have l9 := b1.ld (i := 9) rfl
 have l10 := b1.ld (i := 10) rfl
 have l11 := b1.ld (i := 11) rfl
 have l16 := b1.ld (i := 16) rfl
 have l17 := b1.ld (i := 17) rfl
 have l18 := b1.ld (i := 18) rfl
 have l19 := b1.ld (i := 19) rfl
 have l20 := b1.ld (i := 20) rfl
 have l21 := b1.ld (i := 21) rfl
 have l23 := b1.ld (i := 23) rfl
 have l12 : A.load true 4 (.pointer (some ⟨t1,12,none⟩)) h = some (.agg ⟨[str p.wt,str p.wp,.int .u8 (p.wq : Int),.bool p.wr]⟩) := by rw [loadN_eq,b1.1]; rfl
 by_cases k1 : p.kind = 1
 · have d1 : decide ((p.kind : Int) = 1) = true := deq (by omega)
   obtain ⟨h3,e,b,x⟩ := s { zq 0 with level := p.level,clean := p.clean,keep := p.keep,client := p.client,will := p.will,wt := p.wt,wp := p.wp,wq := p.wq,wr := p.wr,hu := p.hu,hp := p.hp,user := p.user,pass := p.pass }
   refine ⟨h3,fun K => ?_,w' (by unfold bz; rw [if_pos k1]) b x⟩
   have bd : A.build AnB.Z39L [(7,1,.int .u8 (p.level : Int)),(8,1,.bool p.clean),(9,1,.int .u16 (p.keep : Int)),(10,1,str p.client),(11,1,.bool p.will),(12,4,.agg ⟨[str p.wt,str p.wp,.int .u8 (p.wq : Int),.bool p.wr]⟩),(16,1,.bool p.hu),(17,1,.bool p.hp),(18,1,str p.user),(19,1,str p.pass)] = some (.agg ⟨({ zq 0 with level := p.level,clean := p.clean,keep := p.keep,client := p.client,will := p.will,wt := p.wt,wp := p.wp,wq := p.wq,wr := p.wr,hu := p.hu,hp := p.hp,user := p.user,pass := p.pass } : Pq).cells nilS⟩) := by kernel_rfl
   simp only [paaH,pahM,qY,Nat.zero_add,qZ,l0,paaM,pahN,zQ,d1,qQ,paaU,qW,cond_true,paqQ,l7,l8,l9,l10,l11,l12,l16,l17,l18,l19,bd,e]
 have d1 : decide ((p.kind : Int) = 1) = false := dne (by omega)
 by_cases k2 : p.kind = 2
 · have d2 : decide ((p.kind : Int) = 2) = true := deq (by omega)
   obtain ⟨h3,e,b,x⟩ := s { zq 0 with present := p.present,code := p.code }
   refine ⟨h3,fun K => ?_,w' (by unfold bz; rw [if_neg k1,if_pos k2]) b x⟩
   have bd : A.build AnB.Z39L [(20,1,.bool p.present),(21,1,.int .u8 (p.code : Int))] = some (.agg ⟨({ zq 0 with present := p.present,code := p.code } : Pq).cells nilS⟩) := by kernel_rfl
   simp only [paaH,pahM,qY,Nat.zero_add,qZ,l0,paaM,pahN,zQ,d1,d2,qQ,paaU,qW,cond_false,cond_true,paaZ,pahT,pabH,pauD,l20,l21,bd,e]
 have d2 : decide ((p.kind : Int) = 2) = false := dne (by omega)
 by_cases k3 : p.kind = 3
 · have d3 : decide ((p.kind : Int) = 3) = true := deq (by omega)
   obtain ⟨h3,e,b,x⟩ := s { zq 0 with dup := p.dup,qos := p.qos,retain := p.retain,id := p.id,topic := p.topic,payload := p.payload }
   refine ⟨h3,fun K => ?_,w' (by unfold bz; rw [if_neg k1,if_neg k2,if_pos k3]) b x⟩
   have bd : A.build AnB.Z39L [(1,1,.bool p.dup),(2,1,.int .u8 (p.qos : Int)),(3,1,.bool p.retain),(4,1,.int .u16 (p.id : Int)),(5,1,str p.topic),(6,1,str p.payload)] = some (.agg ⟨({ zq 0 with dup := p.dup,qos := p.qos,retain := p.retain,id := p.id,topic := p.topic,payload := p.payload } : Pq).cells nilS⟩) := by kernel_rfl
   simp only [paaH,pahM,qY,Nat.zero_add,qZ,l0,paaM,pahN,zQ,d1,d2,d3,qQ,paaU,qW,cond_false,cond_true,paaZ,pahT,pabH,pabS,paiD,pacI,paqP,l1,l2,l3,l4,l5,l6,bd,e]
 have d3 : decide ((p.kind : Int) = 3) = false := dne (by omega)
 by_cases k9 : p.kind = 9
 · have d9 : decide ((p.kind : Int) = 9) = true := deq (by omega)
   obtain ⟨h3,e,b,x⟩ := s { zq 0 with id := p.id,codes := p.codes }
   refine ⟨h3,fun K => ?_,w' (by unfold bz; rw [if_neg k1,if_neg k2,if_neg k3,if_pos k9]) b x⟩
   have bd : A.build AnB.Z39L [(4,1,.int .u16 (p.id : Int)),(23,1,str p.codes)] = some (.agg ⟨({ zq 0 with id := p.id,codes := p.codes } : Pq).cells nilS⟩) := by kernel_rfl
   simp only [paaH,pahM,qY,Nat.zero_add,qZ,l0,paaM,pahN,zQ,d1,d2,d3,d9,qQ,paaU,qW,cond_false,cond_true,paaZ,pahT,pabH,pabS,paiD,pacI,padE,paiS,paeF,pauC,l4,l23,bd,e]
 have d9 : decide ((p.kind : Int) = 9) = false := dne (by omega)
 by_cases k12 : p.kind = 12 ∨ p.kind = 13 ∨ p.kind = 14
 · have hbz : bz p = zq 0 := by unfold bz; rw [if_neg k1,if_neg k2,if_neg k3,if_neg k9,if_pos k12]
   refine ⟨h,fun K => ?_,b1,by rw [hbz]; exact b3,⟨Nat.le_refl _,fun _ _ _ => rfl⟩⟩
   rcases k12 with c | c | c
   · have d12 : decide ((p.kind : Int) = 12) = true := deq (by omega)
     simp only [paaH,pahM,qY,Nat.zero_add,qZ,l0,paaM,pahN,zQ,d1,d2,d3,d9,d12,qQ,paaU,qW,cond_false,cond_true,paaZ,pahT,pabH,pabS,paiD,pacI,padE,paiS,paeF,pafO,pajF,pajG]
   · have d12 : decide ((p.kind : Int) = 12) = false := dne (by omega)
     have d13 : decide ((p.kind : Int) = 13) = true := deq (by omega)
     simp only [paaH,pahM,qY,Nat.zero_add,qZ,l0,paaM,pahN,zQ,d1,d2,d3,d9,d12,d13,qQ,paaU,qW,cond_false,cond_true,paaZ,pahT,pabH,pabS,paiD,pacI,padE,paiS,paeF,pafO,pajF,pajG]
   · have d12 : decide ((p.kind : Int) = 12) = false := dne (by omega)
     have d13 : decide ((p.kind : Int) = 13) = false := dne (by omega)
     have d14 : decide ((p.kind : Int) = 14) = true := deq (by omega)
     simp only [paaH,pahM,qY,Nat.zero_add,qZ,l0,paaM,pahN,zQ,d1,d2,d3,d9,d12,d13,d14,qQ,paaU,qW,cond_false,cond_true,paaZ,pahT,pabH,pabS,paiD,pacI,padE,paiS,paeF,pafO,pajF,pajG]
 · have d12 : decide ((p.kind : Int) = 12) = false := dne (by omega)
   have d13 : decide ((p.kind : Int) = 13) = false := dne (by omega)
   have d14 : decide ((p.kind : Int) = 14) = false := dne (by omega)
   obtain ⟨h3,e,b,x⟩ := s { zq 0 with id := p.id }
   refine ⟨h3,fun K => ?_,w' (by unfold bz; rw [if_neg k1,if_neg k2,if_neg k3,if_neg k9,if_neg k12]) b x⟩
   have bd : A.build AnB.Z39L [(4,1,.int .u16 (p.id : Int))] = some (.agg ⟨({ zq 0 with id := p.id } : Pq).cells nilS⟩) := by kernel_rfl
   simp only [paaH,pahM,qY,Nat.zero_add,qZ,l0,paaM,pahN,zQ,d1,d2,d3,d9,d12,d13,d14,qQ,paaU,qW,cond_false,paaZ,pahT,pabH,pabS,paiD,pacI,padE,paiS,paeF,pafO,pajF,pajG,l4,bd,e]
theorem T60q (k : Nat) {p : Pq} {es : List Sb} {w : Value} (hw : cellsL w = some [w]) (sl : SliceE 2 h w (es.map sbC)) :
 ∃ h',callO prog 4 Q (k + 2) 60 [.agg ⟨p.cells w⟩] h = some (.bool (bareB p es),h') ∧ Ext h h' := by
 rw [F60eq Q (k + 1) _ h (ka.kn.fr 60 _ (by decide))]
 obtain ⟨h1,e1,b1,x1,n1⟩ := box_pq p hw h
 have l22 := b1.ld (i := 22) rfl
 have l0 := b1.ld (i := 0) rfl
 have hlen : A.lenS w = some (.int .i64 (es.length : Int)) := by have := sl.len.1; rwa [List.length_map] at this
 have stepA : ∀ (kr : Value → H → Option (Value × H)) (K : Value → H → Option (Value × H)),pafI (callO prog 4 Q (k + 1)) (k + 1) (ptrV h.next) h1 kr K = if es ≠ [] ∧ p.kind ≠ 8 ∧ p.kind ≠ 10 then kr (.bool false) h1 else K (ptrV h.next) h1 := by
  intro kr K
  by_cases hz : es = []
  · have d : decide ((0 : Int) < (es.length : Int)) = false := by rw [hz]; rfl
    rw [if_neg (fun c => c.1 hz)]
    simp only [pafI,pajD,qY,Nat.zero_add,qZ,l22,hlen,zY,d,qQ,cond_false,pajE,qW]
  · have hpos : 0 < es.length := Nat.pos_of_ne_zero (fun e => hz (List.eq_nil_of_length_eq_zero e))
    have d : decide ((0 : Int) < (es.length : Int)) = true := by rw [decide_eq_true_iff]; omega
    by_cases h8 : p.kind = 8
    · have d8 : decide ((p.kind : Int) = 8) = true := deq (by omega)
      rw [if_neg (fun c => c.2.1 h8)]
      simp only [pafI,pajD,qY,Nat.zero_add,qZ,l22,hlen,zY,d,qQ,cond_true,l0,bin_neq,d8,Bool.not_true,cond_false,pajE,qW]
    · have d8 : decide ((p.kind : Int) = 8) = false := dne (by omega)
      by_cases h10 : p.kind = 10
      · have d10 : decide ((p.kind : Int) = 10) = true := deq (by omega)
        rw [if_neg (fun c => c.2.2 h10)]
        simp only [pafI,pajD,qY,Nat.zero_add,qZ,l22,hlen,zY,d,qQ,cond_true,l0,bin_neq,d8,Bool.not_false,d10,Bool.not_true,pajE,qW,cond_false]
      · have d10 : decide ((p.kind : Int) = 10) = false := dne (by omega)
        rw [if_pos ⟨hz,h8,h10⟩]
        simp only [pafI,pajD,qY,Nat.zero_add,qZ,l22,hlen,zY,d,qQ,cond_true,l0,bin_neq,d8,Bool.not_false,d10,pajE,qW]
 unfold bareB
 by_cases hc : es ≠ [] ∧ p.kind ≠ 8 ∧ p.kind ≠ 10
 · refine ⟨h1,?_,x1⟩
   simp only [F60,p60a,paiC,e1,qX]
   rw [stepA,if_pos hc,if_pos hc]
 · obtain ⟨h2,hh2⟩ : ∃ h2,h2 = h1.push (.cells AnB.Z39L (some 0)) := ⟨_,rfl⟩
   have e2 : A.box 24 AnB.Z39 h1 = some (ptrV h1.next,h2) := by rw [hh2]; rfl
   have x2 : Ext h1 h2 := by rw [hh2]; exact Ext.push h1 _
   have b2 := b1.ext x2
   have g2 : BQ h2 h1.next (zq 0) nilS := ⟨by rw [hh2,H.get_push,if_pos rfl]; rfl,by rw [hh2]; exact Nat.lt_succ_self _⟩
   have hne : h.next ≠ h1.next := by omega
   obtain ⟨h3,e3,c1,c3,x3⟩ := mid60 ka (callO prog 4 Q (k + 1)) (k + 1) b2 g2 hne
   obtain ⟨h4,e4,x4⟩ := tail60 ka k (k + 1) p (bz p) c1 c3 hne
   have fin : Ext h h4 := ⟨Nat.le_trans (x1.trans x2).next (x3.trans x4).next,fun i hi => by rw [(x3.trans x4).get i (Nat.lt_of_lt_of_le hi (x1.trans x2).next) (by omega),(x1.trans x2).get i hi]⟩
   refine ⟨h4,?_,fin⟩
   simp only [F60,p60a,paiC,e1,qX]
   rw [stepA,if_neg hc,if_neg hc]
   simp only [paqO,e2,qX]
   rw [e3]; exact e4
end
end Go.Proofs.YtfodhidpefednaaGreatDoor.An

namespace Go.Proofs.YtfodhidpefednaaGreatDoor.An
open Tryz (prog)
open Go Go.AM AnA AnB AnC AnE
def restO (val nm fi : List UInt8 → Bool) (p : Pq) (es : List Sb) : Option Nat :=
 if p.kind = 1 then conO val nm p
 else if p.kind = 2 then (if p.code ≤ 5 then (if p.code = 0 then some 2 else if p.present = true then none else some 2) else none)
 else if p.kind = 3 then pubO nm p
 else if p.kind = 4 ∨ p.kind = 5 ∨ p.kind = 6 ∨ p.kind = 7 ∨ p.kind = 11 then idO p
 else if p.kind = 8 ∨ p.kind = 10 then subO fi p es
 else if p.kind = 9 then codO p
 else if p.kind = 12 ∨ p.kind = 13 ∨ p.kind = 14 then some 0
 else none
noncomputable def rgtB (val nm fi : List UInt8 → Bool) (p : Pq) (es : List Sb) : Bool :=
 match restO val nm fi p es with
 | none => false
 | some _ => bareB p es
section
variable {Q : Orc} {B : H} {val nm fi : List UInt8 → Bool} (ka : KnA Q) (va : VA Q B val) (ok : OK3 Q B nm fi) {h : H}
include ka va ok
theorem restO_le {p : Pq} {es : List Sb} (bd : Bd p es) {n : Nat} (e : restO val nm fi p es = some n) : n ≤ 100000 := by
 unfold restO at e
 split at e
 · have := conO_le ka va ok bd e; omega
 split at e
 · split at e
   · split at e
     · cases e; omega
     · split at e
       · cases e
       · cases e; omega
   · cases e
 split at e
 · have h1 := bd.topic
   have h2 := bd.payload
   unfold pubO at e
   split at e
   · split at e
     · cases e
     · split at e
       · cases e; omega
       · split at e
         · cases e
         · cases e; omega
   · cases e
 split at e
 · have := idO_le e; omega
 split at e
 · exact subO_le ka va ok bd e
 split at e
 · have := codO_le ka bd e; omega
 split at e
 · cases e; omega
 · cases e
theorem disp36 (k L : Nat) {p : Pq} {es : List Sb} {w : Value} {t : Nat} (hw : cellsL w = some [w]) (hB : Ext B h) (bd : Bd p es) (sl : SliceE 2 h w (es.map sbC)) (b : BQ h t p w) :
 ∃ hb,(∀ K : Value → Value → H → Option (Value × H),paaA (callO prog 4 Q (k + 901)) L (ptrV t) (.int .i64 (-1)) h K = K (ptrV t) (optV (restO val nm fi p es)) hb) ∧ Ext h hb := by
 have l0 := b.ld (i := 0) rfl
 unfold restO
 by_cases k1 : p.kind = 1
 · have d1 : decide ((p.kind : Int) = 1) = true := deq (by omega)
   obtain ⟨hb,e,y⟩ := T55q ka va ok k hw hB bd
   refine ⟨hb,fun K => ?_,y⟩
   rw [if_pos k1]
   simp only [paaA,pahI,qY,Nat.zero_add,qZ,l0,paaB,pahJ,zQ,d1,qQ,paaC,qW,cond_true,paqA,b.all,e,qX]
 have d1 : decide ((p.kind : Int) = 1) = false := dne (by omega)
 rw [if_neg k1]
 by_cases k2 : p.kind = 2
 · have d2 : decide ((p.kind : Int) = 2) = true := deq (by omega)
   have l21 := b.ld (i := 21) rfl
   have l20 := b.ld (i := 20) rfl
   refine ⟨h,fun K => ?_,Ext.refl h⟩
   rw [if_pos k2]
   by_cases c5 : p.code ≤ 5
   · have e5 : decide ((p.code : Int) ≤ 5) = true := decide_eq_true (by omega)
     rw [if_pos c5]
     by_cases c0 : p.code = 0
     · have e0 : decide ((p.code : Int) = 0) = true := decide_eq_true (by omega)
       rw [if_pos c0]
       simp only [paaA,pahI,qY,Nat.zero_add,qZ,l0,paaB,pahJ,zQ,d1,d2,qQ,paaC,qW,cond_true,cond_false,paaE,pahY,paaG,pagH,palS,l21,bin_leq,e5,e0,palT]
       rfl
     · have e0 : decide ((p.code : Int) = 0) = false := decide_eq_false (by omega)
       rw [if_neg c0]
       cases hp : p.present with
       | true =>
        have l20 := l20.trans (congrArg (fun b => some (Value.bool b)) hp)
        rw [if_pos rfl]
        simp only [paaA,pahI,qY,Nat.zero_add,qZ,l0,paaB,pahJ,zQ,d1,d2,qQ,paaC,qW,cond_true,cond_false,paaE,pahY,paaG,pagH,palS,l21,bin_leq,e5,e0,l20,un_not,Bool.not_true,palT]
        rfl
       | false =>
        have l20 := l20.trans (congrArg (fun b => some (Value.bool b)) hp)
        rw [if_neg (by decide)]
        simp only [paaA,pahI,qY,Nat.zero_add,qZ,l0,paaB,pahJ,zQ,d1,d2,qQ,paaC,qW,cond_true,cond_false,paaE,pahY,paaG,pagH,palS,l21,bin_leq,e5,e0,l20,un_not,Bool.not_false,palT]
        rfl
   · have e5 : decide ((p.code : Int) ≤ 5) = false := decide_eq_false (by omega)
     rw [if_neg c5]
     simp only [paaA,pahI,qY,Nat.zero_add,qZ,l0,paaB,pahJ,zQ,d1,d2,qQ,paaC,qW,cond_true,cond_false,paaE,pahY,paaG,pagH,palS,l21,bin_leq,e5,palT]
     rfl
 have d2 : decide ((p.kind : Int) = 2) = false := dne (by omega)
 rw [if_neg k2]
 by_cases k3 : p.kind = 3
 · have d3 : decide ((p.kind : Int) = 3) = true := deq (by omega)
   obtain ⟨hb,e,y⟩ := T56q ka va ok k hw hB bd
   refine ⟨hb,fun K => ?_,y⟩
   rw [if_pos k3]
   simp only [paaA,pahI,qY,Nat.zero_add,qZ,l0,paaB,pahJ,zQ,d1,d2,d3,qQ,paaC,qW,cond_false,cond_true,paaE,pahY,paaG,paaL,pajT,paaQ,papZ,b.all,e,qX]
 have d3 : decide ((p.kind : Int) = 3) = false := dne (by omega)
 rw [if_neg k3]
 have st : ∀ (b4 : Bool) (K : Value → Value → H → Option (Value × H)),
  (∀ K' : Value → Value → Value → Value → H → Option (Value × H),padR (callO prog 4 Q (k + 901)) L (.bool false) (.int .u8 (p.kind : Int)) (ptrV t) (.int .i64 (-1)) h K' = K' (.bool b4) (.int .u8 (p.kind : Int)) (ptrV t) (.int .i64 (-1)) h) →
  paaA (callO prog 4 Q (k + 901)) L (ptrV t) (.int .i64 (-1)) h K = pabM (callO prog 4 Q (k + 901)) L (.bool b4) (.int .u8 (p.kind : Int)) (ptrV t) (.int .i64 (-1)) h K := by
  intro b4 K s
  simp only [paaA,pahI,qY,Nat.zero_add,qZ,l0,paaB,pahJ,zQ,d1,d2,d3,qQ,paaC,qW,cond_false,paaE,pahY,paaG,paaL,pajT,paaQ,paaV,s]
 by_cases k4 : p.kind = 4 ∨ p.kind = 5 ∨ p.kind = 6 ∨ p.kind = 7 ∨ p.kind = 11
 · obtain ⟨hb,e,y⟩ := T57q ka (k + 900) h p hw
   have e : callO prog 4 Q (k + 901) 57 [.agg ⟨p.cells w⟩] h = _ := e
   refine ⟨hb,fun K => ?_,y⟩
   rw [if_pos k4]
   rw [st true K (fun K' => ?_)]
   · simp only [pabM,qW,cond_true,pakC,b.all,qZ,e,qX]
   · by_cases c4 : p.kind = 4
     · have d4 : decide ((p.kind : Int) = 4) = true := deq (by omega)
       simp only [padR,paiK,zQ,qZ,d4,qQ,pafQ,qW,cond_true,papY]
     have d4 : decide ((p.kind : Int) = 4) = false := dne (by omega)
     by_cases c5 : p.kind = 5
     · have d5 : decide ((p.kind : Int) = 5) = true := deq (by omega)
       simp only [padR,paiK,zQ,qZ,d4,d5,qQ,pafQ,qW,cond_true,cond_false,paiR]
     have d5 : decide ((p.kind : Int) = 5) = false := dne (by omega)
     by_cases c6 : p.kind = 6
     · have d6 : decide ((p.kind : Int) = 6) = true := deq (by omega)
       simp only [padR,paiK,zQ,qZ,d4,d5,d6,qQ,pafQ,qW,cond_true,cond_false,paiR]
     have d6 : decide ((p.kind : Int) = 6) = false := dne (by omega)
     by_cases c7 : p.kind = 7
     · have d7 : decide ((p.kind : Int) = 7) = true := deq (by omega)
       simp only [padR,paiK,zQ,qZ,d4,d5,d6,d7,qQ,pafQ,qW,cond_true,cond_false,paiR]
     have d7 : decide ((p.kind : Int) = 7) = false := dne (by omega)
     have d11 : decide ((p.kind : Int) = 11) = true := deq (by omega)
     simp only [padR,paiK,zQ,qZ,d4,d5,d6,d7,d11,qQ,pafQ,qW,cond_true,cond_false,paiR]
 rw [if_neg k4]
 have st : ∀ (K : Value → Value → H → Option (Value × H)),
  paaA (callO prog 4 Q (k + 901)) L (ptrV t) (.int .i64 (-1)) h K = pacB (callO prog 4 Q (k + 901)) L (.bool false) (.int .u8 (p.kind : Int)) (ptrV t) (.int .i64 (-1)) h K := by
  intro K
  have d4 : decide ((p.kind : Int) = 4) = false := dne (by omega)
  have d5 : decide ((p.kind : Int) = 5) = false := dne (by omega)
  have d6 : decide ((p.kind : Int) = 6) = false := dne (by omega)
  have d7 : decide ((p.kind : Int) = 7) = false := dne (by omega)
  have d11 : decide ((p.kind : Int) = 11) = false := dne (by omega)
  rw [st false K (fun K' => ?_)]
  · simp only [pabM,qW,cond_false]
  · simp only [padR,paiK,zQ,qZ,d4,d5,d6,d7,d11,qQ,pafQ,qW,cond_false,paiR]
 by_cases k8 : p.kind = 8 ∨ p.kind = 10
 · obtain ⟨hb,e,y⟩ := T58q ka va ok k hw hB bd sl
   refine ⟨hb,fun K => ?_,y⟩
   rw [if_pos k8,st]
   by_cases c8 : p.kind = 8
   · have d8 : decide ((p.kind : Int) = 8) = true := deq (by omega)
     simp only [pacB,paiL,zQ,qZ,d8,qQ,cond_true,pacX,qW,palR,b.all,e,qX]
   · have d8 : decide ((p.kind : Int) = 8) = false := dne (by omega)
     have d10 : decide ((p.kind : Int) = 10) = true := deq (by omega)
     simp only [pacB,paiL,zQ,qZ,d8,d10,qQ,cond_true,cond_false,pacX,qW,palR,b.all,e,qX]
 have d8 : decide ((p.kind : Int) = 8) = false := dne (by omega)
 have d10 : decide ((p.kind : Int) = 10) = false := dne (by omega)
 rw [if_neg k8]
 by_cases k9 : p.kind = 9
 · have d9 : decide ((p.kind : Int) = 9) = true := deq (by omega)
   obtain ⟨hb,e,y⟩ := T59q ka (h := h) k hw bd
   refine ⟨hb,fun K => ?_,y⟩
   rw [if_pos k9,st]
   simp only [pacB,paiL,zQ,qZ,d8,d10,qQ,cond_false,pacX,qW,padS,pakB,d9,paeW,cond_true,patM,b.all,e,qX]
 have d9 : decide ((p.kind : Int) = 9) = false := dne (by omega)
 rw [if_neg k9]
 refine ⟨h,fun K => ?_,Ext.refl h⟩
 rw [st]
 by_cases k12 : p.kind = 12 ∨ p.kind = 13 ∨ p.kind = 14
 · rw [if_pos k12]
   rcases k12 with c | c | c
   · have d12 : decide ((p.kind : Int) = 12) = true := deq (by omega)
     simp only [pacB,paiL,zQ,qZ,d8,d10,qQ,cond_false,pacX,qW,padS,pakB,d9,paeW,cond_true,pagG,palP,d12,palQ]
     rfl
   · have d12 : decide ((p.kind : Int) = 12) = false := dne (by omega)
     have d13 : decide ((p.kind : Int) = 13) = true := deq (by omega)
     simp only [pacB,paiL,zQ,qZ,d8,d10,qQ,cond_false,pacX,qW,padS,pakB,d9,paeW,cond_true,pagG,palP,d12,d13,palQ]
     rfl
   · have d12 : decide ((p.kind : Int) = 12) = false := dne (by omega)
     have d13 : decide ((p.kind : Int) = 13) = false := dne (by omega)
     have d14 : decide ((p.kind : Int) = 14) = true := deq (by omega)
     simp only [pacB,paiL,zQ,qZ,d8,d10,qQ,cond_false,pacX,qW,padS,pakB,d9,paeW,cond_true,pagG,palP,d12,d13,d14,palQ]
     rfl
 · rw [if_neg k12]
   have d12 : decide ((p.kind : Int) = 12) = false := dne (by omega)
   have d13 : decide ((p.kind : Int) = 13) = false := dne (by omega)
   have d14 : decide ((p.kind : Int) = 14) = false := dne (by omega)
   simp only [pacB,paiL,zQ,qZ,d8,d10,qQ,cond_false,pacX,qW,padS,pakB,d9,paeW,pagG,palP,d12,d13,d14,palQ]
   rfl
theorem T18q (k : Nat) {p : Pq} {es : List Sb} {w : Value} (hB : Ext B h) (bd : Bd p es) (sl : SliceE 2 h w (es.map sbC)) :
 ∃ h',callO prog 4 Q (k + 903) 18 [.agg ⟨p.cells w⟩] h = some (.bool (rgtB val nm fi p es),h') ∧ Ext h h' := by
 have hw := sl.cells
 have r36 : ∀ {h : H},Ext B h → SliceE 2 h w (es.map sbC) → ∃ h' v,callO prog 4 Q (k + 902) 36 [.agg ⟨p.cells w⟩] h = some (v,h') ∧ A.bin prog .geq 3 v (.int .i64 0) = some (.bool (rgtB val nm fi p es)) ∧ Ext h h' := by
  intro h hB sl
  rw [F36eq Q (k + 901) _ h (ka.kn.fr 36 _ (by decide))]
  obtain ⟨ha,ea,b,x,_⟩ := box_pq p hw h
  obtain ⟨hb,ed,y⟩ := disp36 ka va ok k (k + 901) hw (hB.trans x) bd (sl.ext x) b
  unfold rgtB
  have hle := fun {n : Nat} => restO_le ka va ok bd (n := n)
  cases hr : restO val nm fi p es with
  | none =>
   rw [hr] at ed
   have ed : ∀ K : Value → Value → H → Option (Value × H),paaA (callO prog 4 Q (k + 901)) (k + 901) (ptrV h.next) (.int .i64 (-1)) ha K = K (ptrV h.next) (.int .i64 (-1)) hb := ed
   have c : decide ((-1 : Int) < 0) = true := rfl
   refine ⟨hb,.int .i64 (-1),?_,rfl,x.trans y⟩
   simp only [F36,p36a,palN,ea,qX,palO]
   rw [ed]
   simp only [pakD,zZ,c,qZ,qQ,cond_true]
  | some n =>
   rw [hr] at ed
   have hn := hle hr
   have ed : ∀ K : Value → Value → H → Option (Value × H),paaA (callO prog 4 Q (k + 901)) (k + 901) (ptrV h.next) (.int .i64 (-1)) ha K = K (ptrV h.next) (.int .i64 (n : Int)) hb := ed
   have c : decide ((n : Int) < 0) = false := decide_eq_false (by omega)
   have c2 : decide ((268435455 : Int) < (n : Int)) = false := decide_eq_false (by omega)
   have b2 := b.ext y
   obtain ⟨hc,ec,z⟩ := T60q ka (h := hb) (k + 899) (p := p) hw ((sl.ext x).ext y)
   have ec : callO prog 4 Q (k + 901) 60 [.agg ⟨p.cells w⟩] hb = _ := ec
   cases hbb : bareB p es with
   | true =>
    rw [hbb] at ec
    refine ⟨hc,.int .i64 (n : Int),?_,?_,(x.trans y).trans z⟩
    · simp only [F36,p36a,palN,ea,qX,palO]
      rw [ed]
      simp only [pakD,zZ,c,qZ,qQ,cond_false,zY,c2,b2.all,ec,qX,un_not,Bool.not_true]
    · have g : decide ((0 : Int) ≤ (n : Int)) = true := decide_eq_true (by omega)
      rw [bin_geq,g]
   | false =>
    rw [hbb] at ec
    refine ⟨hc,.int .i64 (-1),?_,rfl,(x.trans y).trans z⟩
    simp only [F36,p36a,palN,ea,qX,palO]
    rw [ed]
    simp only [pakD,zZ,c,qZ,qQ,cond_false,zY,c2,b2.all,ec,qX,un_not,Bool.not_false,cond_true]
 rw [F18eq Q (k + 902) _ h (ka.fr 18 _ (by decide))]
 obtain ⟨ha,ea,b,x,_⟩ := box_pq p hw h
 obtain ⟨hb,v,ev,eg,y⟩ := r36 (hB.trans x) (sl.ext x)
 refine ⟨hb,?_,x.trans y⟩
 simp only [F18,p18a,ea,qX,b.all,qZ,ev,eg,qQ]
theorem rg_of : RG Q B (rgtB val nm fi) := ⟨fun k h p es w hB bd sl => T18q ka va ok (k + 97) hB bd sl⟩
end
end Go.Proofs.YtfodhidpefednaaGreatDoor.An

namespace Go.Proofs.YtfodhidpefednaaGreatDoor.An
open Go Go.AM
theorem u8n {n : Nat} (h : n < 256) : (UInt8.ofNat n).toNat = n := by rw [UInt8.toNat_ofNat',Nat.mod_eq_of_lt h]
theorem getD_field {s : List UInt8} (r : List UInt8) (h : s.length < 256) : getD (fieldB s ++ r) = some (s,2 + s.length) := by
 have hw : wrd (fieldB s ++ r) = some s.length := by
  show some (256 * (0 : UInt8).toNat + (UInt8.ofNat s.length).toNat) = _
  rw [u8n h]; simp
 unfold getD
 rw [hw]
 have hl : (fieldB s ++ r).length = 2 + s.length + r.length := by rw [List.length_append,fieldB_len]
 simp only
 rw [if_pos (by omega)]
 have hd : (fieldB s ++ r).drop 2 = s ++ r := rfl
 rw [hd,List.take_left]
theorem drop_field (s r : List UInt8) : (fieldB s ++ r).drop (2 + s.length) = r := by
 rw [List.drop_append,fieldB_len,List.drop_eq_nil_of_le (by rw [fieldB_len]; exact Nat.le_refl _),Nat.sub_self]; rfl
theorem text_field {val : List UInt8 → Bool} {s : List UInt8} (r : List UInt8) (h : s.length < 256) (hv : val s = true) : textL val (fieldB s ++ r) = (s,r,false) := by
 unfold textL
 rw [getD_field r h]
 simp only [hv,if_true,drop_field]
theorem data_field {s : List UInt8} (r : List UInt8) (h : s.length < 256) : dataL (fieldB s ++ r) = (s,r,false) := by
 unfold dataL
 rw [getD_field r h]
 simp only [drop_field]
theorem word_word {n : Nat} (r : List UInt8) (h : n < 256) : wordL (wordB n ++ r) = (n,r,false) := by
 have hw : wrd (wordB n ++ r) = some n := by
  show some (256 * (0 : UInt8).toNat + (UInt8.ofNat n).toNat) = _
  rw [u8n h]; simp
 unfold wordL
 rw [hw]
 rfl
theorem cf_bits (wl cl : Bool) {q : Nat} (hq : q ≤ 2) : let c := 8 * q + (if wl then 4 else 0) + (if cl then 2 else 0)
 bitB 1 c = false ∧ bitB 2 c = cl ∧ bitB 4 c = wl ∧ c / 8 % 4 = q ∧ bitB 32 c = false ∧ bitB 64 c = false ∧ bitB 128 c = false := by
 have h3 : q = 0 ∨ q = 1 ∨ q = 2 := by omega
 rcases h3 with rfl | rfl | rfl <;> cases wl <;> cases cl <;> decide
theorem fl_bits (d r : Bool) {q : Nat} (hq : q ≤ 2) : let c := (if d then 8 else 0) + 2 * q + (if r then 1 else 0)
 bitB 8 c = d ∧ c / 2 % 4 = q ∧ bitB 1 c = r ∧ c < 16 := by
 have h3 : q = 0 ∨ q = 1 ∨ q = 2 := by omega
 rcases h3 with rfl | rfl | rfl <;> cases d <;> cases r <;> decide
section
variable {val : List UInt8 → Bool} (hv : ∀ s ∈ texts,val s = true)
include hv
theorem dec_conn {clean : Bool} {keep : Nat} {client : List UInt8} {will : Bool} {wt wp : List UInt8} {wq : Nat} (hk : keep < 256) (hc : client ∈ clients) (h1 : will = true → wt ∈ names ∧ wp = [119] ∧ wq ≤ 2) (h2 : will = false → wt = [] ∧ wp = [] ∧ wq = 0) :
 connS val (connB (mkC 4 clean keep client will wt wp wq),false,zq 1) = ([],false,(mkC 4 clean keep client will wt wp wq).q) := by
 have tl : ∀ s ∈ texts,s.length < 256 := fun s hs => by have := texts_small s hs; omega
 have mM : MQTT ∈ texts := by decide
 have mc : client ∈ texts := by
  have : ∀ c ∈ clients,c ∈ texts := by decide
  exact this client hc
 have hq : wq ≤ 2 := by
  cases will with
  | true => exact (h1 rfl).2.2
  | false => rw [(h2 rfl).2.2]; omega
 obtain ⟨c1,c2,c4,c8,c32,c64,c128⟩ := cf_bits will clean hq
 obtain ⟨cf,hcf⟩ : ∃ cf,cf = cfN (mkC 4 clean keep client will wt wp wq) := ⟨_,rfl⟩
 have hcf' : 8 * wq + (if will then 4 else 0) + (if clean then 2 else 0) = cf := by rw [hcf]; rfl
 simp only [hcf'] at c1 c2 c4 c8 c32 c64 c128
 have hlt : cf < 256 := by rw [hcf]; exact cf_lt hq
 obtain ⟨tail,htail⟩ : ∃ tail,tail = (if will then fieldB wt ++ fieldB wp else []) := ⟨_,rfl⟩
 have hcB : connB (mkC 4 clean keep client will wt wp wq) = fieldB MQTT ++ (4 :: UInt8.ofNat cf :: (wordB keep ++ (fieldB client ++ tail))) := by
  rw [hcf,htail]
  unfold connB
  simp [mkC,MQTT,List.append_assoc]
  rfl
 rw [hcB]
 have t0 := text_field (val := val) (4 :: UInt8.ofNat cf :: (wordB keep ++ (fieldB client ++ tail))) (tl MQTT mM) (hv MQTT mM)
 have eA : connA val (fieldB MQTT ++ (4 :: UInt8.ofNat cf :: (wordB keep ++ (fieldB client ++ tail))),false,zq 1) = (wordB keep ++ (fieldB client ++ tail),false,{ zq 1 with level := 4,clean := clean,will := will,wq := wq }) := by
  unfold connA
  simp only [t0,oneL,u8n hlt,c1,c2,c4,c8,c32,c64,c128,Bool.or_false,Bool.false_eq_true,if_false,if_true]
  rfl
 have t1 := text_field (val := val) tail (tl client mc) (hv client mc)
 have w1 := word_word (fieldB client ++ tail) hk
 have eB : connB2 val (wordB keep ++ (fieldB client ++ tail),false,{ zq 1 with level := 4,clean := clean,will := will,wq := wq }) = (tail,false,{ zq 1 with level := 4,clean := clean,will := will,wq := wq,keep := keep,client := client }) := by
  unfold connB2
  simp only [w1,t1,Bool.or_false]
 unfold connS
 rw [eA,eB,htail]
 cases will with
 | true =>
  obtain ⟨hw,hp,_⟩ := h1 rfl
  have mw : wt ∈ texts := by
   have : ∀ c ∈ names,c ∈ texts := by decide
   exact this wt hw
  have t2 := text_field (val := val) (fieldB wp) (tl wt mw) (hv wt mw)
  have t3 := data_field (s := wp) [] (by rw [hp]; decide)
  rw [List.append_nil] at t3
  have eC : connC val (fieldB wt ++ fieldB wp,false,{ zq 1 with level := 4,clean := clean,will := true,wq := wq,keep := keep,client := client }) = ([],false,{ zq 1 with level := 4,clean := clean,will := true,wq := wq,keep := keep,client := client,wt := wt,wp := wp }) := by
   unfold connC
   simp only [t2,t3,if_true,Bool.or_false]
  rw [if_pos rfl,eC]
  rfl
 | false =>
  obtain ⟨rfl,rfl,rfl⟩ := h2 rfl
  rfl
theorem dec_subs {kind : Nat} (hk : kind = 8 ∨ kind = 10) : ∀ (n : Nat) (l : List Sb),l.length < n → (∀ s ∈ l,s.1 ∈ filters ∧ s.2 ≤ mostN kind) → subL val kind n (subsB kind l) false = (l,[],false)
 | 0,l,h,_ => absurd h (Nat.not_lt_zero _)
 | n + 1,[],_,_ => rfl
 | n + 1,s :: l,h,hs => by
  have tl : ∀ s ∈ texts,s.length < 256 := fun s hs => by have := texts_small s hs; omega
  obtain ⟨s1,s2⟩ := hs s (List.mem_cons_self ..)
  have ms : s.1 ∈ texts := by
   have : ∀ c ∈ filters,c ∈ texts := by decide
   exact this s.1 s1
  have ih := dec_subs hk n l (by rw [List.length_cons] at h; omega) (fun s h => hs s (List.mem_cons_of_mem _ h))
  rw [subsB_cons]
  obtain ⟨r,hr⟩ : ∃ r,r = subsB kind l := ⟨_,rfl⟩
  rw [← hr] at ih ⊢
  have ne : ¬ (subB kind s ++ r = [] ∨ false = true) := by
   intro c
   rcases c with c | c
   · have := congrArg List.length c
     unfold subB at this
     rw [List.length_append,List.length_append,fieldB_len] at this
     simp at this
   · cases c
  have e : subL val kind (n + 1) (subB kind s ++ r) false = (let a := textL val (subB kind s ++ r)
   let b := if kind = 8 then oneL a.2.1 else (0,a.2.1,false)
   let t := subL val kind n b.2.1 (false || a.2.2 || b.2.2)
   ((a.1,b.1) :: t.1,t.2)) := if_neg ne
  rw [e]
  rcases hk with rfl | rfl
  · have e1 : subB 8 s ++ r = fieldB s.1 ++ (UInt8.ofNat s.2 :: r) := by unfold subB; simp
    have hq : s.2 < 256 := by have : mostN 8 = 2 := rfl; omega
    rw [e1]
    simp only [text_field (val := val) (UInt8.ofNat s.2 :: r) (tl s.1 ms) (hv s.1 ms),if_true,oneL,Bool.or_false,ih,u8n hq]
  · have e1 : subB 10 s ++ r = fieldB s.1 ++ r := by unfold subB; simp
    have hq : s.2 = 0 := by have : mostN 10 = 0 := rfl; omega
    rw [e1]
    simp only [text_field (val := val) r (tl s.1 ms) (hv s.1 ms),show ¬ (10 : Nat) = 8 by omega,if_false,Bool.or_false,ih]
    rw [← hq]
theorem dec_all {p : Pk} {l : List Sb} (o : Okp p l) : flagsN p < 16 ∧ p.kind < 16 ∧ firstB (16 * p.kind + flagsN p) = true ∧ allS val (flagsN p) (restB p l,false,zq p.kind) = (([],false,p.q),l) := by
 have tl : ∀ s ∈ texts,s.length < 256 := fun s hs => by have := texts_small s hs; omega
 cases o with
 | c clean keep client will wt wp wq hk hc h1 h2 =>
  refine ⟨(by show 0 < 16; omega),(by show 1 < 16; omega),(by show firstB (16 * 1 + 0) = true; decide),?_⟩
  show ((connS val (connB (mkC 4 clean keep client will wt wp wq),false,zq 1),[]) : CS × List Sb) = _
  rw [dec_conn hv hk hc h1 h2]
 | p dup qos retain id topic payload ht hq hp h1 h2 hid =>
  obtain ⟨f8,f2,f1,f16⟩ := fl_bits dup retain hq
  obtain ⟨fl,hfl⟩ : ∃ fl,fl = flagsN (mkP dup qos retain id topic payload) := ⟨_,rfl⟩
  have hfl' : (if dup then 8 else 0) + 2 * qos + (if retain then 1 else 0) = fl := by rw [hfl]; rfl
  simp only [hfl'] at f8 f2 f1 f16
  rw [← hfl]
  have mt : topic ∈ texts := by
   have : ∀ c ∈ names,c ∈ texts := by decide
   exact this topic ht
  refine ⟨f16,(by show 3 < 16; omega),?_,?_⟩
  · unfold firstB
    have k3 : (mkP dup qos retain id topic payload).kind = 3 := rfl
    rw [k3]
    have a1 : (16 * 3 + fl) / 16 = 3 := by omega
    have a2 : (16 * 3 + fl) % 16 = fl := by omega
    rw [a1,a2,f2]
    simp; omega
  · show ((pubS val fl (fieldB topic ++ (if 0 < id then wordB id else []) ++ [] ++ payload,false,zq 3),[]) : CS × List Sb) = _
    unfold pubS
    rw [List.append_nil,List.append_assoc]
    have t := text_field (val := val) ((if 0 < id then wordB id else []) ++ payload) (tl topic mt) (hv topic mt)
    simp only [t,f8,f2,f1]
    by_cases q0 : 0 < qos
    · have i0 := h1 q0
      rw [if_pos q0,if_pos i0]
      simp only [word_word payload hid,Bool.or_false]
      rfl
    · obtain ⟨rfl,rfl⟩ := h2 (by omega)
      rw [if_neg q0]
      simp only [Bool.or_false]
      rfl
 | s kind id l hk h0 hid hl hne hs =>
  have er : restB (mkI kind id) l = wordB id ++ subsB kind l := by
   have e : restB (mkI kind id) l = [] ++ wordB id ++ subsB kind l ++ [] := by
    unfold restB
    rw [if_neg (by show ¬ kind = 1; omega),if_neg (by show ¬ kind = 3; omega),if_pos (by exact h0)]; rfl
   rw [e]; simp
  have d := dec_subs hv hk 300 l (by omega) hs
  have w := word_word (subsB kind l) hid
  rcases hk with rfl | rfl
  · refine ⟨by show 2 < 16; omega,by show 8 < 16; omega,by show firstB (16 * 8 + 2) = true; decide,?_⟩
    rw [er]
    show listS val ((wordL (wordB id ++ subsB 8 l)).2.1,false || (wordL (wordB id ++ subsB 8 l)).2.2,{ zq 8 with id := (wordL (wordB id ++ subsB 8 l)).1 }) = _
    rw [w]
    show ((((subL val 8 300 (subsB 8 l) false).2.1,(subL val 8 300 (subsB 8 l) false).2.2,({ zq 8 with id := id } : Pq)),(subL val 8 300 (subsB 8 l) false).1) : CS × List Sb) = _
    rw [d]; rfl
  · refine ⟨by show 2 < 16; omega,by show 10 < 16; omega,by show firstB (16 * 10 + 2) = true; decide,?_⟩
    rw [er]
    show listS val ((wordL (wordB id ++ subsB 10 l)).2.1,false || (wordL (wordB id ++ subsB 10 l)).2.2,{ zq 10 with id := (wordL (wordB id ++ subsB 10 l)).1 }) = _
    rw [w]
    show ((((subL val 10 300 (subsB 10 l) false).2.1,(subL val 10 300 (subsB 10 l) false).2.2,({ zq 10 with id := id } : Pq)),(subL val 10 300 (subsB 10 l) false).1) : CS × List Sb) = _
    rw [d]; rfl
 | a kind id hk h0 hid =>
  have er : restB (mkI kind id) [] = wordB id ++ [] := by
   have e : restB (mkI kind id) [] = [] ++ wordB id ++ [] ++ [] := by
    unfold restB
    rw [if_neg (by show ¬ kind = 1; omega),if_neg (by show ¬ kind = 3; omega),if_pos (by exact h0)]; rfl
   rw [e]; simp
  have w := word_word [] hid
  rw [er]
  have fin : ∀ k,k = 4 ∨ k = 5 ∨ k = 6 ∨ k = 7 → ∀ fl,allS val fl (wordB id ++ [],false,zq k) = (([],false,(mkI k id).q),[]) := by
   intro k hk fl
   rcases hk with rfl | rfl | rfl | rfl
   · show listS val ((wordL (wordB id ++ [])).2.1,false || (wordL (wordB id ++ [])).2.2,{ zq 4 with id := (wordL (wordB id ++ [])).1 }) = _
     rw [w]
     rfl
   · show listS val ((wordL (wordB id ++ [])).2.1,false || (wordL (wordB id ++ [])).2.2,{ zq 5 with id := (wordL (wordB id ++ [])).1 }) = _
     rw [w]
     rfl
   · show listS val ((wordL (wordB id ++ [])).2.1,false || (wordL (wordB id ++ [])).2.2,{ zq 6 with id := (wordL (wordB id ++ [])).1 }) = _
     rw [w]
     rfl
   · show listS val ((wordL (wordB id ++ [])).2.1,false || (wordL (wordB id ++ [])).2.2,{ zq 7 with id := (wordL (wordB id ++ [])).1 }) = _
     rw [w]
     rfl
  have fk := fin kind hk (flagsN (mkI kind id))
  rcases hk with rfl | rfl | rfl | rfl
  · exact ⟨by show 0 < 16; omega,by show 4 < 16; omega,by show firstB (16 * 4 + 0) = true; decide,fk⟩
  · exact ⟨by show 0 < 16; omega,by show 5 < 16; omega,by show firstB (16 * 5 + 0) = true; decide,fk⟩
  · exact ⟨by show 2 < 16; omega,by show 6 < 16; omega,by show firstB (16 * 6 + 2) = true; decide,fk⟩
  · exact ⟨by show 0 < 16; omega,by show 7 < 16; omega,by show firstB (16 * 7 + 0) = true; decide,fk⟩
 | b kind hk =>
  rcases hk with rfl | rfl
  · exact ⟨by show 0 < 16; omega,by show 12 < 16; omega,by show firstB (16 * 12 + 0) = true; decide,rfl⟩
  · exact ⟨by show 0 < 16; omega,by show 14 < 16; omega,by show firstB (16 * 14 + 0) = true; decide,rfl⟩
variable {nm fi : List UInt8 → Bool} (hn : ∀ s ∈ names,nm s = true) (hf : ∀ s ∈ filters,fi s = true)
include hn hf
theorem okp_right {p : Pk} {l : List Sb} (o : Okp p l) : rgtB val nm fi p.q l = true := by
 have bare : (l = [] ∨ p.kind = 8 ∨ p.kind = 10) → ({ bz p.q with kind := p.q.kind } : Pq) = p.q → bareB p.q l = true := by
  intro h1 h2
  unfold bareB
  rw [if_neg (by
   intro c
   rcases h1 with h | h | h
   · exact c.1 h
   · exact c.2.1 h
   · exact c.2.2 h),h2,pe_refl]
 have fin : ∀ {n : Nat},restO val nm fi p.q l = some n → bareB p.q l = true → rgtB val nm fi p.q l = true := by
  intro n h1 h2
  unfold rgtB
  rw [h1]
  exact h2
 cases o with
 | c clean keep client will wt wp wq hk hc h1 h2 =>
  have mc : val client = true := hv client (by
   have : ∀ c ∈ clients,c ∈ texts := by decide
   exact this client hc)
  have me : val [] = true := hv [] (by decide)
  refine fin (n := 12 + client.length + (if will then 4 + wt.length + wp.length else 0)) ?_ (bare (.inl rfl) rfl)
  show conO val nm (mkC 4 clean keep client will wt wp wq).q = _
  have hw : wilO nm (mkC 4 clean keep client will wt wp wq).q (12 + client.length) = some (12 + client.length + (if will then 4 + wt.length + wp.length else 0)) := by
   cases will with
   | true =>
    obtain ⟨a,b,c⟩ := h1 rfl
    show (if nm wt then (if 2 < wq then none else some (12 + client.length + (4 + wt.length + wp.length))) else none) = _
    rw [if_pos (hn wt a),if_neg (by omega)]; rfl
   | false =>
    obtain ⟨rfl,rfl,rfl⟩ := h2 rfl
    rfl
  unfold conO
  have e4 : (mkC 4 clean keep client will wt wp wq).q.level = 4 := rfl
  have ec : (mkC 4 clean keep client will wt wp wq).q.client = client := rfl
  rw [if_pos e4,ec,if_pos mc,hw]
  show (if val [] then some (12 + client.length + (if will then 4 + wt.length + wp.length else 0)) else none) = _
  rw [if_pos me]
 | p dup qos retain id topic payload ht hq hp h1 h2 hid =>
  have mt := hn topic ht
  by_cases q0 : 0 < qos
  · refine fin (n := 2 + topic.length + payload.length + 2) ?_ (bare (.inl rfl) rfl)
    show pubO nm (mkP dup qos retain id topic payload).q = _
    show (if nm topic then (if 2 < qos then none else if 0 < qos ∧ 0 < id then some (2 + topic.length + payload.length + 2) else if 0 < qos ∨ 0 < id ∨ dup = true then none else some (2 + topic.length + payload.length)) else none) = _
    rw [if_pos mt,if_neg (by omega),if_pos ⟨q0,h1 q0⟩]
  · obtain ⟨rfl,rfl⟩ := h2 (by omega)
    refine fin (n := 2 + topic.length + payload.length) ?_ (bare (.inl rfl) rfl)
    show pubO nm (mkP false qos retain 0 topic payload).q = _
    unfold pubO
    have e1 : (mkP false qos retain 0 topic payload).q.topic = topic := rfl
    have e2 : (mkP false qos retain 0 topic payload).q.qos = qos := rfl
    have e3 : (mkP false qos retain 0 topic payload).q.id = 0 := rfl
    have e4 : (mkP false qos retain 0 topic payload).q.dup = false := rfl
    have e5 : (mkP false qos retain 0 topic payload).q.payload = payload := rfl
    rw [e1,e2,e3,e4,e5,if_pos mt,if_neg (by omega),if_neg (fun c => q0 c.1),if_neg (by intro c; rcases c with c | c | c; exact q0 c; omega; cases c)]
 | s kind id l hk h0 hid hl hne hs =>
  have su : ∀ (most more n : Nat) (l : List Sb),(∀ s ∈ l,s.1 ∈ filters ∧ s.2 ≤ most) → ∃ m,suL fi most more l n = some m := by
   intro most more n l
   induction l generalizing n with
   | nil => exact fun _ => ⟨n,rfl⟩
   | cons s l ih =>
    intro hs
    obtain ⟨a,b⟩ := hs s (List.mem_cons_self ..)
    obtain ⟨m,hm⟩ := ih (n + (2 + s.1.length + more)) (fun s h => hs s (List.mem_cons_of_mem _ h))
    refine ⟨m,?_⟩
    show (if fi s.1 then (if most < s.2 then none else suL fi most more l (n + (2 + s.1.length + more))) else none) = _
    rw [if_pos (hf s.1 a),if_neg (by omega)]
    exact hm
  obtain ⟨m,hm⟩ := su (mostN kind) (moreN kind) 2 l hs
  have hsub : subO fi (mkI kind id).q l = some m := by
   have hi : idO (mkI kind id).q = some 2 := by
    show (if id = 0 then none else some 2) = _
    rw [if_neg (by omega)]
   unfold subO
   rw [hi]
   simp only
   rw [if_neg (by intro c; rw [c] at hne; exact absurd hne (Nat.lt_irrefl _))]
   exact hm
  rcases hk with rfl | rfl
  · exact fin (n := m) hsub (bare (.inr (.inl rfl)) rfl)
  · exact fin (n := m) hsub (bare (.inr (.inr rfl)) rfl)
 | a kind id hk h0 hid =>
  have hi : ∀ k,idO (mkI k id).q = some 2 := fun k => by
   show (if id = 0 then none else some 2) = _
   rw [if_neg (by omega)]
  rcases hk with rfl | rfl | rfl | rfl
  · exact fin (n := 2) (hi 4) (bare (.inl rfl) rfl)
  · exact fin (n := 2) (hi 5) (bare (.inl rfl) rfl)
  · exact fin (n := 2) (hi 6) (bare (.inl rfl) rfl)
  · exact fin (n := 2) (hi 7) (bare (.inl rfl) rfl)
 | b kind hk =>
  rcases hk with rfl | rfl
  · exact fin (n := 0) rfl (bare (.inl rfl) rfl)
  · exact fin (n := 0) rfl (bare (.inl rfl) rfl)
theorem dec_enc {p : Pk} {l : List Sb} (o : Okp p l) (hlen : (restB p l).length ≤ 100) : decF val (rgtB val nm fi) (encB p l) = ((encB p l).length,0) := by
 obtain ⟨hf16,hk16,hfb,hall⟩ := dec_all hv o
 have hr := okp_right hv hn hf o
 obtain ⟨c,hc⟩ : ∃ c,c = UInt8.ofNat (16 * p.kind + flagsN p) := ⟨_,rfl⟩
 have cn : c.toNat = 16 * p.kind + flagsN p := by rw [hc]; exact u8n (by omega)
 obtain ⟨R,hR⟩ : ∃ R,R = restB p l := ⟨_,rfl⟩
 have he : encB p l = c :: UInt8.ofNat R.length :: R := by rw [hc,hR]; rfl
 rw [← hR] at hlen hall
 have hrl : rlF (UInt8.ofNat R.length :: R) 4 1 0 0 = (R.length,1,0) := by
  show (if (UInt8.ofNat R.length).toNat < 128 then (0 + (UInt8.ofNat R.length).toNat % 128 * 1,0 + 1,0) else _) = _
  rw [u8n (by omega),if_pos (by omega)]
  congr 1
  omega
 have hlv : ¬ lv7 (c.toNat / 16) R := by
  intro h
  obtain ⟨h1,_,_,h4⟩ := h
  apply h4
  have hk1 : p.kind = 1 := by omega
  rw [hR]
  cases o with
  | c clean keep client will wt wp wq hk hc h1 h2 => rfl
  | p => cases hk1
  | s kind id l hk => have hk1 : kind = 1 := hk1; omega
  | a kind id hk => have hk1 : kind = 1 := hk1; omega
  | b kind hk => have hk1 : kind = 1 := hk1; omega
 have hl2 : (c :: UInt8.ofNat R.length :: R).length = 2 + R.length := by simp; omega
 rw [he]
 show (if firstB c.toNat = true then _ else _) = _
 rw [if_pos (by rw [cn]; exact hfb),hrl]
 simp only [if_true]
 rw [if_neg (by rw [hl2]; omega)]
 have hrest : ((c :: UInt8.ofNat R.length :: R).drop (1 + 1)).take R.length = R := by
  show R.take R.length = R
  rw [List.take_length]
 rw [hrest]
 have d1 : c.toNat / 16 = p.kind := by omega
 have d2 : c.toNat % 16 = flagsN p := by omega
 refine (if_neg hlv).trans ?_
 rw [d1,d2,hall,hl2]
 rw [if_neg (by
  intro h
  rcases h with h | h | h
  · cases h
  · exact h rfl
  · rw [hr] at h; cases h)]
end
end Go.Proofs.YtfodhidpefednaaGreatDoor.An
