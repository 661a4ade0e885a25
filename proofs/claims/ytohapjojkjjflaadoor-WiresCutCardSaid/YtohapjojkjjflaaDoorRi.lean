import Derived.Test.YtohapjojkjjflaaDoorRh
import Derived.Test.YtohapjojkjjflaaDoorRg
namespace Go.Proofs.YtohapjojkjjflaaDoor.Wc
open Go Go.AM
structure OK3 (Q : Orc) (B : H) (nm fi : List UInt8 → Bool) : Prop where
 nm : ∀ (k : Nat) (h : H) (s : List UInt8),Ext B h → s.length ≤ 1000300 → ∃ h',callO Tryd.prog 2 Q (k + 1000900) 39 [str s] h = some (.bool (nm s),h') ∧ Ext h h'
 fi : ∀ (k : Nat) (h : H) (s : List UInt8),Ext B h → s.length ≤ 1000300 → ∃ h',callO Tryd.prog 2 Q (k + 1000900) 40 [str s] h = some (.bool (fi s),h') ∧ Ext h h'
theorem wilO_le {nm : List UInt8 → Bool} {p : Pq} {n m : Nat} (e : wilO nm p n = some m) (h1 : p.wt.length ≤ 1000300) (h2 : p.wp.length ≤ 1000300) : m ≤ n + 2000604 := by
 unfold wilO at e
 split at e
 · split at e
   · split at e
     · cases e
     · split at e
       · cases e
       · cases e; omega
   · cases e
 · split at e
   · cases e; omega
   · cases e
theorem usrO_le {p : Pq} {n m : Nat} (e : usrO p n = some m) (h1 : p.user.length ≤ 1000300) : m ≤ n + 1000302 := by
 unfold usrO at e
 split at e
 · cases e; omega
 · split at e
   · split at e
     · cases e
     · cases e; omega
   · cases e
theorem pasO_le {p : Pq} {n m : Nat} (e : pasO p n = some m) (h1 : p.pass.length ≤ 1000300) : m ≤ n + 1000302 := by
 unfold pasO at e
 split at e
 · cases e; omega
 · split at e
   · cases e; omega
   · cases e
theorem will_ne (p : Pq) : A.bin Tryd.prog .neq 27 (.agg ⟨[str p.wt,str p.wp,.int .u8 (p.wq : Int),.bool p.wr]⟩) (.agg ⟨[str [],str [],.int .u8 0,.bool false]⟩) = some (.bool (!wz p)) := by
 have e : A.eqV Tryd.prog 20 27 (.agg ⟨[str p.wt,str p.wp,.int .u8 (p.wq : Int),.bool p.wr]⟩) (.agg ⟨[str [],str [],.int .u8 0,.bool false]⟩) = (bif p.wt == [] then bif p.wp == [] then bif (p.wq : Int) == 0 then bif p.wr == false then some true else some false else some false else some false else some false) := by kernel_rfl
 have e2 : A.eqV Tryd.prog 20 27 (.agg ⟨[str p.wt,str p.wp,.int .u8 (p.wq : Int),.bool p.wr]⟩) (.agg ⟨[str [],str [],.int .u8 0,.bool false]⟩) = some (wz p) := by
  rw [e]; unfold wz
  cases p.wt == [] <;> cases p.wp == [] <;> cases (p.wq : Int) == 0 <;> cases p.wr == false <;> rfl
 exact bin_agg_neq rfl rfl (by kernel_rfl) e2
end Go.Proofs.YtohapjojkjjflaaDoor.Wc

namespace Go.Proofs.YtohapjojkjjflaaDoor.Wc
open Go Go.AM WcA
theorem T57q {Q : Orc} (ka : KnA Q) (k : Nat) (h : H) (p : Pq) {w : Value} (hw : cellsL w = some [w]) : ∃ h',callO Tryd.prog 2 Q (k + 1) 24 [.agg ⟨p.cells w⟩] h = some (optV (idO p),h') ∧ Ext h h' := by
 rw [F24eq Q k _ h (ka.fr 24 _ (by decide))]
 obtain ⟨ha,ea,b,x,_⟩ := box_pq p hw h
 have l4 := b.ld (i := 4) rfl
 refine ⟨ha,?_,x⟩
 unfold idO
 by_cases hz : p.id = 0
 · have d : decide ((p.id : Int) = 0) = true := decide_eq_true (by omega)
   rw [if_pos hz]
   simp only [F24,p24a,ea,qX,qY,Nat.zero_add,qZ,l4,zQ,d,qQ,cond_true]
   rfl
 · have d : decide ((p.id : Int) = 0) = false := decide_eq_false (by omega)
   rw [if_neg hz]
   simp only [F24,p24a,ea,qX,qY,Nat.zero_add,qZ,l4,zQ,d,qQ,cond_false]
   rfl
section
variable {Q : Orc} {B : H} {val nm fi : List UInt8 → Bool} (ka : KnA Q) (va : VA Q B val) (ok : OK3 Q B nm fi) {h : H}
include ka va ok
theorem e55 (k L : Nat) {t : Nat} {p : Pq} {es : List Sb} {w : Value} (hB : Ext B h) (bd : Bd p es) (b : BQ h t p w) (n : Nat) :
 ∃ h',pajV (callO Tryd.prog 2 Q (k + 1000900)) L (ptrV t) (.int .i64 (n : Int)) h (fun x2 h => some (x2,h)) = some (optV (if val p.user then (if 65535 < p.pass.length then none else some n) else none),h') ∧ Ext h h' := by
 have _ := ka
 have _ := ok
 have l18 := b.ld (i := 18) rfl
 obtain ⟨h1,e1,x1⟩ := va.va (k + 500) h p.user hB bd.user
 have e1 := (congrArg (fun n => callO Tryd.prog 2 Q n 38 [str p.user] h) (show k + 1000900 = k + 500 + 1000400 by omega)).trans e1
 have l19 := (b.ext x1).ld (i := 19) rfl
 refine ⟨h1,?_,x1⟩
 cases hv : val p.user with
 | false =>
  rw [hv] at e1
  simp only [pajV,qY,Nat.zero_add,qZ,l18,e1,qX,qQ,un_not,Bool.not_false,cond_true]
  rfl
 | true =>
  rw [hv] at e1
  rw [if_pos rfl]
  by_cases hp : 65535 < p.pass.length
  · have d : decide ((65535 : Int) < (p.pass.length : Int)) = true := decide_eq_true (by omega)
    rw [if_pos hp]
    simp only [pajV,qY,Nat.zero_add,qZ,l18,e1,qX,qQ,un_not,Bool.not_true,cond_false,l19,qJ,zY,d,cond_true]
    rfl
  · have d : decide ((65535 : Int) < (p.pass.length : Int)) = false := decide_eq_false (by omega)
    rw [if_neg hp]
    simp only [pajV,qY,Nat.zero_add,qZ,l18,e1,qX,qQ,un_not,Bool.not_true,cond_false,l19,qJ,zY,d]
    rfl
theorem d55 (k L : Nat) {t : Nat} {p : Pq} {es : List Sb} {w : Value} (hB : Ext B h) (bd : Bd p es) (b : BQ h t p w) (n : Nat) (hn : n ≤ 6000000) :
 ∃ h',pafS (callO Tryd.prog 2 Q (k + 1000900)) L (ptrV t) (.int .i64 (n : Int)) h (fun x2 h => some (x2,h)) = some (optV (match pasO p n with | none => none | some n => if val p.user then (if 65535 < p.pass.length then none else some n) else none),h') ∧ Ext h h' := by
 have l17 := b.ld (i := 17) rfl
 have l19 := b.ld (i := 19) rfl
 unfold pasO
 cases hp : p.hp with
 | true =>
  have l17 := l17.trans (congrArg (fun b => some (Value.bool b)) hp)
  have hb := bd.pass
  have w1 : IntKind.i64.wrap (2 + (p.pass.length : Int)) = ((2 + p.pass.length : Nat) : Int) := by rw [wrap64 (by omega) (by omega)]; omega
  have w2 : IntKind.i64.wrap ((n : Int) + ((2 + p.pass.length : Nat) : Int)) = ((n + (2 + p.pass.length) : Nat) : Int) := by rw [wrap64 (by omega) (by omega)]; omega
  obtain ⟨h',e,x⟩ := e55 ka va ok k L hB bd b (n + (2 + p.pass.length))
  refine ⟨h',?_,x⟩
  simp only [pafS,palK,qY,Nat.zero_add,qZ,l17,qQ,cond_true,l19,qJ,bin_add,w1,w2,e,if_true]
 | false =>
  have l17 := l17.trans (congrArg (fun b => some (Value.bool b)) hp)
  have ne := str_ne9 p.pass []
  have ne : A.bin Tryd.prog .neq 9 (str p.pass) (.string ⟨⟨[]⟩⟩) = _ := ne
  by_cases hz : p.pass = []
  · rw [decide_eq_true hz] at ne
    obtain ⟨h',e,x⟩ := e55 ka va ok k L hB bd b n
    refine ⟨h',?_,x⟩
    simp only [pafS,palK,qY,Nat.zero_add,qZ,l17,qQ,cond_false,l19,ne,Bool.not_true,e,Bool.false_eq_true,if_false,if_pos hz]
  · rw [decide_eq_false hz] at ne
    refine ⟨h,?_,Ext.refl h⟩
    simp only [pafS,palK,qY,Nat.zero_add,qZ,l17,qQ,cond_false,l19,ne,Bool.not_false,cond_true,Bool.false_eq_true,if_false,if_neg hz]
    rfl
theorem c55 (k L : Nat) {t : Nat} {p : Pq} {es : List Sb} {w : Value} (hB : Ext B h) (bd : Bd p es) (b : BQ h t p w) (n : Nat) (hn : n ≤ 4000000) :
 ∃ h',pacJ (callO Tryd.prog 2 Q (k + 1000900)) L (ptrV t) (.int .i64 (n : Int)) h (fun x2 h => some (x2,h)) = some (optV (match usrO p n with | none => none | some n => match pasO p n with | none => none | some n => if val p.user then (if 65535 < p.pass.length then none else some n) else none),h') ∧ Ext h h' := by
 have l16 := b.ld (i := 16) rfl
 have l17 := b.ld (i := 17) rfl
 have l18 := b.ld (i := 18) rfl
 unfold usrO
 cases hu : p.hu with
 | true =>
  have l16 := l16.trans (congrArg (fun b => some (Value.bool b)) hu)
  have hb := bd.user
  have w1 : IntKind.i64.wrap (2 + (p.user.length : Int)) = ((2 + p.user.length : Nat) : Int) := by rw [wrap64 (by omega) (by omega)]; omega
  have w2 : IntKind.i64.wrap ((n : Int) + ((2 + p.user.length : Nat) : Int)) = ((n + (2 + p.user.length) : Nat) : Int) := by rw [wrap64 (by omega) (by omega)]; omega
  obtain ⟨h',e,x⟩ := d55 ka va ok k L hB bd b (n + (2 + p.user.length)) (by omega)
  refine ⟨h',?_,x⟩
  simp only [pacJ,paeI,pajU,qY,Nat.zero_add,qZ,l16,qQ,pagH,qW,cond_true,papN,l18,qJ,bin_add,w1,w2,e,if_true]
 | false =>
  have l16 := l16.trans (congrArg (fun b => some (Value.bool b)) hu)
  have ne := str_ne9 p.user []
  have ne : A.bin Tryd.prog .neq 9 (str p.user) (.string ⟨⟨[]⟩⟩) = _ := ne
  by_cases hz : p.user = []
  · rw [decide_eq_true hz] at ne
    cases hp : p.hp with
    | true =>
     have l17 := l17.trans (congrArg (fun b => some (Value.bool b)) hp)
     refine ⟨h,?_,Ext.refl h⟩
     simp only [pacJ,paeI,pajU,qY,Nat.zero_add,qZ,l16,qQ,pagH,qW,cond_false,palJ,l18,ne,Bool.not_true,l17,cond_true,Bool.false_eq_true,if_false,if_true,if_pos hz]
     rfl
    | false =>
     have l17 := l17.trans (congrArg (fun b => some (Value.bool b)) hp)
     obtain ⟨h',e,x⟩ := d55 ka va ok k L hB bd b n (by omega)
     refine ⟨h',?_,x⟩
     simp only [pacJ,paeI,pajU,qY,Nat.zero_add,qZ,l16,qQ,pagH,qW,cond_false,palJ,l18,ne,Bool.not_true,l17,e,Bool.false_eq_true,if_false,if_pos hz]
  · rw [decide_eq_false hz] at ne
    refine ⟨h,?_,Ext.refl h⟩
    simp only [pacJ,paeI,pajU,qY,Nat.zero_add,qZ,l16,qQ,pagH,qW,cond_false,palJ,l18,ne,Bool.not_false,cond_true,Bool.false_eq_true,if_false,if_neg hz]
    rfl
theorem b55 (k L : Nat) {t : Nat} {p : Pq} {es : List Sb} {w : Value} (hB : Ext B h) (bd : Bd p es) (b : BQ h t p w) (n : Nat) (hn : n ≤ 1000350) :
 ∃ h',paaS (callO Tryd.prog 2 Q (k + 1000900)) L (ptrV t) (.int .i64 (n : Int)) h (fun x2 h => some (x2,h)) = some (optV (match wilO nm p n with | none => none | some n => match usrO p n with | none => none | some n => match pasO p n with | none => none | some n => if val p.user then (if 65535 < p.pass.length then none else some n) else none),h') ∧ Ext h h' := by
 have l11 := b.ld (i := 11) rfl
 have l12 := b.ld (i := 12) rfl
 have lw : A.load true 4 (.pointer (some ⟨t,12,none⟩)) h = some (.agg ⟨[str p.wt,str p.wp,.int .u8 (p.wq : Int),.bool p.wr]⟩) := by rw [loadN_eq,b.1]; rfl
 unfold wilO
 cases hw : p.will with
 | true =>
  have l11 := l11.trans (congrArg (fun b => some (Value.bool b)) hw)
  obtain ⟨h1,e1,x1⟩ := ok.nm k h p.wt hB bd.wt
  have b1 := b.ext x1
  have l12' := b1.ld (i := 12) rfl
  have l13 := b1.ld (i := 13) rfl
  have l14 := b1.ld (i := 14) rfl
  have hwt := bd.wt
  have hwp := bd.wp
  have w2 : IntKind.i64.wrap (4 + (p.wt.length : Int)) = ((4 + p.wt.length : Nat) : Int) := by rw [wrap64 (by omega) (by omega)]; omega
  have w3 : IntKind.i64.wrap (((4 + p.wt.length : Nat) : Int) + (p.wp.length : Int)) = ((4 + p.wt.length + p.wp.length : Nat) : Int) := by rw [wrap64 (by omega) (by omega)]; omega
  have w4 : IntKind.i64.wrap ((n : Int) + ((4 + p.wt.length + p.wp.length : Nat) : Int)) = ((n + (4 + p.wt.length + p.wp.length) : Nat) : Int) := by rw [wrap64 (by omega) (by omega)]; omega
  cases hn1 : nm p.wt with
  | false =>
   rw [hn1] at e1
   refine ⟨h1,?_,x1⟩
   simp only [paaS,pacE,paiD,qY,Nat.zero_add,Nat.add_zero,Nat.reduceAdd,qZ,l11,qQ,padC,qW,cond_true,paeE,pafH,pajS,l12,e1,qX,un_not,Bool.not_false,pajT,if_true,Bool.false_eq_true,if_false]
   rfl
  | true =>
   rw [hn1] at e1
   by_cases hpl : 65535 < p.wp.length
   · have dp : decide ((65535 : Int) < (p.wp.length : Int)) = true := decide_eq_true (by omega)
     refine ⟨h1,?_,x1⟩
     simp only [paaS,pacE,paiD,qY,Nat.zero_add,Nat.add_zero,Nat.reduceAdd,qZ,l11,qQ,padC,qW,cond_true,cond_false,paeE,pafH,pajS,l12,e1,qX,un_not,Bool.not_true,l13,qJ,zY,dp,pajT,if_true,if_pos hpl]
     rfl
   have dp : decide ((65535 : Int) < (p.wp.length : Int)) = false := decide_eq_false (by omega)
   by_cases hq : 2 < p.wq
   · have dq : decide ((2 : Int) < (p.wq : Int)) = true := decide_eq_true (by omega)
     refine ⟨h1,?_,x1⟩
     simp only [paaS,pacE,paiD,qY,Nat.zero_add,Nat.add_zero,Nat.reduceAdd,qZ,l11,qQ,padC,qW,cond_true,cond_false,paeE,pafH,pajS,l12,e1,qX,un_not,Bool.not_true,l13,qJ,zY,dp,l14,dq,pajT,if_true,if_neg hpl,if_pos hq]
     rfl
   · have dq : decide ((2 : Int) < (p.wq : Int)) = false := decide_eq_false (by omega)
     obtain ⟨h',e,x⟩ := c55 ka va ok k L (hB.trans x1) bd b1 (n + (4 + p.wt.length + p.wp.length)) (by omega)
     refine ⟨h',?_,x1.trans x⟩
     simp only [paaS,pacE,paiD,qY,Nat.zero_add,Nat.add_zero,Nat.reduceAdd,qZ,l11,qQ,padC,qW,cond_true,cond_false,paeE,pafH,pajS,l12,e1,qX,un_not,Bool.not_true,l13,qJ,zY,dp,l14,dq,pajT,papM,l12',bin_add,w2,w3,w4,e,if_true,if_neg hpl,if_neg hq]
 | false =>
  have l11 := l11.trans (congrArg (fun b => some (Value.bool b)) hw)
  have bl : A.build WcA.Z27L [] = some (.agg ⟨[str [],str [],.int .u8 0,.bool false]⟩) := by kernel_rfl
  have ne := will_ne p
  cases hz : wz p with
  | true =>
   rw [hz] at ne
   obtain ⟨h',e,x⟩ := c55 ka va ok k L hB bd b n (by omega)
   refine ⟨h',?_,x⟩
   simp only [paaS,pacE,paiD,qY,Nat.zero_add,Nat.add_zero,qZ,l11,qQ,padC,qW,cond_false,pamU,lw,bl,ne,Bool.not_true,e,Bool.false_eq_true,if_false,if_true]
  | false =>
   rw [hz] at ne
   refine ⟨h,?_,Ext.refl h⟩
   simp only [paaS,pacE,paiD,qY,Nat.zero_add,Nat.add_zero,qZ,l11,qQ,padC,qW,cond_false,pamU,lw,bl,ne,Bool.not_false,cond_true,Bool.false_eq_true,if_false]
   rfl
theorem T55q (k : Nat) {p : Pq} {es : List Sb} {w : Value} (hw : cellsL w = some [w]) (hB : Ext B h) (bd : Bd p es) :
 ∃ h',callO Tryd.prog 2 Q (k + 1000901) 22 [.agg ⟨p.cells w⟩] h = some (optV (conO val nm p),h') ∧ Ext h h' := by
 rw [F22eq Q (k + 1000900) _ h (ka.fr 22 _ (by decide))]
 obtain ⟨ha,ea,b,x,_⟩ := box_pq p hw h
 have l7 := b.ld (i := 7) rfl
 have l10 := b.ld (i := 10) rfl
 unfold conO
 by_cases h4 : p.level = 4
 · have d4 : decide ((p.level : Int) = 4) = true := decide_eq_true (by omega)
   obtain ⟨h1,e1,x1⟩ := va.va (k + 500) ha p.client (hB.trans x) bd.client
   have e1 := (congrArg (fun n => callO Tryd.prog 2 Q n 38 [str p.client] ha) (show k + 1000900 = k + 500 + 1000400 by omega)).trans e1
   rw [if_pos h4]
   cases hv : val p.client with
   | false =>
    rw [hv] at e1
    refine ⟨h1,?_,x.trans x1⟩
    simp only [F22,p22a,palH,ea,qX,palI,qY,Nat.zero_add,qZ,l7,bin_neq,d4,Bool.not_true,qQ,cond_false,l10,e1,un_not,Bool.not_false,cond_true,Bool.false_eq_true,if_false]
    rfl
   | true =>
    rw [hv] at e1
    have b1 := b.ext x1
    have l10' := b1.ld (i := 10) rfl
    have hcl := bd.client
    have w1 : IntKind.i64.wrap (12 + (p.client.length : Int)) = ((12 + p.client.length : Nat) : Int) := by rw [wrap64 (by omega) (by omega)]; omega
    obtain ⟨h2,e2,x2⟩ := b55 ka va ok k (k + 1000900) ((hB.trans x).trans x1) bd b1 (12 + p.client.length) (by omega)
    refine ⟨h2,?_,(x.trans x1).trans x2⟩
    rw [if_pos rfl]
    simp only [F22,p22a,palH,ea,qX,palI,qY,Nat.zero_add,qZ,l7,bin_neq,d4,Bool.not_true,qQ,cond_false,l10,e1,un_not,papL,l10',qJ,bin_add,w1]
    exact e2
 · have d4 : decide ((p.level : Int) = 4) = false := decide_eq_false (by omega)
   rw [if_neg h4]
   refine ⟨ha,?_,x⟩
   simp only [F22,p22a,palH,ea,qX,palI,qY,Nat.zero_add,qZ,l7,bin_neq,d4,Bool.not_false,qQ,cond_true]
   rfl
theorem conO_le {p : Pq} {es : List Sb} (bd : Bd p es) {n : Nat} (e : conO val nm p = some n) : n ≤ 9000000 := by
 have _ := ka
 have _ := va
 have _ := ok
 have h1 := bd.client
 unfold conO at e
 split at e
 · split at e
   · split at e
     · cases e
     · rename_i a ea
       split at e
       · cases e
       · rename_i b eb
         split at e
         · cases e
         · rename_i c ec
           have := wilO_le ea bd.wt bd.wp
           have := usrO_le eb bd.user
           have := pasO_le ec bd.pass
           split at e
           · split at e
             · cases e
             · cases e; omega
           · cases e
   · cases e
 · cases e
end
end Go.Proofs.YtohapjojkjjflaaDoor.Wc

namespace Go.Proofs.YtohapjojkjjflaaDoor.Wc
open Go Go.AM WcA
theorem suL_le (fi : List UInt8 → Bool) (most more : Nat) (hm : more ≤ 1) : ∀ (l : List Sb) (n m : Nat),(∀ s ∈ l,s.1.length ≤ 1000300 ∧ s.2 < 256) → suL fi most more l n = some m → m ≤ n + 1000303 * l.length
 | [],n,m,_,e => by cases e; simp
 | s :: l,n,m,hl,e => by
  have e : (if fi s.1 then (if most < s.2 then none else suL fi most more l (n + (2 + s.1.length + more))) else none) = some m := e
  split at e
  · split at e
    · cases e
    · have := suL_le fi most more hm l _ m (fun s hs => hl s (List.mem_cons_of_mem _ hs)) e
      have := (hl s (List.mem_cons_self ..)).1
      rw [List.length_cons]
      omega
  · cases e
theorem more_le (k : Nat) : moreN k ≤ 1 := by unfold moreN; split <;> omega
theorem idO_le {p : Pq} {n : Nat} (e : idO p = some n) : n = 2 := by
 unfold idO at e
 split at e
 · cases e
 · cases e; rfl
section
variable {Q : Orc} {B : H} {val nm fi : List UInt8 → Bool} (ka : KnA Q) (va : VA Q B val) (ok : OK3 Q B nm fi) {h : H}
include ka va ok
theorem T56q (k : Nat) {p : Pq} {es : List Sb} {w : Value} (hw : cellsL w = some [w]) (hB : Ext B h) (bd : Bd p es) :
 ∃ h',callO Tryd.prog 2 Q (k + 1000901) 23 [.agg ⟨p.cells w⟩] h = some (optV (pubO nm p),h') ∧ Ext h h' := by
 have _ := va
 rw [F23eq Q (k + 1000900) _ h (ka.fr 23 _ (by decide))]
 obtain ⟨ha,ea,b,x,_⟩ := box_pq p hw h
 have l5 := b.ld (i := 5) rfl
 obtain ⟨h1,e1,x1⟩ := ok.nm k ha p.topic (hB.trans x) bd.topic
 have b1 := b.ext x1
 have l5' := b1.ld (i := 5) rfl
 have l6 := b1.ld (i := 6) rfl
 have l2 := b1.ld (i := 2) rfl
 have l4 := b1.ld (i := 4) rfl
 have ld := b1.ld (i := 1) rfl
 unfold pubO
 refine ⟨h1,?_,x.trans x1⟩
 cases hn : nm p.topic with
 | false =>
  rw [hn] at e1
  simp only [F23,p23a,palL,ea,qX,pabP,palM,qY,Nat.zero_add,qZ,l5,e1,qQ,un_not,Bool.not_false,cond_true,Bool.false_eq_true,if_false]
  rfl
 | true =>
  rw [hn] at e1
  rw [if_pos rfl]
  have ht := bd.topic
  have hp := bd.payload
  by_cases hq : 2 < p.qos
  · have dq : decide ((2 : Int) < (p.qos : Int)) = true := decide_eq_true (by omega)
    rw [if_pos hq]
    simp only [F23,p23a,palL,ea,qX,pabP,palM,qY,Nat.zero_add,qZ,l5,e1,qQ,un_not,Bool.not_true,cond_false,l2,zY,dq,cond_true]
    rfl
  · have dq : decide ((2 : Int) < (p.qos : Int)) = false := decide_eq_false (by omega)
    rw [if_neg hq]
    have w1 : IntKind.i64.wrap (2 + (p.topic.length : Int)) = ((2 + p.topic.length : Nat) : Int) := by rw [wrap64 (by omega) (by omega)]; omega
    have w2 : IntKind.i64.wrap (((2 + p.topic.length : Nat) : Int) + (p.payload.length : Int)) = ((2 + p.topic.length + p.payload.length : Nat) : Int) := by rw [wrap64 (by omega) (by omega)]; omega
    have w3 : IntKind.i64.wrap (((2 + p.topic.length + p.payload.length : Nat) : Int) + 2) = ((2 + p.topic.length + p.payload.length + 2 : Nat) : Int) := by rw [wrap64 (by omega) (by omega)]; omega
    have hd : ∀ kr : Value → H → Option (Value × H),pabP (callO Tryd.prog 2 Q (k + 1000900)) (k + 1000900) (ptrV h.next) ha kr = pacH (callO Tryd.prog 2 Q (k + 1000900)) (k + 1000900) (ptrV h.next) (.int .i64 ((2 + p.topic.length + p.payload.length : Nat) : Int)) h1 kr := by
     intro kr
     simp only [pabP,palM,qY,Nat.zero_add,qZ,qX,l5,e1,qQ,un_not,Bool.not_true,cond_false,l2,zY,dq,papO,l5',qJ,bin_add,w1,l6,w2]
    simp only [F23,p23a,palL,ea,qX]
    rw [hd]
    by_cases q0 : 0 < p.qos
    · have d1 : decide ((0 : Int) < (p.qos : Int)) = true := decide_eq_true (by omega)
      by_cases i0 : 0 < p.id
      · have d2 : decide ((0 : Int) < (p.id : Int)) = true := decide_eq_true (by omega)
        rw [if_pos ⟨q0,i0⟩]
        simp only [pacH,pacW,paiW,qY,Nat.zero_add,qZ,l2,zY,d1,qQ,cond_true,l4,d2,paeC,qW,papP,bin_add,w3]
        rfl
      · have d2 : decide ((0 : Int) < (p.id : Int)) = false := decide_eq_false (by omega)
        rw [if_neg (fun c => i0 c.2),if_pos (.inl q0)]
        simp only [pacH,pacW,paiW,qY,Nat.zero_add,qZ,l2,zY,d1,qQ,cond_true,l4,d2,paeC,qW,cond_false,pafI,pajW,pajX]
        rfl
    · have d1 : decide ((0 : Int) < (p.qos : Int)) = false := decide_eq_false (by omega)
      rw [if_neg (fun c => q0 c.1)]
      by_cases i0 : 0 < p.id
      · have d2 : decide ((0 : Int) < (p.id : Int)) = true := decide_eq_true (by omega)
        rw [if_pos (.inr (.inl i0))]
        simp only [pacH,pacW,paiW,qY,Nat.zero_add,qZ,l2,zY,d1,qQ,cond_true,l4,d2,paeC,qW,cond_false,pafI,pajW,pajX]
        rfl
      · have d2 : decide ((0 : Int) < (p.id : Int)) = false := decide_eq_false (by omega)
        cases hd : p.dup with
        | true =>
         have ld := ld.trans (congrArg (fun b => some (Value.bool b)) hd)
         rw [if_pos (.inr (.inr rfl))]
         simp only [pacH,pacW,paiW,qY,Nat.zero_add,qZ,l2,zY,d1,qQ,cond_true,l4,d2,ld,paeC,qW,cond_false,pafI,pajW,pajX]
         rfl
        | false =>
         have ld := ld.trans (congrArg (fun b => some (Value.bool b)) hd)
         rw [if_neg (by intro c; rcases c with c | c | c; exact q0 c; exact i0 c; cases c)]
         simp only [pacH,pacW,paiW,qY,Nat.zero_add,qZ,l2,zY,d1,qQ,l4,d2,ld,paeC,qW,cond_false,pafI,pajW,pajX,papQ]
         rfl
theorem lp58 (k L : Nat) {most more : Nat} (hmo : more ≤ 1) {w : Value} {l : List Sb} (hl : l.length ≤ 1000301) (hs : ∀ s ∈ l,s.1.length ≤ 1000300 ∧ s.2 < 256) :
 ∀ (d i m : Nat) (h : H) (a : Nat),i + d = l.length → d < m → Ext B h → SliceE 2 h w (l.map sbC) → a ≤ i * 1000303 + 100 →
  ∃ h',pahP (callO Tryd.prog 2 Q (k + 1000900)) L (fun x2 h => some (x2,h)) (fun x2 h => some (x2,h)) m (.int .i64 (l.length : Int)) (.int .i64 (i : Int)) (.int .i64 (more : Int)) (.int .u8 (most : Int)) w (.int .i64 (a : Int)) h = some (optV (suL fi most more (l.drop i) a),h') ∧ Ext h h' := by
 have _ := ka
 have _ := va
 intro d
 induction d with
 | zero =>
  intro i m h a hi hm hB sl ha
  obtain ⟨m,rfl⟩ : ∃ r,m = r + 1 := ⟨m - 1,by omega⟩
  have hd : decide ((i : Int) < (l.length : Int)) = false := by rw [decide_eq_false_iff_not]; omega
  have hdr : l.drop i = [] := List.drop_eq_nil_of_le (by omega)
  rw [hdr]
  refine ⟨h,?_,Ext.refl h⟩
  simp only [pahP,paeJ,pajY,zZ,hd,qZ,pajZ,qW,cond_false]
  rfl
 | succ d ih =>
  intro i m h a hi hm hB sl ha
  obtain ⟨m,rfl⟩ : ∃ r,m = r + 1 := ⟨m - 1,by omega⟩
  have hd : decide ((i : Int) < (l.length : Int)) = true := by rw [decide_eq_true_iff]; omega
  have hil : i < l.length := by omega
  obtain ⟨s,hsi⟩ : ∃ s,l[i]? = some s := ⟨l[i],List.getElem?_eq_getElem hil⟩
  obtain ⟨hs1,hs2⟩ := hs s (List.mem_of_getElem? hsi)
  rw [drop_cons hsi]
  obtain ⟨id,off,cells,own,ix,_,hg,h4,h5,_⟩ := sl.at (i := i) (e := sbC s) (by rw [List.getElem?_map,hsi]; rfl) .i64
  have ld : A.load true 2 (.pointer (some ⟨id,off,none⟩)) h = some (.agg ⟨sbC s⟩) := load_of hg h4 h5
  obtain ⟨h1,hh1⟩ : ∃ h1,h1 = h.push (.cells WcA.Z43L (some 0)) := ⟨_,rfl⟩
  have e1 : A.box 2 WcA.Z43 h = some (ptrV h.next,h1) := by rw [hh1]; rfl
  obtain ⟨h2,hh2⟩ : ∃ h2,h2 = h1.put h.next (.cells (sbC s) (some 0)) := ⟨_,rfl⟩
  have g1 : h1.get h.next = some (.cells WcA.Z43L (some 0)) := by rw [hh1,H.get_push,if_pos rfl]
  have hcl : cellsL (.agg ⟨sbC s⟩) = some (sbC s) := rfl
  have e2 : A.store 2 (ptrV h.next) (.agg ⟨sbC s⟩) h1 = some h2 := by
   rw [qU,g1,hcl,hh2]; rfl
  have x2 : Ext h h2 := by rw [hh2]; exact (hh1 ▸ Ext.push h _ : Ext h h1).put _ _ (Nat.le_refl _)
  have g2 : h2.get h.next = some (.cells (sbC s) (some 0)) := by rw [hh2,H.get_put,if_pos rfl]
  have n2 : h.next < h2.next := by rw [hh2,hh1]; exact Nat.lt_succ_self _
  have l0 : A.load false 1 (.pointer (some ⟨h.next,0,none⟩)) h2 = some (str s.1) := by rw [qK,g2]; rfl
  obtain ⟨h3,e3,x3⟩ := ok.fi k h2 s.1 (hB.trans x2) hs1
  have g3 : h3.get h.next = some (.cells (sbC s) (some 0)) := by rw [x3.get _ n2]; exact g2
  have l0' : A.load false 1 (.pointer (some ⟨h.next,0,none⟩)) h3 = some (str s.1) := by rw [qK,g3]; rfl
  have l1 : A.load false 1 (.pointer (some ⟨h.next,1,none⟩)) h3 = some (.int .u8 (s.2 : Int)) := by rw [qK,g3]; rfl
  have w1 : IntKind.i64.wrap (2 + (s.1.length : Int)) = ((2 + s.1.length : Nat) : Int) := by rw [wrap64 (by omega) (by omega)]; omega
  have w2 : IntKind.i64.wrap (((2 + s.1.length : Nat) : Int) + (more : Int)) = ((2 + s.1.length + more : Nat) : Int) := by rw [wrap64 (by omega) (by omega)]; omega
  have w3 : IntKind.i64.wrap ((a : Int) + ((2 + s.1.length + more : Nat) : Int)) = ((a + (2 + s.1.length + more) : Nat) : Int) := by rw [wrap64 (by omega) (by omega)]; omega
  have hwr : IntKind.i64.wrap ((i : Int) + 1) = ((i + 1 : Nat) : Int) := wrap_succ (by omega)
  cases hf : fi s.1 with
  | false =>
   rw [hf] at e3
   refine ⟨h3,?_,x2.trans x3⟩
   rw [show suL fi most more (s :: l.drop (i + 1)) a = none by simp [suL,hf]]
   simp only [pahP,paeJ,pajY,zZ,hd,qZ,pajZ,qW,cond_true,palR,ix,ld,e1,qX,e2,qY,Nat.zero_add,l0,e3,qQ,un_not,Bool.not_false]
   rfl
  | true =>
   rw [hf] at e3
   by_cases hq : most < s.2
   · have dq : decide ((most : Int) < (s.2 : Int)) = true := decide_eq_true (by omega)
     refine ⟨h3,?_,x2.trans x3⟩
     rw [show suL fi most more (s :: l.drop (i + 1)) a = none by simp [suL,hf,hq]]
     simp only [pahP,paeJ,pajY,zZ,hd,qZ,pajZ,qW,cond_true,cond_false,palR,ix,ld,e1,qX,e2,qY,Nat.zero_add,l0,e3,qQ,un_not,Bool.not_true,l1,zY,dq]
     rfl
   · have dq : decide ((most : Int) < (s.2 : Int)) = false := decide_eq_false (by omega)
     obtain ⟨h',e,y⟩ := ih (i + 1) m h3 (a + (2 + s.1.length + more)) (by omega) (by omega) ((hB.trans x2).trans x3) ((sl.ext x2).ext x3) (by omega)
     refine ⟨h',?_,(x2.trans x3).trans y⟩
     rw [show suL fi most more (s :: l.drop (i + 1)) a = suL fi most more (l.drop (i + 1)) (a + (2 + s.1.length + more)) by simp only [suL,hf,if_true,if_neg hq]]
     simp only [pahP,paeJ,pajY,zZ,hd,qZ,pajZ,qW,cond_true,palR,ix,ld,e1,qX,e2,qY,Nat.zero_add,l0,e3,qQ,un_not,Bool.not_true,cond_false,l1,zY,dq,l0',qJ,bin_add,w1,w2,w3,papS,hwr]
     exact e
theorem T58q (k : Nat) {p : Pq} {es : List Sb} {w : Value} (hw : cellsL w = some [w]) (hB : Ext B h) (bd : Bd p es) (sl : SliceE 2 h w (es.map sbC)) :
 ∃ h',callO Tryd.prog 2 Q (k + 1000901) 25 [.agg ⟨p.cells w⟩] h = some (optV (subO fi p es),h') ∧ Ext h h' := by
 rw [F25eq Q (k + 1000900) _ h (ka.fr 25 _ (by decide))]
 obtain ⟨ha,ea,b,x,_⟩ := box_pq p hw h
 obtain ⟨hb,eb,y⟩ := T57q ka (k + 1000899) ha p hw
 have eb : callO Tryd.prog 2 Q (k + 1000900) 24 [.agg ⟨p.cells w⟩] ha = _ := eb
 have b2 := b.ext y
 have l0 := b2.ld (i := 0) rfl
 have l22 := b2.ld (i := 22) rfl
 have slb := (sl.ext x).ext y
 have hlen : A.lenS w = some (.int .i64 (es.length : Int)) := by have := slb.len.1; rwa [List.length_map] at this
 have step : ∀ (v : Value) (K : Value → Value → Value → Value → H → Option (Value × H)),palP (callO Tryd.prog 2 Q (k + 1000900)) (k + 1000900) (ptrV h.next) (.int .i64 1) (.int .u8 2) v hb K = K (ptrV h.next) (.int .i64 (moreN p.kind : Int)) (.int .u8 (mostN p.kind : Int)) v hb := by
  intro v K
  unfold moreN mostN
  by_cases h10 : p.kind = 10
  · have d : decide ((p.kind : Int) = 10) = true := deq (by omega)
    rw [if_pos h10,if_pos h10]
    simp only [palP,qY,Nat.zero_add,qZ,l0,zQ,d,qQ,cond_true]
    rfl
  · have d : decide ((p.kind : Int) = 10) = false := dne (by omega)
    rw [if_neg h10,if_neg h10]
    simp only [palP,qY,Nat.zero_add,qZ,l0,zQ,d,qQ,cond_false]
    rfl
 unfold subO
 cases hid : idO p with
 | none =>
  rw [hid] at eb
  have eb : callO Tryd.prog 2 Q (k + 1000900) 24 [.agg ⟨p.cells w⟩] ha = some (.int .i64 (-1),hb) := eb
  have c2 : decide ((-1 : Int) < 0) = true := rfl
  refine ⟨hb,?_,x.trans y⟩
  simp only [F25,p25a,palN,ea,qX,palO,b.all,qZ,eb]
  rw [step]
  simp only [palQ,zZ,c2,qZ,qQ,cond_true]
  rfl
 | some n =>
  have hn := idO_le hid
  subst hn
  rw [hid] at eb
  have eb : callO Tryd.prog 2 Q (k + 1000900) 24 [.agg ⟨p.cells w⟩] ha = some (.int .i64 2,hb) := eb
  have c2 : decide ((2 : Int) < 0) = false := rfl
  by_cases hz : es = []
  · have dz : decide ((es.length : Int) = 0) = true := by rw [hz]; rfl
    refine ⟨hb,?_,x.trans y⟩
    simp only [if_pos hz]
    simp only [F25,p25a,palN,ea,qX,palO,b.all,qZ,eb]
    rw [step]
    simp only [palQ,zZ,c2,qZ,qQ,cond_false,qY,Nat.zero_add,l22,hlen,zQ,dz,cond_true]
    rfl
  · have hpos : 0 < es.length := Nat.pos_of_ne_zero (fun e => hz (List.eq_nil_of_length_eq_zero e))
    have dz : decide ((es.length : Int) = 0) = false := by rw [decide_eq_false_iff_not]; omega
    obtain ⟨h',e,z⟩ := lp58 ka va ok k (k + 1000900) (most := mostN p.kind) (more_le p.kind) bd.len bd.es es.length 0 (k + 1000900) hb 2 (by omega) (by have := bd.len; omega) ((hB.trans x).trans y) slb (by omega)
    rw [List.drop_zero] at e
    refine ⟨h',?_,(x.trans y).trans z⟩
    simp only [if_neg hz]
    simp only [F25,p25a,palN,ea,qX,palO,b.all,qZ,eb]
    rw [step]
    obtain ⟨M,hM⟩ : ∃ M,M = k + 1000900 := ⟨_,rfl⟩
    rw [← hM] at e ⊢
    simp only [palQ,zZ,c2,qZ,qQ,cond_false,qY,Nat.zero_add,l22,hlen,zQ,dz,pacP,papR,padE,papT]
    exact e
theorem subO_le {p : Pq} {es : List Sb} (bd : Bd p es) {n : Nat} (e : subO fi p es = some n) : n ≤ 10000000000000 := by
 have _ := ka
 have _ := va
 have _ := ok
 unfold subO at e
 split at e
 · cases e
 · rename_i a ea
   have := idO_le ea
   split at e
   · cases e
   · have := suL_le fi _ _ (more_le p.kind) es a n bd.es e
     have := bd.len
     omega
end
end Go.Proofs.YtohapjojkjjflaaDoor.Wc

namespace Go.Proofs.YtohapjojkjjflaaDoor.Wc
open Go Go.AM WcA
def Pq.F (p : Pq) (w : Value) : PkF where
 i := fun n => if n = 0 then p.kind else if n = 2 then p.qos else if n = 4 then p.id else if n = 7 then p.level else if n = 9 then p.keep else if n = 14 then p.wq else if n = 21 then p.code else 0
 b := fun n => if n = 1 then p.dup else if n = 3 then p.retain else if n = 8 then p.clean else if n = 11 then p.will else if n = 15 then p.wr else if n = 16 then p.hu else if n = 17 then p.hp else if n = 20 then p.present else false
 s := fun n => if n = 5 then ⟨⟨p.topic⟩⟩ else if n = 6 then ⟨⟨p.payload⟩⟩ else if n = 10 then ⟨⟨p.client⟩⟩ else if n = 12 then ⟨⟨p.wt⟩⟩ else if n = 13 then ⟨⟨p.wp⟩⟩ else if n = 18 then ⟨⟨p.user⟩⟩ else if n = 19 then ⟨⟨p.pass⟩⟩ else if n = 23 then ⟨⟨p.codes⟩⟩ else ⟨⟨[]⟩⟩
 w := w
noncomputable def pe (f g : PkF) : Bool := (A.eqV Tryd.prog 20 53 (.agg ⟨plainF f⟩) (.agg ⟨plainF g⟩)).getD false
theorem sbit (b r : Bool) : (bif b then some r else some false) = some (b && r) := by cases b <;> rfl
theorem peE (f g : PkF) : A.eqV Tryd.prog 20 53 (.agg ⟨plainF f⟩) (.agg ⟨plainF g⟩) = (bif (f.i 0 == g.i 0) then (bif (f.i 2 == g.i 2) then (bif (f.i 7 == g.i 7) then (bif (f.i 21 == g.i 21) then (bif (f.b 1 == g.b 1) then (bif (f.b 3 == g.b 3) then (bif (f.b 8 == g.b 8) then (bif (f.b 11 == g.b 11) then (bif (f.b 16 == g.b 16) then (bif (f.b 17 == g.b 17) then (bif (f.b 20 == g.b 20) then (bif (f.i 4 == g.i 4) then (bif (f.i 9 == g.i 9) then (bif ((f.s 5).data.toList == (g.s 5).data.toList) then (bif ((f.s 6).data.toList == (g.s 6).data.toList) then (bif ((f.s 10).data.toList == (g.s 10).data.toList) then (bif ((f.s 18).data.toList == (g.s 18).data.toList) then (bif ((f.s 19).data.toList == (g.s 19).data.toList) then (bif ((f.s 23).data.toList == (g.s 23).data.toList) then (match (bif ((f.s 12).data.toList == (g.s 12).data.toList) then (bif ((f.s 13).data.toList == (g.s 13).data.toList) then (bif (f.i 14 == g.i 14) then (bif (f.b 15 == g.b 15) then some true else some false) else some false) else some false) else some false) with | some q => (bif q then some true else some false) | none => none) else some false) else some false) else some false) else some false) else some false) else some false) else some false) else some false) else some false) else some false) else some false) else some false) else some false) else some false) else some false) else some false) else some false) else some false) else some false) := by kernel_rfl
theorem pe_some (f g : PkF) : A.eqV Tryd.prog 20 53 (.agg ⟨plainF f⟩) (.agg ⟨plainF g⟩) = some (pe f g) := by
 have e := peE f g
 have : ∃ r,A.eqV Tryd.prog 20 53 (.agg ⟨plainF f⟩) (.agg ⟨plainF g⟩) = some r := by
  rw [e]
  simp only [sbit]
  exact ⟨_,rfl⟩
 obtain ⟨r,hr⟩ := this
 unfold pe
 rw [hr]; rfl
theorem pe_dec (p q : Pq) : pe (p.F nilS) (q.F nilS) = decide (p = q) := by
 have i0 : ∀ p : Pq,(p.F nilS).i 0 = (p.kind : Int) := fun _ => rfl
 have i2 : ∀ p : Pq,(p.F nilS).i 2 = (p.qos : Int) := fun _ => rfl
 have i4 : ∀ p : Pq,(p.F nilS).i 4 = (p.id : Int) := fun _ => rfl
 have i7 : ∀ p : Pq,(p.F nilS).i 7 = (p.level : Int) := fun _ => rfl
 have i9 : ∀ p : Pq,(p.F nilS).i 9 = (p.keep : Int) := fun _ => rfl
 have i14 : ∀ p : Pq,(p.F nilS).i 14 = (p.wq : Int) := fun _ => rfl
 have i21 : ∀ p : Pq,(p.F nilS).i 21 = (p.code : Int) := fun _ => rfl
 have b1 : ∀ p : Pq,(p.F nilS).b 1 = p.dup := fun _ => rfl
 have b3 : ∀ p : Pq,(p.F nilS).b 3 = p.retain := fun _ => rfl
 have b8 : ∀ p : Pq,(p.F nilS).b 8 = p.clean := fun _ => rfl
 have b11 : ∀ p : Pq,(p.F nilS).b 11 = p.will := fun _ => rfl
 have b15 : ∀ p : Pq,(p.F nilS).b 15 = p.wr := fun _ => rfl
 have b16 : ∀ p : Pq,(p.F nilS).b 16 = p.hu := fun _ => rfl
 have b17 : ∀ p : Pq,(p.F nilS).b 17 = p.hp := fun _ => rfl
 have b20 : ∀ p : Pq,(p.F nilS).b 20 = p.present := fun _ => rfl
 have s5 : ∀ p : Pq,((p.F nilS).s 5).data.toList = p.topic := fun _ => rfl
 have s6 : ∀ p : Pq,((p.F nilS).s 6).data.toList = p.payload := fun _ => rfl
 have s10 : ∀ p : Pq,((p.F nilS).s 10).data.toList = p.client := fun _ => rfl
 have s12 : ∀ p : Pq,((p.F nilS).s 12).data.toList = p.wt := fun _ => rfl
 have s13 : ∀ p : Pq,((p.F nilS).s 13).data.toList = p.wp := fun _ => rfl
 have s18 : ∀ p : Pq,((p.F nilS).s 18).data.toList = p.user := fun _ => rfl
 have s19 : ∀ p : Pq,((p.F nilS).s 19).data.toList = p.pass := fun _ => rfl
 have s23 : ∀ p : Pq,((p.F nilS).s 23).data.toList = p.codes := fun _ => rfl
 unfold pe
 rw [peE]
 simp only [sbit,i0,i2,i4,i7,i9,i14,i21,b1,b3,b8,b11,b15,b16,b17,b20,s5,s6,s10,s12,s13,s18,s19,s23]
 rw [Bool.eq_iff_iff]
 obtain ⟨a0,a1,a2,a3,a4,a5,a6,a7,a8,a9,a10,a11,a12,a13,a14,a15,a16,a17,a18,a19,a20,a21,a22⟩ := p
 obtain ⟨c0,c1,c2,c3,c4,c5,c6,c7,c8,c9,c10,c11,c12,c13,c14,c15,c16,c17,c18,c19,c20,c21,c22⟩ := q
 simp only [Option.getD_some,Bool.and_eq_true,beq_iff_eq,decide_eq_true_eq,Pq.mk.injEq,Int.natCast_inj,Bool.cond_true_right,Bool.and_true]
 constructor
 · intro h; simp [h]
 · intro h; simp [h]
theorem bareB_pe (p : Pq) (es : List Sb) : bareB p es = (if es ≠ [] ∧ p.kind ≠ 8 ∧ p.kind ≠ 10 then false else pe (p.F nilS) (({ bz p with kind := p.kind } : Pq).F nilS)) := by
 unfold bareB; rw [pe_dec]
theorem pe_eql (f g : PkF) : A.bin Tryd.prog .eql 53 (.agg ⟨plainF f⟩) (.agg ⟨plainF g⟩) = some (.bool (pe f g)) := bin_agg_eql rfl rfl (by kernel_rfl) (pe_some f g)
theorem same_pq (p : Pq) : AM.same (.agg ⟨p.cells nilS⟩) (.agg ⟨p.cells nilS⟩) = true := by
 simp [AM.same,AM.sameA,AM.sameL,Pq.cells,nilS]
theorem storeQ {h : H} {t : Nat} {p : Pq} (b : BQ h t p nilS) (q : Pq) : ∃ h',A.store 24 (ptrV t) (.agg ⟨q.cells nilS⟩) h = some h' ∧ BQ h' t q nilS ∧ ExtBut (fun i => i = t) h h' := by
 obtain ⟨h',hh⟩ : ∃ h',h' = h.put t (.cells (q.cells nilS) (some 0)) := ⟨_,rfl⟩
 refine ⟨h',?_,⟨by rw [hh,H.get_put,if_pos rfl],by rw [hh]; exact b.2⟩,by rw [hh]; exact ExtBut.put ⟨Nat.le_refl _,fun _ _ _ => rfl⟩ t _ rfl⟩
 have hcl : cellsL (.agg ⟨q.cells nilS⟩) = some (q.cells nilS) := rfl
 rw [qU,b.1,hcl,hh]; rfl
section
variable {Q : Orc} (ka : KnA Q) {h : H}
include ka
theorem T59q (k : Nat) {p : Pq} {es : List Sb} {w : Value} (hw : cellsL w = some [w]) (bd : Bd p es) :
 ∃ h',callO Tryd.prog 2 Q (k + 1000901) 26 [.agg ⟨p.cells w⟩] h = some (optV (codO p),h') ∧ Ext h h' := by
 rw [F26eq Q (k + 1000900) _ h (ka.fr 26 _ (by decide))]
 obtain ⟨ha,ea,b,x,_⟩ := box_pq p hw h
 obtain ⟨hb,eb,y⟩ := T57q ka (k + 1000899) ha p hw
 have eb : callO Tryd.prog 2 Q (k + 1000900) 24 [.agg ⟨p.cells w⟩] ha = _ := eb
 have b2 := b.ext y
 have l23 := b2.ld (i := 23) rfl
 have hc := bd.codes
 unfold codO
 refine ⟨hb,?_,x.trans y⟩
 cases hid : idO p with
 | none =>
  rw [hid] at eb
  have eb : callO Tryd.prog 2 Q (k + 1000900) 24 [.agg ⟨p.cells w⟩] ha = some (.int .i64 (-1),hb) := eb
  have c2 : decide ((-1 : Int) < 0) = true := rfl
  simp only [F26,p26a,palS,ea,qX,palT,b.all,qZ,eb,palU,zZ,c2,qQ,cond_true]
  rfl
 | some n =>
  have hn := idO_le hid
  subst hn
  rw [hid] at eb
  have eb : callO Tryd.prog 2 Q (k + 1000900) 24 [.agg ⟨p.cells w⟩] ha = some (.int .i64 2,hb) := eb
  have c2 : decide ((2 : Int) < 0) = false := rfl
  have st := str_eq9 p.codes []
  have st : A.bin Tryd.prog .eql 9 (str p.codes) (.string ⟨⟨[]⟩⟩) = _ := st
  by_cases hz : p.codes = []
  · rw [decide_eq_true hz] at st
    simp only [if_pos hz]
    simp only [F26,p26a,palS,ea,qX,palT,b.all,qZ,eb,palU,zZ,c2,qQ,cond_false,qY,Nat.zero_add,l23,st,cond_true]
    rfl
  · rw [decide_eq_false hz] at st
    simp only [if_neg hz]
    have w1 : IntKind.i64.wrap (2 + (p.codes.length : Int)) = ((2 + p.codes.length : Nat) : Int) := by rw [wrap64 (by omega) (by omega)]; omega
    have lp : ∀ (d i m L : Nat),i + d = p.codes.length → d < m →
     pahQ (callO Tryd.prog 2 Q (k + 1000900)) L (fun x2 h => some (x2,h)) (fun x3 x1 h => pamW (callO Tryd.prog 2 Q (k + 1000900)) L x3 x1 h (fun x2 h => some (x2,h))) m (.int .i64 (p.codes.length : Int)) (.int .i64 (i : Int)) (.int .i64 2) (ptrV h.next) hb = some (optV (if (p.codes.drop i).all okc then some (2 + p.codes.length) else none),hb) := by
     intro d
     induction d with
     | zero =>
      intro i m L hi hm
      obtain ⟨m,rfl⟩ : ∃ r,m = r + 1 := ⟨m - 1,by omega⟩
      have hd : decide ((i : Int) < (p.codes.length : Int)) = false := by rw [decide_eq_false_iff_not]; omega
      rw [List.drop_eq_nil_of_le (by omega : p.codes.length ≤ i)]
      simp only [pahQ,paeF,pakA,zZ,hd,qZ,qQ,pakB,qW,cond_false,pamW,qY,Nat.zero_add,l23,qJ,bin_add,w1,List.all_nil,if_true]
      rfl
     | succ d ih =>
      intro i m L hi hm
      obtain ⟨m,rfl⟩ : ∃ r,m = r + 1 := ⟨m - 1,by omega⟩
      have hd : decide ((i : Int) < (p.codes.length : Int)) = true := by rw [decide_eq_true_iff]; omega
      obtain ⟨c,hci⟩ : ∃ c,p.codes[i]? = some c := ⟨_,List.getElem?_eq_getElem (by omega)⟩
      have ix := ixS hci
      have hwr : IntKind.i64.wrap ((i : Int) + 1) = ((i + 1 : Nat) : Int) := wrap_succ (by omega)
      rw [drop_cons hci,List.all_cons]
      have next := ih (i + 1) m L (by omega) (by omega)
      by_cases g2 : c.toNat ≤ 2
      · have dg : decide ((2 : Int) < (c.toNat : Int)) = false := decide_eq_false (by omega)
        have ho : okc c = true := decide_eq_true (.inl g2)
        rw [ho,Bool.true_and]
        simp only [pahQ,paeF,pakA,zZ,hd,qZ,qQ,pakB,qW,cond_true,palV,qY,Nat.zero_add,l23,ix,zY,dg,cond_false,pamV,bin_add,hwr]
        exact next
      · have dg : decide ((2 : Int) < (c.toNat : Int)) = true := decide_eq_true (by omega)
        by_cases g8 : c.toNat = 128
        · have d8 : decide ((c.toNat : Int) = 128) = true := decide_eq_true (by omega)
          have ho : okc c = true := decide_eq_true (.inr g8)
          rw [ho,Bool.true_and]
          simp only [pahQ,paeF,pakA,zZ,hd,qZ,qQ,pakB,qW,cond_true,palV,qY,Nat.zero_add,l23,ix,zY,dg,bin_neq,d8,Bool.not_true,cond_false,pamV,bin_add,hwr]
          exact next
        · have d8 : decide ((c.toNat : Int) = 128) = false := decide_eq_false (by omega)
          have ho : okc c = false := decide_eq_false (by omega)
          rw [ho,Bool.false_and]
          simp only [pahQ,paeF,pakA,zZ,hd,qZ,qQ,pakB,qW,cond_true,palV,qY,Nat.zero_add,l23,ix,zY,dg,bin_neq,d8,Bool.not_false,Bool.false_eq_true,if_false]
          rfl
    have lp := lp p.codes.length 0 (k + 1000900) (k + 1000900) (by omega) (by omega)
    rw [List.drop_zero] at lp
    obtain ⟨M,hM⟩ : ∃ M,M = k + 1000900 := ⟨_,rfl⟩
    rw [← hM] at eb lp ⊢
    simp only [F26,p26a,palS,ea,qX,palT,b.all,qZ,eb,palU,zZ,c2,qQ,cond_false,qY,Nat.zero_add,l23,st,pacO,papU,qJ,padD]
    exact lp
theorem codO_le {p : Pq} {es : List Sb} (bd : Bd p es) {n : Nat} (e : codO p = some n) : n ≤ 1001000 := by
 have _ := ka
 have := bd.codes
 unfold codO at e
 split at e
 · cases e
 · rename_i a ea
   have := idO_le ea
   split at e
   · cases e
   · split at e
     · cases e; omega
     · cases e
theorem tail60 (k L : Nat) (p q : Pq) {w : Value} {t1 t3 : Nat} (b1 : BQ h t1 p w) (b3 : BQ h t3 q nilS) (hne : t1 ≠ t3) :
 ∃ h',pamY (callO Tryd.prog 2 Q (k + 1)) L (ptrV t1) (ptrV t3) h (fun x2 h => some (x2,h)) = some (.bool (pe (p.F nilS) (({ q with kind := p.kind } : Pq).F nilS)),h') ∧ ExtBut (fun i => i = t3) h h' := by
 have l0 := b1.ld (i := 0) rfl
 obtain ⟨q',hq'⟩ : ∃ q' : Pq,q' = { q with kind := p.kind } := ⟨_,rfl⟩
 rw [← hq']
 obtain ⟨h1,hh1⟩ : ∃ h1,h1 = h.put t3 (.cells (q'.cells nilS) (some 0)) := ⟨_,rfl⟩
 have st : A.store 1 (.pointer (some ⟨t3,0,none⟩)) (.int .u8 (p.kind : Int)) h = some h1 := by
  rw [qU,b3.1,hh1,hq']; rfl
 have x1 : ExtBut (fun i => i = t3) h h1 := by rw [hh1]; exact ExtBut.put ⟨Nat.le_refl _,fun _ _ _ => rfl⟩ t3 _ rfl
 have c3 : BQ h1 t3 q' nilS := ⟨by rw [hh1,H.get_put,if_pos rfl],by rw [hh1]; exact b3.2⟩
 have c1 : BQ h1 t1 p w := b1.but x1 hne
 obtain ⟨h2,e2,x2⟩ := T143F ka k h1 (p.F w)
 have e2 : callO Tryd.prog 2 Q (k + 1) 17 [.agg ⟨p.cells w⟩] h1 = some (.agg ⟨plainF (p.F nilS)⟩,h2) := e2
 have d3 := c3.ext x2
 obtain ⟨h3,e3,x3⟩ := T143F ka k h2 (q'.F nilS)
 have e3 : callO Tryd.prog 2 Q (k + 1) 17 [.agg ⟨q'.cells nilS⟩] h2 = some (.agg ⟨plainF (q'.F nilS)⟩,h3) := e3
 have ck : chk (some (.agg ⟨q'.cells nilS⟩)) (.agg ⟨q'.cells nilS⟩) = true := chk1 (same_pq q')
 have pl := pe_eql (p.F nilS) (q'.F nilS)
 refine ⟨h3,?_,(x1.trans x2.but).trans x3.but⟩
 simp only [pamY,qY,Nat.zero_add,qZ,l0,st,c1.all,e2,qX,d3.all,c3.all,ck,Bool.and_true,cond_true,e3,pl,qQ]
theorem mid60 (C : CF) (L : Nat) {p : Pq} {w : Value} {t1 t3 : Nat} (b1 : BQ h t1 p w) (b3 : BQ h t3 (zq 0) nilS) (hne : t1 ≠ t3) :
 ∃ h3,(∀ K : Value → Value → H → Option (Value × H),paaL C L (ptrV t1) (ptrV t3) h K = K (ptrV t1) (ptrV t3) h3) ∧ BQ h3 t1 p w ∧ BQ h3 t3 (bz p) nilS ∧ ExtBut (fun i => i = t3) h h3 := by
 have _ := ka
 have l0 := b1.ld (i := 0) rfl
 have s := storeQ b3
 have w' : ∀ {q : Pq} {h3 : H},bz p = q → BQ h3 t3 q nilS → ExtBut (fun i => i = t3) h h3 → BQ h3 t1 p w ∧ BQ h3 t3 (bz p) nilS ∧ ExtBut (fun i => i = t3) h h3 := fun e b x => ⟨b1.but x hne,by rw [e]; exact b,x⟩
 have l1 := b1.ld (i := 1) rfl
 have l2 := b1.ld (i := 2) rfl
 have l3 := b1.ld (i := 3) rfl
 have l4 := b1.ld (i := 4) rfl
 have l5 := b1.ld (i := 5) rfl
 have l6 := b1.ld (i := 6) rfl
 have l7 := b1.ld (i := 7) rfl
 have l8 := b1.ld (i := 8) rfl
 have l9 := b1.ld (i := 9) rfl
 have l10 := b1.ld (i := 10) rfl
 have l11 := b1.ld (i := 11) rfl
 have l16 := b1.ld (i := 16) rfl
 have l17 := b1.ld (i := 17) rfl
 have l18 := b1.ld (i := 18) rfl
 have l19 := b1.ld (i := 19) rfl
 have l20 := b1.ld (i := 20) rfl
 have l21 := b1.ld (i := 21) rfl
 have l23 := b1.ld (i := 23) rfl
 have l12 : A.load true 4 (.pointer (some ⟨t1,12,none⟩)) h = some (.agg ⟨[str p.wt,str p.wp,.int .u8 (p.wq : Int),.bool p.wr]⟩) := by rw [loadN_eq,b1.1]; rfl
 by_cases k1 : p.kind = 1
 · have d1 : decide ((p.kind : Int) = 1) = true := deq (by omega)
   obtain ⟨h3,e,b,x⟩ := s { zq 0 with level := p.level,clean := p.clean,keep := p.keep,client := p.client,will := p.will,wt := p.wt,wp := p.wp,wq := p.wq,wr := p.wr,hu := p.hu,hp := p.hp,user := p.user,pass := p.pass }
   refine ⟨h3,fun K => ?_,w' (by unfold bz; rw [if_pos k1]) b x⟩
   have bd : A.build WcA.Z30L [(7,1,.int .u8 (p.level : Int)),(8,1,.bool p.clean),(9,1,.int .u16 (p.keep : Int)),(10,1,str p.client),(11,1,.bool p.will),(12,4,.agg ⟨[str p.wt,str p.wp,.int .u8 (p.wq : Int),.bool p.wr]⟩),(16,1,.bool p.hu),(17,1,.bool p.hp),(18,1,str p.user),(19,1,str p.pass)] = some (.agg ⟨({ zq 0 with level := p.level,clean := p.clean,keep := p.keep,client := p.client,will := p.will,wt := p.wt,wp := p.wp,wq := p.wq,wr := p.wr,hu := p.hu,hp := p.hp,user := p.user,pass := p.pass } : Pq).cells nilS⟩) := by kernel_rfl
   simp only [paaL,pahE,qY,Nat.zero_add,qZ,l0,paaP,pahF,zQ,d1,qQ,paaT,qW,cond_true,papZ,l7,l8,l9,l10,l11,l12,l16,l17,l18,l19,bd,e]
 have d1 : decide ((p.kind : Int) = 1) = false := dne (by omega)
 by_cases k2 : p.kind = 2
 · have d2 : decide ((p.kind : Int) = 2) = true := deq (by omega)
   obtain ⟨h3,e,b,x⟩ := s { zq 0 with present := p.present,code := p.code }
   refine ⟨h3,fun K => ?_,w' (by unfold bz; rw [if_neg k1,if_pos k2]) b x⟩
   have bd : A.build WcA.Z30L [(20,1,.bool p.present),(21,1,.int .u8 (p.code : Int))] = some (.agg ⟨({ zq 0 with present := p.present,code := p.code } : Pq).cells nilS⟩) := by kernel_rfl
   simp only [paaL,pahE,qY,Nat.zero_add,qZ,l0,paaP,pahF,zQ,d1,d2,qQ,paaT,qW,cond_false,cond_true,paaX,pahR,pabE,papY,l20,l21,bd,e]
 have d2 : decide ((p.kind : Int) = 2) = false := dne (by omega)
 by_cases k3 : p.kind = 3
 · have d3 : decide ((p.kind : Int) = 3) = true := deq (by omega)
   obtain ⟨h3,e,b,x⟩ := s { zq 0 with dup := p.dup,qos := p.qos,retain := p.retain,id := p.id,topic := p.topic,payload := p.payload }
   refine ⟨h3,fun K => ?_,w' (by unfold bz; rw [if_neg k1,if_neg k2,if_pos k3]) b x⟩
   have bd : A.build WcA.Z30L [(1,1,.bool p.dup),(2,1,.int .u8 (p.qos : Int)),(3,1,.bool p.retain),(4,1,.int .u16 (p.id : Int)),(5,1,str p.topic),(6,1,str p.payload)] = some (.agg ⟨({ zq 0 with dup := p.dup,qos := p.qos,retain := p.retain,id := p.id,topic := p.topic,payload := p.payload } : Pq).cells nilS⟩) := by kernel_rfl
   simp only [paaL,pahE,qY,Nat.zero_add,qZ,l0,paaP,pahF,zQ,d1,d2,d3,qQ,paaT,qW,cond_false,cond_true,paaX,pahR,pabE,pabQ,paiE,pacI,papX,l1,l2,l3,l4,l5,l6,bd,e]
 have d3 : decide ((p.kind : Int) = 3) = false := dne (by omega)
 by_cases k9 : p.kind = 9
 · have d9 : decide ((p.kind : Int) = 9) = true := deq (by omega)
   obtain ⟨h3,e,b,x⟩ := s { zq 0 with id := p.id,codes := p.codes }
   refine ⟨h3,fun K => ?_,w' (by unfold bz; rw [if_neg k1,if_neg k2,if_neg k3,if_pos k9]) b x⟩
   have bd : A.build WcA.Z30L [(4,1,.int .u16 (p.id : Int)),(23,1,str p.codes)] = some (.agg ⟨({ zq 0 with id := p.id,codes := p.codes } : Pq).cells nilS⟩) := by kernel_rfl
   simp only [paaL,pahE,qY,Nat.zero_add,qZ,l0,paaP,pahF,zQ,d1,d2,d3,d9,qQ,paaT,qW,cond_false,cond_true,paaX,pahR,pabE,pabQ,paiE,pacI,pacX,paiX,paeD,papW,l4,l23,bd,e]
 have d9 : decide ((p.kind : Int) = 9) = false := dne (by omega)
 by_cases k12 : p.kind = 12 ∨ p.kind = 13 ∨ p.kind = 14
 · have hbz : bz p = zq 0 := by unfold bz; rw [if_neg k1,if_neg k2,if_neg k3,if_neg k9,if_pos k12]
   refine ⟨h,fun K => ?_,b1,by rw [hbz]; exact b3,⟨Nat.le_refl _,fun _ _ _ => rfl⟩⟩
   rcases k12 with c | c | c
   · have d12 : decide ((p.kind : Int) = 12) = true := deq (by omega)
     simp only [paaL,pahE,qY,Nat.zero_add,qZ,l0,paaP,pahF,zQ,d1,d2,d3,d9,d12,qQ,paaT,qW,cond_false,cond_true,paaX,pahR,pabE,pabQ,paiE,pacI,pacX,paiX,paeD,pafJ,pakE,pakF]
   · have d12 : decide ((p.kind : Int) = 12) = false := dne (by omega)
     have d13 : decide ((p.kind : Int) = 13) = true := deq (by omega)
     simp only [paaL,pahE,qY,Nat.zero_add,qZ,l0,paaP,pahF,zQ,d1,d2,d3,d9,d12,d13,qQ,paaT,qW,cond_false,cond_true,paaX,pahR,pabE,pabQ,paiE,pacI,pacX,paiX,paeD,pafJ,pakE,pakF]
   · have d12 : decide ((p.kind : Int) = 12) = false := dne (by omega)
     have d13 : decide ((p.kind : Int) = 13) = false := dne (by omega)
     have d14 : decide ((p.kind : Int) = 14) = true := deq (by omega)
     simp only [paaL,pahE,qY,Nat.zero_add,qZ,l0,paaP,pahF,zQ,d1,d2,d3,d9,d12,d13,d14,qQ,paaT,qW,cond_false,cond_true,paaX,pahR,pabE,pabQ,paiE,pacI,pacX,paiX,paeD,pafJ,pakE,pakF]
 · have d12 : decide ((p.kind : Int) = 12) = false := dne (by omega)
   have d13 : decide ((p.kind : Int) = 13) = false := dne (by omega)
   have d14 : decide ((p.kind : Int) = 14) = false := dne (by omega)
   obtain ⟨h3,e,b,x⟩ := s { zq 0 with id := p.id }
   refine ⟨h3,fun K => ?_,w' (by unfold bz; rw [if_neg k1,if_neg k2,if_neg k3,if_neg k9,if_neg k12]) b x⟩
   have bd : A.build WcA.Z30L [(4,1,.int .u16 (p.id : Int))] = some (.agg ⟨({ zq 0 with id := p.id } : Pq).cells nilS⟩) := by kernel_rfl
   simp only [paaL,pahE,qY,Nat.zero_add,qZ,l0,paaP,pahF,zQ,d1,d2,d3,d9,d12,d13,d14,qQ,paaT,qW,cond_false,paaX,pahR,pabE,pabQ,paiE,pacI,pacX,paiX,paeD,pafJ,pakE,pakF,l4,bd,e]
theorem T60q (k : Nat) {p : Pq} {es : List Sb} {w : Value} (hw : cellsL w = some [w]) (sl : SliceE 2 h w (es.map sbC)) :
 ∃ h',callO Tryd.prog 2 Q (k + 2) 27 [.agg ⟨p.cells w⟩] h = some (.bool (bareB p es),h') ∧ Ext h h' := by
 rw [F27eq Q (k + 1) _ h (ka.fr 27 _ (by decide))]
 obtain ⟨h1,e1,b1,x1,n1⟩ := box_pq p hw h
 have l22 := b1.ld (i := 22) rfl
 have l0 := b1.ld (i := 0) rfl
 have hlen : A.lenS w = some (.int .i64 (es.length : Int)) := by have := sl.len.1; rwa [List.length_map] at this
 have stepA : ∀ (kr : Value → H → Option (Value × H)) (K : Value → H → Option (Value × H)),paeZ (callO Tryd.prog 2 Q (k + 1)) (k + 1) (ptrV h.next) h1 kr K = if es ≠ [] ∧ p.kind ≠ 8 ∧ p.kind ≠ 10 then kr (.bool false) h1 else K (ptrV h.next) h1 := by
  intro kr K
  by_cases hz : es = []
  · have d : decide ((0 : Int) < (es.length : Int)) = false := by rw [hz]; rfl
    rw [if_neg (fun c => c.1 hz)]
    simp only [paeZ,pakC,qY,Nat.zero_add,qZ,l22,hlen,zY,d,qQ,cond_false,pakD,qW]
  · have hpos : 0 < es.length := Nat.pos_of_ne_zero (fun e => hz (List.eq_nil_of_length_eq_zero e))
    have d : decide ((0 : Int) < (es.length : Int)) = true := by rw [decide_eq_true_iff]; omega
    by_cases h8 : p.kind = 8
    · have d8 : decide ((p.kind : Int) = 8) = true := deq (by omega)
      rw [if_neg (fun c => c.2.1 h8)]
      simp only [paeZ,pakC,qY,Nat.zero_add,qZ,l22,hlen,zY,d,qQ,cond_true,l0,bin_neq,d8,Bool.not_true,cond_false,pakD,qW]
    · have d8 : decide ((p.kind : Int) = 8) = false := dne (by omega)
      by_cases h10 : p.kind = 10
      · have d10 : decide ((p.kind : Int) = 10) = true := deq (by omega)
        rw [if_neg (fun c => c.2.2 h10)]
        simp only [paeZ,pakC,qY,Nat.zero_add,qZ,l22,hlen,zY,d,qQ,cond_true,l0,bin_neq,d8,Bool.not_false,d10,Bool.not_true,pakD,qW,cond_false]
      · have d10 : decide ((p.kind : Int) = 10) = false := dne (by omega)
        rw [if_pos ⟨hz,h8,h10⟩]
        simp only [paeZ,pakC,qY,Nat.zero_add,qZ,l22,hlen,zY,d,qQ,cond_true,l0,bin_neq,d8,Bool.not_false,d10,pakD,qW]
 rw [bareB_pe]
 by_cases hc : es ≠ [] ∧ p.kind ≠ 8 ∧ p.kind ≠ 10
 · refine ⟨h1,?_,x1⟩
   simp only [F27,p27a,pamX,e1,qX]
   rw [stepA,if_pos hc,if_pos hc]
 · obtain ⟨h2,hh2⟩ : ∃ h2,h2 = h1.push (.cells WcA.Z30L (some 0)) := ⟨_,rfl⟩
   have e2 : A.box 24 WcA.Z30 h1 = some (ptrV h1.next,h2) := by rw [hh2]; rfl
   have x2 : Ext h1 h2 := by rw [hh2]; exact Ext.push h1 _
   have b2 := b1.ext x2
   have g2 : BQ h2 h1.next (zq 0) nilS := ⟨by rw [hh2,H.get_push,if_pos rfl]; rfl,by rw [hh2]; exact Nat.lt_succ_self _⟩
   have hne : h.next ≠ h1.next := by omega
   obtain ⟨h3,e3,c1,c3,x3⟩ := mid60 ka (callO Tryd.prog 2 Q (k + 1)) (k + 1) b2 g2 hne
   obtain ⟨h4,e4,x4⟩ := tail60 ka k (k + 1) p (bz p) c1 c3 hne
   have fin : Ext h h4 := ⟨Nat.le_trans (x1.trans x2).next (x3.trans x4).next,fun i hi => by rw [(x3.trans x4).get i (Nat.lt_of_lt_of_le hi (x1.trans x2).next) (by omega),(x1.trans x2).get i hi]⟩
   refine ⟨h4,?_,fin⟩
   simp only [F27,p27a,pamX,e1,qX]
   rw [stepA,if_neg hc,if_neg hc]
   simp only [papV,e2,qX]
   rw [e3]; exact e4
end
end Go.Proofs.YtohapjojkjjflaaDoor.Wc

namespace Go.Proofs.YtohapjojkjjflaaDoor.Wc
open Go Go.AM WcA
section
variable {Q : Orc} {B : H} {val nm fi : List UInt8 → Bool} (ka : KnA Q) (va : VA Q B val) (ok : OK3 Q B nm fi) {h : H}
include ka va ok
theorem restO_le {p : Pq} {es : List Sb} (bd : Bd p es) {n : Nat} (e : restO val nm fi p es = some n) : n ≤ 10000000000000 := by
 unfold restO at e
 split at e
 · have := conO_le ka va ok bd e; omega
 split at e
 · split at e
   · split at e
     · cases e; omega
     · split at e
       · cases e
       · cases e; omega
   · cases e
 split at e
 · have h1 := bd.topic
   have h2 := bd.payload
   unfold pubO at e
   split at e
   · split at e
     · cases e
     · split at e
       · cases e; omega
       · split at e
         · cases e
         · cases e; omega
   · cases e
 split at e
 · have := idO_le e; omega
 split at e
 · exact subO_le ka va ok bd e
 split at e
 · have := codO_le ka bd e; omega
 split at e
 · cases e; omega
 · cases e
theorem disp36 (k L : Nat) {p : Pq} {es : List Sb} {w : Value} {t : Nat} (hw : cellsL w = some [w]) (hB : Ext B h) (bd : Bd p es) (sl : SliceE 2 h w (es.map sbC)) (b : BQ h t p w) :
 ∃ hb,(∀ K : Value → Value → H → Option (Value × H),paaC (callO Tryd.prog 2 Q (k + 1000901)) L (ptrV t) (.int .i64 (-1)) h K = K (ptrV t) (optV (restO val nm fi p es)) hb) ∧ Ext h hb := by
 have l0 := b.ld (i := 0) rfl
 unfold restO
 by_cases k1 : p.kind = 1
 · have d1 : decide ((p.kind : Int) = 1) = true := deq (by omega)
   obtain ⟨hb,e,y⟩ := T55q ka va ok k hw hB bd
   refine ⟨hb,fun K => ?_,y⟩
   rw [if_pos k1]
   simp only [paaC,pahK,qY,Nat.zero_add,qZ,l0,paaD,pahL,zQ,d1,qQ,paaE,qW,cond_true,paoY,b.all,e,qX]
 have d1 : decide ((p.kind : Int) = 1) = false := dne (by omega)
 rw [if_neg k1]
 by_cases k2 : p.kind = 2
 · have d2 : decide ((p.kind : Int) = 2) = true := deq (by omega)
   have l21 := b.ld (i := 21) rfl
   have l20 := b.ld (i := 20) rfl
   refine ⟨h,fun K => ?_,Ext.refl h⟩
   rw [if_pos k2]
   by_cases c5 : p.code ≤ 5
   · have e5 : decide ((p.code : Int) ≤ 5) = true := decide_eq_true (by omega)
     rw [if_pos c5]
     by_cases c0 : p.code = 0
     · have e0 : decide ((p.code : Int) = 0) = true := decide_eq_true (by omega)
       rw [if_pos c0]
       simp only [paaC,pahK,qY,Nat.zero_add,qZ,l0,paaD,pahL,zQ,d1,d2,qQ,paaE,qW,cond_true,cond_false,paaG,pahZ,paaJ,pafE,pajH,l21,bin_leq,e5,e0,pajI]
       rfl
     · have e0 : decide ((p.code : Int) = 0) = false := decide_eq_false (by omega)
       rw [if_neg c0]
       cases hp : p.present with
       | true =>
        have l20 := l20.trans (congrArg (fun b => some (Value.bool b)) hp)
        rw [if_pos rfl]
        simp only [paaC,pahK,qY,Nat.zero_add,qZ,l0,paaD,pahL,zQ,d1,d2,qQ,paaE,qW,cond_true,cond_false,paaG,pahZ,paaJ,pafE,pajH,l21,bin_leq,e5,e0,l20,un_not,Bool.not_true,pajI]
        rfl
       | false =>
        have l20 := l20.trans (congrArg (fun b => some (Value.bool b)) hp)
        rw [if_neg (by decide)]
        simp only [paaC,pahK,qY,Nat.zero_add,qZ,l0,paaD,pahL,zQ,d1,d2,qQ,paaE,qW,cond_true,cond_false,paaG,pahZ,paaJ,pafE,pajH,l21,bin_leq,e5,e0,l20,un_not,Bool.not_false,pajI]
        rfl
   · have e5 : decide ((p.code : Int) ≤ 5) = false := decide_eq_false (by omega)
     rw [if_neg c5]
     simp only [paaC,pahK,qY,Nat.zero_add,qZ,l0,paaD,pahL,zQ,d1,d2,qQ,paaE,qW,cond_true,cond_false,paaG,pahZ,paaJ,pafE,pajH,l21,bin_leq,e5,pajI]
     rfl
 have d2 : decide ((p.kind : Int) = 2) = false := dne (by omega)
 rw [if_neg k2]
 by_cases k3 : p.kind = 3
 · have d3 : decide ((p.kind : Int) = 3) = true := deq (by omega)
   obtain ⟨hb,e,y⟩ := T56q ka va ok k hw hB bd
   refine ⟨hb,fun K => ?_,y⟩
   rw [if_pos k3]
   simp only [paaC,pahK,qY,Nat.zero_add,qZ,l0,paaD,pahL,zQ,d1,d2,d3,qQ,paaE,qW,cond_false,cond_true,paaG,pahZ,paaJ,paaN,pamP,paaO,paoX,b.all,e,qX]
 have d3 : decide ((p.kind : Int) = 3) = false := dne (by omega)
 rw [if_neg k3]
 have st : ∀ (b4 : Bool) (K : Value → Value → H → Option (Value × H)),
  (∀ K' : Value → Value → Value → Value → H → Option (Value × H),padR (callO Tryd.prog 2 Q (k + 1000901)) L (.bool false) (.int .u8 (p.kind : Int)) (ptrV t) (.int .i64 (-1)) h K' = K' (.bool b4) (.int .u8 (p.kind : Int)) (ptrV t) (.int .i64 (-1)) h) →
  paaC (callO Tryd.prog 2 Q (k + 1000901)) L (ptrV t) (.int .i64 (-1)) h K = pabD (callO Tryd.prog 2 Q (k + 1000901)) L (.bool b4) (.int .u8 (p.kind : Int)) (ptrV t) (.int .i64 (-1)) h K := by
  intro b4 K s
  simp only [paaC,pahK,qY,Nat.zero_add,qZ,l0,paaD,pahL,zQ,d1,d2,d3,qQ,paaE,qW,cond_false,paaG,pahZ,paaJ,paaN,pamP,paaO,paaQ,s]
 by_cases k4 : p.kind = 4 ∨ p.kind = 5 ∨ p.kind = 6 ∨ p.kind = 7 ∨ p.kind = 11
 · obtain ⟨hb,e,y⟩ := T57q ka (k + 1000900) h p hw
   have e : callO Tryd.prog 2 Q (k + 1000901) 24 [.agg ⟨p.cells w⟩] h = _ := e
   refine ⟨hb,fun K => ?_,y⟩
   rw [if_pos k4]
   rw [st true K (fun K' => ?_)]
   · simp only [pabD,qW,cond_true,paoW,b.all,qZ,e,qX]
   · by_cases c4 : p.kind = 4
     · have d4 : decide ((p.kind : Int) = 4) = true := deq (by omega)
       simp only [padR,paiA,zQ,qZ,d4,qQ,pafC,qW,cond_true,paoU]
     have d4 : decide ((p.kind : Int) = 4) = false := dne (by omega)
     by_cases c5 : p.kind = 5
     · have d5 : decide ((p.kind : Int) = 5) = true := deq (by omega)
       simp only [padR,paiA,zQ,qZ,d4,d5,qQ,pafC,qW,cond_true,cond_false,paiO]
     have d5 : decide ((p.kind : Int) = 5) = false := dne (by omega)
     by_cases c6 : p.kind = 6
     · have d6 : decide ((p.kind : Int) = 6) = true := deq (by omega)
       simp only [padR,paiA,zQ,qZ,d4,d5,d6,qQ,pafC,qW,cond_true,cond_false,paiO]
     have d6 : decide ((p.kind : Int) = 6) = false := dne (by omega)
     by_cases c7 : p.kind = 7
     · have d7 : decide ((p.kind : Int) = 7) = true := deq (by omega)
       simp only [padR,paiA,zQ,qZ,d4,d5,d6,d7,qQ,pafC,qW,cond_true,cond_false,paiO]
     have d7 : decide ((p.kind : Int) = 7) = false := dne (by omega)
     have d11 : decide ((p.kind : Int) = 11) = true := deq (by omega)
     simp only [padR,paiA,zQ,qZ,d4,d5,d6,d7,d11,qQ,pafC,qW,cond_true,cond_false,paiO]
 rw [if_neg k4]
 have st : ∀ (K : Value → Value → H → Option (Value × H)),
  paaC (callO Tryd.prog 2 Q (k + 1000901)) L (ptrV t) (.int .i64 (-1)) h K = pabK (callO Tryd.prog 2 Q (k + 1000901)) L (.bool false) (.int .u8 (p.kind : Int)) (ptrV t) (.int .i64 (-1)) h K := by
  intro K
  have d4 : decide ((p.kind : Int) = 4) = false := dne (by omega)
  have d5 : decide ((p.kind : Int) = 5) = false := dne (by omega)
  have d6 : decide ((p.kind : Int) = 6) = false := dne (by omega)
  have d7 : decide ((p.kind : Int) = 7) = false := dne (by omega)
  have d11 : decide ((p.kind : Int) = 11) = false := dne (by omega)
  rw [st false K (fun K' => ?_)]
  · simp only [pabD,qW,cond_false]
  · simp only [padR,paiA,zQ,qZ,d4,d5,d6,d7,d11,qQ,pafC,qW,cond_false,paiO]
 by_cases k8 : p.kind = 8 ∨ p.kind = 10
 · obtain ⟨hb,e,y⟩ := T58q ka va ok k hw hB bd sl
   refine ⟨hb,fun K => ?_,y⟩
   rw [if_pos k8,st]
   by_cases c8 : p.kind = 8
   · have d8 : decide ((p.kind : Int) = 8) = true := deq (by omega)
     simp only [pabK,pahM,zQ,qZ,d8,qQ,cond_true,pacD,qW,pamQ,b.all,e,qX]
   · have d8 : decide ((p.kind : Int) = 8) = false := dne (by omega)
     have d10 : decide ((p.kind : Int) = 10) = true := deq (by omega)
     simp only [pabK,pahM,zQ,qZ,d8,d10,qQ,cond_true,cond_false,pacD,qW,pamQ,b.all,e,qX]
 have d8 : decide ((p.kind : Int) = 8) = false := dne (by omega)
 have d10 : decide ((p.kind : Int) = 10) = false := dne (by omega)
 rw [if_neg k8]
 by_cases k9 : p.kind = 9
 · have d9 : decide ((p.kind : Int) = 9) = true := deq (by omega)
   obtain ⟨hb,e,y⟩ := T59q ka (h := h) k hw bd
   refine ⟨hb,fun K => ?_,y⟩
   rw [if_pos k9,st]
   simp only [pabK,pahM,zQ,qZ,d8,d10,qQ,cond_false,pacD,qW,pacU,paiP,d9,paeA,cond_true,paoV,b.all,e,qX]
 have d9 : decide ((p.kind : Int) = 9) = false := dne (by omega)
 rw [if_neg k9]
 refine ⟨h,fun K => ?_,Ext.refl h⟩
 rw [st]
 by_cases k12 : p.kind = 12 ∨ p.kind = 13 ∨ p.kind = 14
 · rw [if_pos k12]
   rcases k12 with c | c | c
   · have d12 : decide ((p.kind : Int) = 12) = true := deq (by omega)
     simp only [pabK,pahM,zQ,qZ,d8,d10,qQ,cond_false,pacD,qW,pacU,paiP,d9,paeA,cond_true,pafD,pajF,d12,pajG]
     rfl
   · have d12 : decide ((p.kind : Int) = 12) = false := dne (by omega)
     have d13 : decide ((p.kind : Int) = 13) = true := deq (by omega)
     simp only [pabK,pahM,zQ,qZ,d8,d10,qQ,cond_false,pacD,qW,pacU,paiP,d9,paeA,cond_true,pafD,pajF,d12,d13,pajG]
     rfl
   · have d12 : decide ((p.kind : Int) = 12) = false := dne (by omega)
     have d13 : decide ((p.kind : Int) = 13) = false := dne (by omega)
     have d14 : decide ((p.kind : Int) = 14) = true := deq (by omega)
     simp only [pabK,pahM,zQ,qZ,d8,d10,qQ,cond_false,pacD,qW,pacU,paiP,d9,paeA,cond_true,pafD,pajF,d12,d13,d14,pajG]
     rfl
 · rw [if_neg k12]
   have d12 : decide ((p.kind : Int) = 12) = false := dne (by omega)
   have d13 : decide ((p.kind : Int) = 13) = false := dne (by omega)
   have d14 : decide ((p.kind : Int) = 14) = false := dne (by omega)
   simp only [pabK,pahM,zQ,qZ,d8,d10,qQ,cond_false,pacD,qW,pacU,paiP,d9,paeA,pafD,pajF,d12,d13,d14,pajG]
   rfl
theorem rst_le {p : Pq} {es : List Sb} {n : Nat} (e : rstO val nm fi p es = some n) : n ≤ 268435455 := by
 have _ := ka
 have _ := va
 have _ := ok
 unfold rstO at e
 split at e
 · cases e
 · split at e
   · cases e
   · split at e
     · cases e; omega
     · cases e
theorem T36q (k : Nat) {h : H} {p : Pq} {es : List Sb} {w : Value} (hB : Ext B h) (bd : Bd p es) (sl : SliceE 2 h w (es.map sbC)) :
 ∃ h',callO Tryd.prog 2 Q (k + 1000902) 13 [.agg ⟨p.cells w⟩] h = some (optV (rstO val nm fi p es),h') ∧ Ext h h' := by
 have hw := sl.cells
 rw [F13eq Q (k + 1000901) _ h (ka.fr 13 _ (by decide))]
 obtain ⟨ha,ea,b,x,_⟩ := box_pq p hw h
 obtain ⟨hb,ed,y⟩ := disp36 ka va ok k (k + 1000901) hw (hB.trans x) bd (sl.ext x) b
 unfold rstO
 have hle := fun {n : Nat} => restO_le ka va ok bd (n := n)
 cases hr : restO val nm fi p es with
 | none =>
  rw [hr] at ed
  have ed : ∀ K : Value → Value → H → Option (Value × H),paaC (callO Tryd.prog 2 Q (k + 1000901)) (k + 1000901) (ptrV h.next) (.int .i64 (-1)) ha K = K (ptrV h.next) (.int .i64 (-1)) hb := ed
  have c : decide ((-1 : Int) < 0) = true := rfl
  refine ⟨hb,?_,x.trans y⟩
  simp only [F13,p13a,pajD,ea,qX,pajE]
  rw [ed]
  simp only [pajJ,zZ,c,qZ,qQ,cond_true,optV]
 | some n =>
  rw [hr] at ed
  have hn := hle hr
  have ed : ∀ K : Value → Value → H → Option (Value × H),paaC (callO Tryd.prog 2 Q (k + 1000901)) (k + 1000901) (ptrV h.next) (.int .i64 (-1)) ha K = K (ptrV h.next) (.int .i64 (n : Int)) hb := ed
  have c : decide ((n : Int) < 0) = false := decide_eq_false (by omega)
  by_cases hm : 268435455 < n
  · have c2 : decide ((268435455 : Int) < (n : Int)) = true := decide_eq_true (by omega)
    refine ⟨hb,?_,x.trans y⟩
    simp only [if_pos hm]
    simp only [F13,p13a,pajD,ea,qX,pajE]
    rw [ed]
    simp only [pajJ,zZ,c,qZ,qQ,cond_false,zY,c2,cond_true,optV]
  have c2 : decide ((268435455 : Int) < (n : Int)) = false := decide_eq_false (by omega)
  have b2 := b.ext y
  obtain ⟨hc,ec,z⟩ := T60q ka (h := hb) (k + 1000899) (p := p) hw ((sl.ext x).ext y)
  have ec : callO Tryd.prog 2 Q (k + 1000901) 27 [.agg ⟨p.cells w⟩] hb = _ := ec
  simp only [if_neg hm]
  refine ⟨hc,?_,(x.trans y).trans z⟩
  cases hbb : bareB p es with
  | true =>
   rw [hbb] at ec
   simp only [F13,p13a,pajD,ea,qX,pajE]
   rw [ed]
   simp only [pajJ,zZ,c,qZ,qQ,cond_false,zY,c2,b2.all,ec,qX,un_not,Bool.not_true,if_true,optV]
  | false =>
   rw [hbb] at ec
   simp only [F13,p13a,pajD,ea,qX,pajE]
   rw [ed]
   simp only [pajJ,zZ,c,qZ,qQ,cond_false,zY,c2,b2.all,ec,qX,un_not,Bool.not_false,cond_true,Bool.false_eq_true,if_false,optV]
theorem T18q (k : Nat) {p : Pq} {es : List Sb} {w : Value} (hB : Ext B h) (bd : Bd p es) (sl : SliceE 2 h w (es.map sbC)) :
 ∃ h',callO Tryd.prog 2 Q (k + 1000903) 35 [.agg ⟨p.cells w⟩] h = some (.bool (rstO val nm fi p es).isSome,h') ∧ Ext h h' := by
 have hw := sl.cells
 rw [F35eq Q (k + 1000902) _ h (ka.fr 35 _ (by decide))]
 obtain ⟨ha,ea,b,x,_⟩ := box_pq p hw h
 obtain ⟨hb,ev,y⟩ := T36q ka va ok k (hB.trans x) bd (sl.ext x)
 refine ⟨hb,?_,x.trans y⟩
 cases hr : rstO val nm fi p es with
 | none =>
  rw [hr] at ev
  have ev : callO Tryd.prog 2 Q (k + 1000902) 13 [.agg ⟨p.cells w⟩] ha = some (.int .i64 (-1),hb) := ev
  have g : decide ((0 : Int) ≤ -1) = false := rfl
  simp only [F35,p35a,ea,qX,b.all,qZ,ev,bin_geq,g,qQ]
  rfl
 | some n =>
  rw [hr] at ev
  have ev : callO Tryd.prog 2 Q (k + 1000902) 13 [.agg ⟨p.cells w⟩] ha = some (.int .i64 (n : Int),hb) := ev
  have g : decide ((0 : Int) ≤ (n : Int)) = true := decide_eq_true (by omega)
  simp only [F35,p35a,ea,qX,b.all,qZ,ev,bin_geq,g,qQ]
  rfl
theorem rg_of : RG Q B (fun p es => (rstO val nm fi p es).isSome) := ⟨fun k h p es w hB bd sl => by
 rw [show k + 1001000 = k + 97 + 1000903 by omega]
 exact T18q ka va ok (k + 97) hB bd sl⟩
end
end Go.Proofs.YtohapjojkjjflaaDoor.Wc

namespace Go.Proofs.YtohapjojkjjflaaDoor.Wc
open Go Go.AM WcA
section
variable {Q : Orc} (kn : KnA Q) {h : H}
include kn
theorem r126 (C : CF) (L : Nat) (kx : Value → H → Option (Value × H)) (m : Nat) {n s : Nat} (hn : n < 1000000000000) (hs : s < 1000) (c : 128 ≤ n) : pahD C L kx (m + 1) (.int .i64 (n : Int)) (.int .i64 (s : Int)) h = pahD C L kx m (.int .i64 ((n / 128 : Nat) : Int)) (.int .i64 ((s + 1 : Nat) : Int)) h := by
 have _ := kn
 have d : decide ((128 : Int) ≤ (n : Int)) = true := decide_eq_true (by omega)
 have q : A.bin Tryd.prog .quo 3 (.int .i64 (n : Int)) (.int .i64 128) = _ := quoI (a := n) (c := 128) hn (by omega)
 have w : IntKind.i64.wrap ((s : Int) + 1) = ((s + 1 : Nat) : Int) := wrap_succ (by omega)
 simp only [pahD,pamT,bin_geq,d,qZ,qQ,cond_true,q,bin_add,w]
theorem e126 (C : CF) (L : Nat) (kx : Value → H → Option (Value × H)) (m : Nat) {n : Nat} (c : n < 128) (v : Value) : pahD C L kx (m + 1) (.int .i64 (n : Int)) v h = kx v h := by
 have _ := kn
 have d : decide ((128 : Int) ≤ (n : Int)) = false := decide_eq_false (by omega)
 simp only [pahD,pamT,bin_geq,d,qZ,qQ,cond_false]
theorem lenB_len {n : Nat} : (lenB n).length = if n < 128 then 1 else if n < 16384 then 2 else if n < 2097152 then 3 else 4 := by
 have _ := kn
 unfold lenB
 split
 · rfl
 split
 · rfl
 split <;> rfl
theorem l126 (C : CF) (L : Nat) (kx : Value → H → Option (Value × H)) (m : Nat) {n : Nat} (hn : n ≤ 268435455) : pahD C L kx (m + 5) (.int .i64 (n : Int)) (.int .i64 1) h = kx (.int .i64 ((lenB n).length : Int)) h := by
 rw [lenB_len kn]
 by_cases c1 : n < 128
 · rw [if_pos c1]
   exact e126 kn C L kx (m + 4) c1 _
 rw [if_neg c1]
 refine (r126 kn C L kx (m + 4) (n := n) (s := 1) (by omega) (by omega) (by omega)).trans ?_
 by_cases c2 : n < 16384
 · rw [if_pos c2]
   exact e126 kn C L kx (m + 3) (by omega) _
 rw [if_neg c2]
 refine (r126 kn C L kx (m + 3) (n := n / 128) (s := 2) (by omega) (by omega) (by omega)).trans ?_
 by_cases c3 : n < 2097152
 · rw [if_pos c3]
   exact e126 kn C L kx (m + 2) (by omega) _
 rw [if_neg c3]
 refine (r126 kn C L kx (m + 2) (n := n / 128 / 128) (s := 3) (by omega) (by omega) (by omega)).trans ?_
 exact e126 kn C L kx (m + 1) (by omega) _
theorem T126 (k : Nat) {n : Nat} (hn : n ≤ 268435455) : callO Tryd.prog 2 Q (k + 6) 21 [.int .i64 (n : Int)] h = some (.int .i64 ((lenB n).length : Int),h) := by
 rw [F21eq Q (k + 5) _ h (kn.fr 21 _ (by decide))]
 have d1 : decide ((n : Int) < 0) = false := decide_eq_false (by omega)
 have d2 : decide ((268435455 : Int) < (n : Int)) = false := decide_eq_false (by omega)
 have lp := l126 kn (h := h) (callO Tryd.prog 2 Q (k + 5)) (k + 5) (fun x3 h => some (x3,h)) k hn
 simp only [F21,p21a,papH,papI,zZ,d1,qZ,qQ,cond_false,zY,d2,papJ,pafR,papK]
 exact lp
theorem lenB_le (n : Nat) : 1 ≤ (lenB n).length ∧ (lenB n).length ≤ 4 := by
 rw [lenB_len kn]
 split
 · omega
 split
 · omega
 split <;> omega
theorem r98 (C : CF) (L : Nat) (kx : Value → Value → H → Option (Value × H)) (m : Nat) {n q : Nat} (hn : n < 1000000000000) (c : 128 ≤ n) {v : Value} {es : List UInt8} (b : Buf h v q 4 es) (hc : es.length < 4) :
 ∃ v' h',pahC C L kx (m + 1) v (.int .i64 (n : Int)) h = pahC C L kx m v' (.int .i64 ((n / 128 : Nat) : Int)) h' ∧ Buf h' v' q 4 (es ++ [UInt8.ofNat (n % 128 + 128)]) ∧ ExtBut (fun i => i = q) h h' := by
 have _ := kn
 have d : decide ((128 : Int) ≤ (n : Int)) = true := decide_eq_true (by omega)
 have qq : A.bin Tryd.prog .quo 3 (.int .i64 (n : Int)) (.int .i64 128) = _ := quoI (a := n) (c := 128) hn (by omega)
 have r : A.bin Tryd.prog .rem 3 (.int .i64 (n : Int)) (.int .i64 128) = _ := remI (a := n) (c := 128) (by omega)
 have w : IntKind.i64.wrap (((n % 128 : Nat) : Int) + 128) = ((n % 128 + 128 : Nat) : Int) := by rw [wrap64 (by omega) (by omega)]; omega
 have cv := conv35 (n % 128 + 128)
 rw [Nat.mod_eq_of_lt (show n % 128 + 128 < 256 by omega)] at cv
 obtain ⟨h1,e1,el1,x1,n1⟩ := lit1 h (z := WcA.Z5L) rfl ((n % 128 + 128 : Nat) : Int) (UInt8.ofNat (n % 128 + 128)) (ofNat_int (by omega))
 obtain ⟨v',h',e2,b2,y2,_⟩ := (b.ext x1).app (new := [UInt8.ofNat (n % 128 + 128)]) el1 rfl (by simp only [List.length_cons,List.length_nil]; omega)
 refine ⟨v',h',?_,b2,x1.but.trans y2⟩
 simp only [pahC,pamO,bin_geq,d,qZ,qQ,cond_true,r,bin_add,w,cv,e1,qX,e2,qq]
theorem e98 (C : CF) (L : Nat) (m : Nat) {n q : Nat} (c : n < 128) {v : Value} {es : List UInt8} (b : Buf h v q 4 es) (hc : es.length < 4) :
 ∃ h',pahC C L (fun x5 x0 h => pahY C L x5 x0 h (fun x2 x3 h => some (Value.tuple ⟨[x2,x3]⟩,h))) (m + 1) v (.int .i64 (n : Int)) h = some (.tuple ⟨[str (es ++ [UInt8.ofNat n]),.int .i64 0]⟩,h') ∧ ExtBut (fun i => i = q) h h' := by
 have _ := kn
 have d : decide ((128 : Int) ≤ (n : Int)) = false := decide_eq_false (by omega)
 have cv := conv35 n
 rw [Nat.mod_eq_of_lt (show n < 256 by omega)] at cv
 obtain ⟨h1,e1,el1,x1,n1⟩ := lit1 h (z := WcA.Z5L) rfl (n : Int) (UInt8.ofNat n) (ofNat_int (by omega))
 obtain ⟨v',h',e2,b2,y2,_⟩ := (b.ext x1).app (new := [UInt8.ofNat n]) el1 rfl (by simp only [List.length_cons,List.length_nil]; omega)
 have eb := b2.b2s
 refine ⟨h',?_,x1.but.trans y2⟩
 simp only [pahC,pamO,bin_geq,d,qZ,qQ,cond_false,pahY,cv,e1,qX,e2,eb]
theorem T98 (k : Nat) {n : Nat} (hn : n ≤ 268435455) : ∃ h',callO Tryd.prog 2 Q (k + 7) 12 [.int .i64 (n : Int)] h = some (.tuple ⟨[str (lenB n),.int .i64 0]⟩,h') ∧ Ext h h' := by
 rw [F12eq Q (k + 6) _ h (kn.fr 12 _ (by decide))]
 have e126 := T126 kn (h := h) k hn
 have dz : decide (((lenB n).length : Int) = 0) = false := decide_eq_false (by have := lenB_le kn n; omega)
 obtain ⟨h1,e1,b1,x1,n1⟩ := Buf.make h (z := WcA.Z5L) rfl 4 (by omega)
 have e1 : A.makeSlice 1 1 WcA.Z5L (.int .i64 0) (.int .i64 4) h = some (.slice (some ⟨h.next,0,none⟩) 0 (2 * 4 + 1),h1) := e1
 have fin : ∀ (es : List UInt8),∀ h' : H,ExtBut (fun i => i = h.next) h1 h' → Ext h h' := fun _ h' y => ⟨Nat.le_trans x1.next y.next,fun i hi => by rw [y.get i (Nat.lt_of_lt_of_le hi x1.next) (by omega),x1.get i hi]⟩
 have main : ∃ h',pahC (callO Tryd.prog 2 Q (k + 6)) (k + 6) (fun x5 x0 h => pahY (callO Tryd.prog 2 Q (k + 6)) (k + 6) x5 x0 h (fun x2 x3 h => some (Value.tuple ⟨[x2,x3]⟩,h))) (k + 2 + 4) (.slice (some ⟨h.next,0,none⟩) 0 (2 * 4 + 1)) (.int .i64 (n : Int)) h1 = some (.tuple ⟨[str (lenB n),.int .i64 0]⟩,h') ∧ ExtBut (fun i => i = h.next) h1 h' := by
  by_cases c1 : n < 128
  · obtain ⟨h',e,y⟩ := e98 kn (callO Tryd.prog 2 Q (k + 6)) (k + 6) (k + 2 + 3) c1 b1 (by show 0 < 4; omega)
    exact ⟨h',by unfold lenB; rw [if_pos c1]; exact e,y⟩
  obtain ⟨v2,h2,e2,b2,y2⟩ := r98 kn (callO Tryd.prog 2 Q (k + 6)) (k + 6) (fun x5 x0 h => pahY (callO Tryd.prog 2 Q (k + 6)) (k + 6) x5 x0 h (fun x2 x3 h => some (Value.tuple ⟨[x2,x3]⟩,h))) (k + 2 + 3) (n := n) (by omega) (by omega) b1 (by show 0 < 4; omega)
  by_cases c2 : n < 16384
  · obtain ⟨h',e,y⟩ := e98 kn (callO Tryd.prog 2 Q (k + 6)) (k + 6) (k + 2 + 2) (n := n / 128) (by omega) b2 (by simp)
    exact ⟨h',by unfold lenB; rw [if_neg c1,if_pos c2]; exact e2.trans e,y2.trans y⟩
  obtain ⟨v3,h3,e3,b3,y3⟩ := r98 kn (callO Tryd.prog 2 Q (k + 6)) (k + 6) (fun x5 x0 h => pahY (callO Tryd.prog 2 Q (k + 6)) (k + 6) x5 x0 h (fun x2 x3 h => some (Value.tuple ⟨[x2,x3]⟩,h))) (k + 2 + 2) (n := n / 128) (by omega) (by omega) b2 (by simp)
  rw [show n / 128 / 128 = n / 16384 by omega] at e3
  by_cases c3 : n < 2097152
  · obtain ⟨h',e,y⟩ := e98 kn (callO Tryd.prog 2 Q (k + 6)) (k + 6) (k + 2 + 1) (n := n / 16384) (by omega) b3 (by simp)
    exact ⟨h',by unfold lenB; rw [if_neg c1,if_neg c2,if_pos c3]; exact e2.trans (e3.trans e),(y2.trans y3).trans y⟩
  obtain ⟨v4,h4,e4,b4,y4⟩ := r98 kn (callO Tryd.prog 2 Q (k + 6)) (k + 6) (fun x5 x0 h => pahY (callO Tryd.prog 2 Q (k + 6)) (k + 6) x5 x0 h (fun x2 x3 h => some (Value.tuple ⟨[x2,x3]⟩,h))) (k + 2 + 1) (n := n / 16384) (by omega) (by omega) b3 (by simp)
  rw [show n / 16384 / 128 = n / 2097152 by omega] at e4
  obtain ⟨h',e,y⟩ := e98 kn (callO Tryd.prog 2 Q (k + 6)) (k + 6) (k + 2) (n := n / 2097152) (by omega) b4 (by simp)
  exact ⟨h',by unfold lenB; rw [if_neg c1,if_neg c2,if_neg c3]; exact e2.trans (e3.trans (e4.trans e)),((y2.trans y3).trans y4).trans y⟩
 obtain ⟨h',e,y⟩ := main
 refine ⟨h',?_,fin [] h' y⟩
 simp only [F12,p12a,paoQ,paoR,e126,qX,paoS,zQ,dz,qZ,qQ,cond_false,paoT,e1,pafP]
 exact e
end
section
variable {Q : Orc} {B : H} {val nm fi : List UInt8 → Bool} (kn : KnA Q) (va : VA Q B val) (ok : OK3 Q B nm fi) {h : H}
include kn va ok
theorem T97 (k : Nat) {p : Pq} {es : List Sb} {w : Value} (hB : Ext B h) (bd : Bd p es) (sl : SliceE 2 h w (es.map sbC)) :
 ∃ h',callO Tryd.prog 2 Q (k + 1000903) 11 [.agg ⟨p.cells w⟩] h = some (.int .i64 ((match rstO val nm fi p es with | none => 0 | some n => 1 + (lenB n).length + n : Nat) : Int),h') ∧ Ext h h' := by
 rw [F11eq Q (k + 1000902) _ h (kn.fr 11 _ (by decide))]
 obtain ⟨ha,ea,b,x,_⟩ := box_pq p sl.cells h
 obtain ⟨hb,e85,y⟩ := T36q kn va ok (h := ha) k (hB.trans x) bd (sl.ext x)
 refine ⟨hb,?_,x.trans y⟩
 cases hr : rstO val nm fi p es with
 | none =>
  rw [hr] at e85
  have d1 : decide ((-1 : Int) < 0) = true := rfl
  simp only [F11,p11a,ea,qX,b.all,qZ,e85,optV,zZ,d1,qQ,cond_true]
  rfl
 | some n =>
  rw [hr] at e85
  have hn := rst_le kn va ok hr
  have d1 : decide ((n : Int) < 0) = false := decide_eq_false (by omega)
  have e126 := T126 kn (h := hb) (k + 1000896) hn
  have e126 : callO Tryd.prog 2 Q (k + 1000902) 21 [.int .i64 (n : Int)] hb = _ := e126
  have l4 := (lenB_le kn n).2
  have w1 : IntKind.i64.wrap ((1 : Int) + ((lenB n).length : Int)) = ((1 + (lenB n).length : Nat) : Int) := by rw [wrap64 (by omega) (by omega)]; omega
  have w2 : IntKind.i64.wrap (((1 + (lenB n).length : Nat) : Int) + (n : Int)) = ((1 + (lenB n).length + n : Nat) : Int) := by rw [wrap64 (by omega) (by omega)]; omega
  simp only [F11,p11a,ea,qX,b.all,qZ,e85,optV,zZ,d1,qQ,cond_false,e126,bin_add,w1,w2]
end
end Go.Proofs.YtohapjojkjjflaaDoor.Wc

namespace Go.Proofs.YtohapjojkjjflaaDoor.Wc
open Go Go.AM WcA
abbrev Pe := Pq × List Sb × Value
def Pe.c (r : Pe) : List Value := r.1.cells r.2.2
structure InR (h : H) (x : Value) (ps : List Pe) : Prop where
 row : SliceE 24 h x (ps.map Pe.c)
 sub : ∀ r ∈ ps,SliceE 2 h r.2.2 (r.2.1.map sbC)
theorem InR.ext {h h' : H} {x : Value} {ps : List Pe} (r : InR h x ps) (e : Ext h h') : InR h' x ps := ⟨r.row.ext e,fun p hp => (r.sub p hp).ext e⟩
theorem InR.extBut {S : Nat → Prop} {h h' : H} {x : Value} {ps : List Pe} (r : InR h x ps) (e : ExtBut S h h') (s : ∀ i,S i → ∀ B : H,True) (h0 : ∀ i,i < h.next → (sid x = some i ∨ ∃ p ∈ ps,sid p.2.2 = some i) → ¬ S i) : InR h' x ps :=
 ⟨r.row.extBut e fun i hi => h0 i (r.row.sid_lt i hi) (.inl hi),fun p hp => (r.sub p hp).extBut e fun i hi => h0 i ((r.sub p hp).sid_lt i hi) (.inr ⟨p,hp,hi⟩)⟩
def szL (rst : Pq → List Sb → Option Nat) : List Pe → Option Nat
 | [] => some 0
 | r :: l => match rst r.1 r.2.1 with
  | none => none
  | some n => match szL rst l with
   | none => none
   | some s => some (1 + (lenB n).length + n + s)
def encL (l : List Pe) : List UInt8 := (l.map fun r => encB r.1 r.2.1).flatten
theorem encL_cons (r : Pe) (l : List Pe) : encL (r :: l) = encB r.1 r.2.1 ++ encL l := by simp [encL]
theorem box24 (h : H) {p : Pq} {w : Value} (hw : cellsL w = some [w]) : ∃ h',A.box 24 WcA.Z30 h = some (ptrV h.next,h.push (.cells WcA.Z30L (some 0))) ∧ A.store 24 (ptrV h.next) (.agg ⟨p.cells w⟩) (h.push (.cells WcA.Z30L (some 0))) = some h' ∧ BQ h' h.next p w ∧ Ext h h' ∧ h'.next = h.next + 1 := by
 refine ⟨(h.push (.cells WcA.Z30L (some 0))).put h.next (.cells (p.cells w) (some 0)),rfl,?_,⟨by rw [H.get_put,if_pos rfl],Nat.lt_succ_self _⟩,(Ext.push h _).put _ _ (Nat.le_refl _),rfl⟩
 have _ := hw
 have hcl : cellsL (.agg ⟨p.cells w⟩) = some (p.cells w) := rfl
 rw [qU,H.get_push,if_pos rfl,hcl]; rfl
theorem first_bits {c f : Nat} (hc : c < 16) (hf : f < 16) : A.bin Tryd.prog .shl 5 (.int .u8 (c : Int)) (.int .u64 4) = some (.int .u8 ((16 * c : Nat) : Int)) ∧ A.bin Tryd.prog .or 5 (.int .u8 ((16 * c : Nat) : Int)) (.int .u8 (f : Int)) = some (.int .u8 ((16 * c + f : Nat) : Int)) := by
 have a1 : ((List.range 16).all fun c => match A.bin Tryd.prog .shl 5 (.int .u8 (c : Int)) (.int .u64 4) with | some v => AM.same v (.int .u8 ((16 * c : Nat) : Int)) | none => false) = true := by kernel_rfl
 have a2 : ((List.range 16).all fun c => (List.range 16).all fun f => match A.bin Tryd.prog .or 5 (.int .u8 ((16 * c : Nat) : Int)) (.int .u8 (f : Int)) with | some v => AM.same v (.int .u8 ((16 * c + f : Nat) : Int)) | none => false) = true := by kernel_rfl
 refine ⟨?_,?_⟩
 · have := List.all_eq_true.1 a1 c (List.mem_range.2 hc)
   split at this
   · rename_i v hv
     rw [hv,same_eq _ _ this]
   · cases this
 · have := List.all_eq_true.1 (List.all_eq_true.1 a2 c (List.mem_range.2 hc)) f (List.mem_range.2 hf)
   split at this
   · rename_i v hv
     rw [hv,same_eq _ _ this]
   · cases this
structure Fits (p : Pq) (es : List Sb) : Prop where
 qos : p.kind = 3 → p.qos ≤ 2
 conn : p.kind = 1 → p.wq ≤ 2 ∧ p.client.length ≤ 65535 ∧ (p.will = true → p.wt.length ≤ 65535 ∧ p.wp.length ≤ 65535) ∧ p.user.length ≤ 65535 ∧ p.pass.length ≤ 65535
 topic : p.kind = 3 → p.topic.length ≤ 65535
 subs : ∀ s ∈ es,s.1.length ≤ 65535
theorem fits_of {val nm fi : List UInt8 → Bool} (vl : Vl val nm fi) {p : Pq} {es : List Sb} {n : Nat} (e : rstO val nm fi p es = some n) : Fits p es := by
 unfold rstO at e
 split at e
 · cases e
 rename_i m em
 split at e
 · cases e
 split at e
 case isFalse => cases e
 rename_i hb
 unfold bareB at hb
 split at hb
 · cases hb
 rename_i hes
 have he : p.kind ≠ 8 → p.kind ≠ 10 → es = [] := fun a b => Classical.byContradiction fun c => hes ⟨c,a,b⟩
 unfold restO at em
 refine ⟨fun k => ?_,fun k => ?_,fun k => ?_,?_⟩
 · rw [if_neg (by omega),if_neg (by omega),if_pos k] at em
   unfold pubO at em
   split at em
   · split at em
     · cases em
     · omega
   · cases em
 · rw [if_pos k] at em
   unfold conO at em
   split at em
   case isFalse => cases em
   split at em
   case isFalse => cases em
   rename_i hc
   split at em
   · cases em
   rename_i n1 e1
   split at em
   · cases em
   split at em
   · cases em
   split at em
   case isFalse => cases em
   rename_i hv
   split at em
   · cases em
   rename_i hp
   unfold wilO at e1
   refine ⟨?_,vl.len _ hc,fun w => ?_,vl.len _ hv,by omega⟩
   · split at e1
     · split at e1
       · split at e1
         · cases e1
         · split at e1
           · cases e1
           · omega
       · cases e1
     · split at e1
       · rename_i hz
         unfold wz at hz
         cases a1 : p.wt == [] with
         | false => rw [a1] at hz; cases hz
         | true =>
          cases a2 : p.wp == [] with
          | false => rw [a1,a2] at hz; cases hz
          | true =>
           cases a3 : (p.wq : Int) == 0 with
           | false => rw [a1,a2,a3] at hz; cases hz
           | true => have b3 : (p.wq : Int) = 0 := eq_of_beq a3; omega
       · cases e1
   · rw [if_pos w] at e1
     split at e1
     · rename_i hn
       split at e1
       · cases e1
       · exact ⟨vl.len _ (vl.nm _ hn),by omega⟩
     · cases e1
 · rw [if_neg (by omega),if_neg (by omega),if_pos k] at em
   unfold pubO at em
   split at em
   · rename_i hn; exact vl.len _ (vl.nm _ hn)
   · cases em
 · by_cases k8 : p.kind = 8 ∨ p.kind = 10
   · rw [if_neg (by omega),if_neg (by omega),if_neg (by omega),if_neg (by omega),if_pos k8] at em
     unfold subO at em
     split at em
     · cases em
     split at em
     · cases em
     exact fun s hs => vl.len _ (vl.fi _ ((suL_some es _ _ em).1 s hs).1)
   · rw [he (by omega) (by omega)]
     exact fun s hs => by cases hs
section
variable {Q : Orc} {B : H} {val nm fi : List UInt8 → Bool} (kn : KnA Q) (va : VA Q B val) (ok : OK3 Q B nm fi)
include kn va ok
theorem lpA (k L : Nat) {x : Value} {ps : List Pe} (hps : ps.length ≤ 1000) (bd : ∀ r ∈ ps,Bd r.1 r.2.1) :
 ∀ (d i m : Nat) (h : H) (tot : Nat),i + d = ps.length → d < m → Ext B h → InR h x ps → tot ≤ i * 300000000 →
  ∃ h',Ext h h' ∧ (match szL (rstO val nm fi) (ps.drop i) with
   | none => ∀ kr kx : Value → Value → H → Option (Value × H),pagV (callO Tryd.prog 2 Q (k + 1000903)) L kr kx m (.int .i64 (ps.length : Int)) (.int .i64 (i : Int)) x (.int .i64 (tot : Int)) x h = kr (.string ⟨⟨[]⟩⟩) (.int .i64 4) h'
   | some s => (∀ kr kx : Value → Value → H → Option (Value × H),pagV (callO Tryd.prog 2 Q (k + 1000903)) L kr kx m (.int .i64 (ps.length : Int)) (.int .i64 (i : Int)) x (.int .i64 (tot : Int)) x h = kx (.int .i64 ((tot + s : Nat) : Int)) x h') ∧ tot + s ≤ ps.length * 300000000) := by
 intro d
 induction d with
 | zero =>
  intro i m h tot hi hm hB hr ht
  obtain ⟨m,rfl⟩ : ∃ r,m = r + 1 := ⟨m - 1,by omega⟩
  have hd : decide ((i : Int) < (ps.length : Int)) = false := by rw [decide_eq_false_iff_not]; omega
  rw [List.drop_eq_nil_of_le (by omega)]
  refine ⟨h,Ext.refl h,fun kr kx => ?_,by show tot + 0 ≤ _; rw [← show i = ps.length by omega]; exact ht⟩
  simp only [pagV,pakU,zZ,hd,qZ,qW,cond_false,Nat.add_zero]
 | succ d ih =>
  intro i m h tot hi hm hB hr ht
  obtain ⟨m,rfl⟩ : ∃ r,m = r + 1 := ⟨m - 1,by omega⟩
  have hd : decide ((i : Int) < (ps.length : Int)) = true := by rw [decide_eq_true_iff]; omega
  obtain ⟨r,hri⟩ : ∃ r,ps[i]? = some r := ⟨_,List.getElem?_eq_getElem (by omega)⟩
  have hrm := List.mem_of_getElem? hri
  obtain ⟨id,off,cells,own,ix,_,hg,h4,h5,_⟩ := hr.row.at (i := i) (e := r.c) (by rw [List.getElem?_map,hri]; rfl) .i64
  have ld : A.load true 24 (.pointer (some ⟨id,off,none⟩)) h = some (.agg ⟨r.1.cells r.2.2⟩) := load_of hg h4 h5
  have sl := hr.sub r hrm
  obtain ⟨ha,ea,sa,ba,xa,_⟩ := box24 h (p := r.1) sl.cells
  obtain ⟨hb,e97,xb⟩ := T97 kn va ok (h := ha) k (hB.trans xa) (bd r hrm) (sl.ext xa)
  rw [drop_cons hri]
  have hwr : IntKind.i64.wrap ((i : Int) + 1) = ((i + 1 : Nat) : Int) := wrap_succ (by omega)
  unfold szL
  cases hn : rstO val nm fi r.1 r.2.1 with
  | none =>
   rw [hn] at e97
   have dz : decide (((0 : Nat) : Int) = 0) = true := rfl
   refine ⟨hb,xa.trans xb,fun kr kx => ?_⟩
   simp only [pagV,pakU,zZ,hd,qZ,qW,cond_true,ix,ld,ea,qX,sa,ba.all,e97,zQ,dz,qQ]
  | some n =>
   rw [hn] at e97
   have hle := rst_le kn va ok hn
   have l4 := lenB_le kn n
   have dz : decide (((1 + (lenB n).length + n : Nat) : Int) = 0) = false := decide_eq_false (by omega)
   have hi20 : i ≤ 1000 := by omega
   have ws : IntKind.i64.wrap ((tot : Int) + ((1 + (lenB n).length + n : Nat) : Int)) = ((tot + (1 + (lenB n).length + n) : Nat) : Int) := by rw [wrap64 (by omega) (by omega)]; omega
   obtain ⟨h',x',hm'⟩ := ih (i + 1) m hb (tot + (1 + (lenB n).length + n)) (by omega) (by omega) ((hB.trans xa).trans xb) ((hr.ext xa).ext xb) (by omega)
   refine ⟨h',(xa.trans xb).trans x',?_⟩
   cases hs : szL (rstO val nm fi) (ps.drop (i + 1)) with
   | none =>
    rw [hs] at hm'
    intro kr kx
    simp only [pagV,pakU,zZ,hd,qZ,qW,cond_true,ix,ld,ea,qX,sa,ba.all,e97,zQ,dz,qQ,cond_false,bin_add,ws,hwr]
    exact hm' kr kx
   | some s =>
    rw [hs] at hm'
    obtain ⟨m1,m2⟩ := hm'
    refine ⟨fun kr kx => ?_,by omega⟩
    simp only [pagV,pakU,zZ,hd,qZ,qW,cond_true,ix,ld,ea,qX,sa,ba.all,e97,zQ,dz,qQ,cond_false,bin_add,ws,hwr]
    rw [show tot + (1 + (lenB n).length + n + s) = tot + (1 + (lenB n).length + n) + s by omega]
    exact m1 kr kx
end
end Go.Proofs.YtohapjojkjjflaaDoor.Wc

namespace Go.Proofs.YtohapjojkjjflaaDoor.Wc
open Go Go.AM WcA
section
variable {Q : Orc} {B : H} {val nm fi : List UInt8 → Bool} (kn : KnA Q) (va : VA Q B val) (ok : OK3 Q B nm fi) (vl : Vl val nm fi)
include kn va ok vl
theorem wr1 (k L : Nat) {x : Value} {p : Pq} {es : List Sb} {w : Value} {n q cap : Nat} (bd : Bd p es) (rg : Rg p es) (hes : es.length ≤ 1000000) (rs : rstO val nm fi p es = some n) (hBq : B.next ≤ q) (hwq : sid w ≠ some q)
 {h : H} {v : Value} {o : List UInt8} {id off i N : Nat} (hB : Ext B h) (sl : SliceE 2 h w (es.map sbC)) (ix : A.idxS 24 x (.int .i64 (i : Int)) = some (.pointer (some ⟨id,off,none⟩))) (ld : A.load true 24 (.pointer (some ⟨id,off,none⟩)) h = some (.agg ⟨p.cells w⟩)) (b : Buf h v q cap o) (hc : o.length + (encB p es).length ≤ cap) :
 ∃ v' h',(∀ K : Value → Value → Value → Value → H → Option (Value × H),pagB (callO Tryd.prog 2 Q (k + 1000903)) L v (.int .i64 (i : Int)) (.int .i64 (N : Int)) x h K = K (.int .i64 (i : Int)) (.int .i64 (N : Int)) x v' h') ∧ Buf h' v' q cap (o ++ encB p es) ∧ ExtBut (fun i => i = q) h h' := by
 obtain ⟨⟨f16,k16,_,hl,_,_⟩,hn⟩ := rd_all vl rg rs
 have ft := fits_of vl rs
 have hqn := b.lt
 have hlen : (encB p es).length = 1 + (lenB n).length + n := by unfold encB; rw [hl,List.length_cons,List.length_append,hl]; omega
 obtain ⟨hd,ed,sd,bq,xd,nd⟩ := box24 h (p := p) sl.cells
 have htq : h.next ≠ q := by omega
 obtain ⟨he,e13,xe⟩ := T36q kn va ok (h := hd) (k + 1) (hB.trans xd) bd (sl.ext xd)
 rw [rs] at e13
 have e13 := (congrArg (fun m => callO Tryd.prog 2 Q m 13 [.agg ⟨p.cells w⟩] hd) (show k + 1000903 = k + 1 + 1000902 by omega)).trans e13
 have e13 : callO Tryd.prog 2 Q (k + 1000903) 13 [.agg ⟨p.cells w⟩] hd = some (.int .i64 (n : Int),he) := e13
 obtain ⟨hf,e12,xf⟩ := T98 kn (h := he) (k + 1000896) hn
 have e12 : callO Tryd.prog 2 Q (k + 1000903) 12 [.int .i64 (n : Int)] he = _ := e12
 have t0 : A.extract 0 (.tuple ⟨[str (lenB n),.int .i64 0]⟩) = some (str (lenB n)) := rfl
 have t1 : A.extract 1 (.tuple ⟨[str (lenB n),.int .i64 0]⟩) = some (.int .i64 0) := rfl
 have bf := (bq.ext xe).ext xf
 have l0 := bf.ld (i := 0) rfl
 obtain ⟨hg,e14,xg⟩ := T86 kn (h := hf) (k + 1000901) p sl.cells ft.qos
 have e14 : callO Tryd.prog 2 Q (k + 1000903) 14 [.agg ⟨p.cells w⟩] hf = _ := e14
 have bg := bf.ext xg
 have m0 := bg.ld (i := 0) rfl
 obtain ⟨s1,s2⟩ := first_bits k16 f16
 obtain ⟨hi,ei,eli,xi,ni⟩ := lit1 hg (z := WcA.Z5L) rfl ((16 * p.kind + flagsN p : Nat) : Int) (UInt8.ofNat (16 * p.kind + flagsN p)) (ofNat_int (by omega))
 have xhi : Ext h hi := (((xd.trans xe).trans xf).trans xg).trans xi
 obtain ⟨v1,h1,e1,b1,y1,_⟩ := (b.ext xhi).app (new := [UInt8.ofNat (16 * p.kind + flagsN p)]) eli rfl (by simp only [List.length_nil,List.length_cons]; omega)
 obtain ⟨v2,h2,e2,b2,y2,_⟩ := b1.app (elems_str (lenB n) h1) (lenOf_str _) (by simp only [List.length_append,List.length_nil,List.length_cons]; omega)
 have b2q : BQ h2 h.next p w := ((bg.ext xi).but y1 htq).but y2 htq
 have sl2 : SliceE 2 h2 w (es.map sbC) := ((sl.ext xhi).extBut y1 fun j hj e => hwq (by rw [hj,e])).extBut y2 fun j hj e => hwq (by rw [hj,e])
 obtain ⟨v3,h3,e15,b3,y3⟩ := T87 kn (h := h2) (k + 797) p sl.cells sl2 hes (fun s hs => ⟨ft.subs s hs,rg.es s hs⟩) b2 hwq (fun _ => rg.code) (fun c => ⟨rg.level,rg.keep,(ft.conn c).1,(ft.conn c).2.1,(ft.conn c).2.2.1,(ft.conn c).2.2.2.1,(ft.conn c).2.2.2.2⟩) ft.topic rg.id (by simp only [List.length_append,List.length_nil,List.length_cons,hl]; omega)
 have e15 := (congrArg (fun m => callO Tryd.prog 2 Q m 15 [v2,.agg ⟨p.cells w⟩] h2) (show k + 1000903 = k + 797 + 1000106 by omega)).trans e15
 refine ⟨v3,h3,fun K => ?_,?_,((xhi.but.trans y1).trans y2).trans y3⟩
 · simp only [pagB,pasH,ix,ld,qZ,ed,qX,sd,pasI,bq.all,e13,e12,t0,t1,pasJ,qY,Nat.zero_add,l0,s1,bf.all,e14,m0,chk_u8,Bool.and_true,cond_true,s2,ei,e1,e2,b2q.all,e15]
 · have : o ++ encB p es = o ++ [UInt8.ofNat (16 * p.kind + flagsN p)] ++ lenB n ++ restB p es := by unfold encB; rw [hl]; simp
   rw [this]; exact b3
theorem lpB (k L : Nat) {x : Value} {ps : List Pe} {q cap : Nat} (hps : ps.length ≤ 1000) (bd : ∀ r ∈ ps,Bd r.1 r.2.1) (rg : ∀ r ∈ ps,Rg r.1 r.2.1) (hes : ∀ r ∈ ps,r.2.1.length ≤ 1000000) (rs : ∀ r ∈ ps,∃ n,rstO val nm fi r.1 r.2.1 = some n)
 (hBq : B.next ≤ q) (hxq : sid x ≠ some q) (hwq : ∀ r ∈ ps,sid r.2.2 ≠ some q) :
 ∀ (d i m : Nat) (h : H) (v : Value) (o : List UInt8),i + d = ps.length → d < m → Ext B h → InR h x ps → Buf h v q cap o → o.length + (encL (ps.drop i)).length ≤ cap →
  ∃ v' h',(∀ kx : Value → H → Option (Value × H),paiL (callO Tryd.prog 2 Q (k + 1000903)) L kx m (.int .i64 (ps.length : Int)) (.int .i64 (i : Int)) x v h = kx v' h') ∧ Buf h' v' q cap (o ++ encL (ps.drop i)) ∧ ExtBut (fun i => i = q) h h' := by
 intro d
 induction d with
 | zero =>
  intro i m h v o hi hm hB hr b hc
  obtain ⟨m,rfl⟩ : ∃ r,m = r + 1 := ⟨m - 1,by omega⟩
  have hd : decide ((i : Int) < (ps.length : Int)) = false := by rw [decide_eq_false_iff_not]; omega
  rw [List.drop_eq_nil_of_le (by omega)]
  refine ⟨v,h,fun kx => ?_,by simpa [encL] using b,⟨Nat.le_refl _,fun _ _ _ => rfl⟩⟩
  simp only [paiL,padP,panZ,zZ,hd,qZ,paoA,qW,cond_false]
 | succ d ih =>
  intro i m h v o hi hm hB hr b hc
  obtain ⟨m,rfl⟩ : ∃ r,m = r + 1 := ⟨m - 1,by omega⟩
  have hd : decide ((i : Int) < (ps.length : Int)) = true := by rw [decide_eq_true_iff]; omega
  obtain ⟨r,hri⟩ : ∃ r,ps[i]? = some r := ⟨_,List.getElem?_eq_getElem (by omega)⟩
  have hrm := List.mem_of_getElem? hri
  obtain ⟨n,rsn⟩ := rs r hrm
  obtain ⟨id,off,cells,own,ix,_,hg,h4,h5,_⟩ := hr.row.at (i := i) (e := r.c) (by rw [List.getElem?_map,hri]; rfl) .i64
  have ld : A.load true 24 (.pointer (some ⟨id,off,none⟩)) h = some (.agg ⟨r.1.cells r.2.2⟩) := load_of hg h4 h5
  rw [drop_cons hri,encL_cons] at hc ⊢
  rw [List.length_append] at hc
  obtain ⟨v1,h1,e1,b1,y1⟩ := wr1 kn va ok vl k L (N := ps.length) (bd r hrm) (rg r hrm) (hes r hrm) rsn hBq (hwq r hrm) hB (hr.sub r hrm) ix ld b (by omega)
  have hr1 : InR h1 x ps := ⟨hr.row.extBut y1 fun j hj e => hxq (by rw [hj,e]),fun s hs => (hr.sub s hs).extBut y1 fun j hj e => hwq s hs (by rw [hj,e])⟩
  obtain ⟨v',h',e,b',y⟩ := ih (i + 1) m h1 v1 (o ++ encB r.1 r.2.1) (by omega) (by omega) (base_but hB y1 hBq) hr1 b1 (by rw [List.length_append]; omega)
  refine ⟨v',h',fun kx => ?_,by rw [← List.append_assoc]; exact b',y1.trans y⟩
  have hwr : IntKind.i64.wrap ((i : Int) + 1) = ((i + 1 : Nat) : Int) := wrap_succ (by omega)
  simp only [paiL,padP,panZ,zZ,hd,qZ,paoA,qW,cond_true]
  rw [e1]
  simp only [pasK,bin_add,hwr,qZ]
  exact e kx
end
end Go.Proofs.YtohapjojkjjflaaDoor.Wc

namespace Go.Proofs.YtohapjojkjjflaaDoor.Wc
open Go Go.AM WcA
theorem szL_some {rst : Pq → List Sb → Option Nat} : ∀ {ps : List Pe} {s : Nat},(∀ r ∈ ps,∀ n,rst r.1 r.2.1 = some n → (restB r.1 r.2.1).length = n) → szL rst ps = some s → s = (encL ps).length ∧ ∀ r ∈ ps,∃ n,rst r.1 r.2.1 = some n := by
 intro ps
 induction ps with
 | nil => intro s _ e; cases e; exact ⟨rfl,fun r hr => by cases hr⟩
 | cons r l ih =>
  intro s hl e
  unfold szL at e
  split at e
  · cases e
  rename_i n hn
  split at e
  · cases e
  rename_i s' hs
  simp only [Option.some.injEq] at e
  obtain ⟨a,b⟩ := ih (fun r hr => hl r (List.mem_cons_of_mem _ hr)) hs
  have hrl := hl r (List.mem_cons_self ..) n hn
  refine ⟨?_,fun x hx => ?_⟩
  · rw [encL_cons,List.length_append,← a]
    unfold encB
    rw [hrl,List.length_cons,List.length_append,hrl]; omega
  · rcases List.mem_cons.1 hx with rfl | hx
    · exact ⟨n,hn⟩
    · exact b x hx
section
variable {Q : Orc} {B : H} {val nm fi : List UInt8 → Bool} (kn : KnA Q) (va : VA Q B val) (ok : OK3 Q B nm fi) (vl : Vl val nm fi)
include kn va ok vl
theorem T6 (k : Nat) {h : H} {x : Value} {ps : List Pe} (hB : Ext B h) (hr : InR h x ps) (hps : ps.length ≤ 1000) (bd : ∀ r ∈ ps,Bd r.1 r.2.1) (rg : ∀ r ∈ ps,Rg r.1 r.2.1) (hes : ∀ r ∈ ps,r.2.1.length ≤ 1000000) :
 ∃ h',Ext h h' ∧ (match szL (rstO val nm fi) ps with
  | none => callO Tryd.prog 2 Q (k + 1000904) 6 [x] h = some (.tuple ⟨[str [],.int .i64 4]⟩,h')
  | some _ => callO Tryd.prog 2 Q (k + 1000904) 6 [x] h = some (.tuple ⟨[str (encL ps),.int .i64 0]⟩,h') ∧ ∀ r ∈ ps,∃ n,rstO val nm fi r.1 r.2.1 = some n) := by
 have hl : A.lenS x = some (.int .i64 (ps.length : Int)) := by have := hr.row.len.1; rwa [List.length_map] at this
 obtain ⟨ha,xa,ea⟩ := lpA kn va ok k (k + 1000903) hps bd ps.length 0 (k + 1000903) h 0 (by omega) (by omega) hB hr (by omega)
 rw [List.drop_zero] at ea
 rw [F6eq Q (k + 1000903) _ h (kn.fr 6 _ (by decide))]
 cases hs : szL (rstO val nm fi) ps with
 | none =>
  rw [hs] at ea
  refine ⟨ha,xa,?_⟩
  obtain ⟨M,hM⟩ : ∃ M,M = k + 1000903 := ⟨_,rfl⟩
  rw [← hM] at ea ⊢
  have ea : ∀ kr kx : Value → Value → H → Option (Value × H),pagV (callO Tryd.prog 2 Q M) M kr kx M (.int .i64 (ps.length : Int)) (.int .i64 0) x (.int .i64 0) x h = kr (.string ⟨⟨[]⟩⟩) (.int .i64 4) ha := ea
  simp only [F6,p6a,paeV,pafO,pacT,panY,hl,qZ,paeX,ea]
 | some s =>
  rw [hs] at ea
  obtain ⟨ea,hbound⟩ := ea
  obtain ⟨hse,hall⟩ := szL_some (fun r hr n hn => (rd_all vl (rg r hr) hn).1.2.2.2.1) hs
  obtain ⟨hb,eb,bb,xb,nb⟩ := Buf.make ha (z := WcA.Z5L) rfl s (by omega)
  have xab := xa.trans xb
  have hlb : A.lenS x = some (.int .i64 (ps.length : Int)) := hl
  have sxl : ∀ j,sid x = some j → j < h.next := fun j hj => hr.row.sid_lt j hj
  have swl : ∀ r ∈ ps,∀ j,sid r.2.2 = some j → j < h.next := fun r hr' j hj => (hr.sub r hr').sid_lt j hj
  have hn0 := xa.next
  obtain ⟨v',hc,ec,bc,yc⟩ := lpB kn va ok vl k (k + 1000903) (q := ha.next) (cap := s) hps bd rg hes hall (by have := (hB.trans xa).next; exact this) (fun e => by have := sxl _ e; omega) (fun r hr' e => by have := swl r hr' _ e; omega) ps.length 0 (k + 1000903) hb _ [] (by omega) (by omega) (hB.trans xab) (hr.ext xab) bb (by rw [List.drop_zero,List.length_nil,← hse]; omega)
  rw [List.drop_zero,List.nil_append] at bc
  have ebs := bc.b2s
  refine ⟨hc,⟨Nat.le_trans xab.next yc.next,fun i hi => by rw [yc.get i (Nat.lt_of_lt_of_le hi xab.next) (by omega),xab.get i hi]⟩,?_,hall⟩
  obtain ⟨M,hM⟩ : ∃ M,M = k + 1000903 := ⟨_,rfl⟩
  rw [← hM] at ea ec ⊢
  have ea : ∀ kr kx : Value → Value → H → Option (Value × H),pagV (callO Tryd.prog 2 Q M) M kr kx M (.int .i64 (ps.length : Int)) (.int .i64 0) x (.int .i64 0) x h = kx (.int .i64 (s : Int)) x ha := fun kr kx => by have := ea kr kx; rw [Nat.zero_add] at this; exact this
  have ec : ∀ kx : Value → H → Option (Value × H),paiL (callO Tryd.prog 2 Q M) M kx M (.int .i64 (ps.length : Int)) (.int .i64 0) x (.slice (some ⟨ha.next,0,none⟩) 0 (2 * s + 1)) hb = kx v' hc := ec
  simp only [F6,p6a,paeV,pafO,pacT,panY,hl,qZ,paeX,ea,pabZ,eb,qX,pabW,pasG,pacR,ec,pabH,ebs]
end
end Go.Proofs.YtohapjojkjjflaaDoor.Wc

namespace Go.Proofs.YtohapjojkjjflaaDoor.Wc
open Go Go.AM WcA
def Pe.d (r : Pe) : Pq × List Sb := (r.1,r.2.1)
section
variable {Q : Orc} (kn : KnA Q) {dec : List UInt8 → Option (Pq × List Sb × Nat)} (pos : ∀ l p es n,dec l = some (p,es,n) → 0 < n ∧ n ≤ l.length) {k : Nat} {B : H}
 (hD : ∀ (h : H) (l : List UInt8),l.length ≤ 1000300 → Ext B h → D7 (callO Tryd.prog 2 Q (k + 1001001) 16 [str l] h) h (dec l))
include pos hD
theorem lpC (L : Nat) (kr : Value → Value → H → Option (Value × H)) {s : List UInt8} (hs : s.length ≤ 1000300) {H0 : H} (hB0 : Ext B H0) :
 ∀ (f m : Nat) (h : H) (v : Value) (acc : List Pe) (a : Nat),a ≤ s.length → s.length - a < f → f ≤ m → Ext H0 h → Vec 24 h v (acc.map Pe.c) → (∀ r ∈ acc,SliceE 2 h r.2.2 (r.2.1.map sbC)) → (∀ j,sid v = some j → H0.next ≤ j) → (∀ r ∈ acc,∀ j,sid r.2.2 = some j → H0.next ≤ j ∧ sid v ≠ some j) → acc.length + f ≤ 2000000 →
  ∃ h' v' new,pajC (callO Tryd.prog 2 Q (k + 1001001)) L kr m (str s) v (.int .i64 (a : Int)) h = kr v' (.int .i64 ((a + (cutL dec f (s.drop a)).2 : Nat) : Int)) h' ∧ new.map Pe.d = (cutL dec f (s.drop a)).1 ∧ InR h' v' (acc ++ new) ∧ Ext H0 h' ∧ (∀ j,sid v' = some j → H0.next ≤ j) ∧ (∀ r ∈ acc ++ new,∀ j,sid r.2.2 = some j → H0.next ≤ j) := by
 intro f
 induction f with
 | zero => intro m h v acc a _ h1; omega
 | succ f ih =>
  intro m h v acc a ha hf hm x0 vv hsub hv hrs hacc
  obtain ⟨m,rfl⟩ : ∃ r,m = r + 1 := ⟨m - 1,by omega⟩
  have sl1 := slS ha
  have d7 := hD h (s.drop a) (by rw [List.length_drop]; omega) (hB0.trans x0)
  unfold cutL
  cases hd : dec (s.drop a) with
  | none =>
   rw [hd] at d7
   obtain ⟨h1,e,e16,he,x1⟩ := d7
   have t0 : A.extract 0 (res7 (zq 0) nilS (0,e)) = some (.agg ⟨(zq 0).cells nilS⟩) := rfl
   have t1 : A.extract 1 (res7 (zq 0) nilS (0,e)) = some (.int .i64 0) := rfl
   have t2 : A.extract 2 (res7 (zq 0) nilS (0,e)) = some (.int .i64 (e : Int)) := rfl
   obtain ⟨h2,eb,es,_,x2,_⟩ := box24 h1 (p := zq 0) (w := nilS) rfl
   have dn : A.bin Tryd.prog .neq 31 (.int .i64 (e : Int)) (.int .i64 0) = some (.bool true) := by rw [bin_neq,decide_eq_false (by omega)]; rfl
   have x12 := x1.trans x2
   refine ⟨h2,v,[],?_,rfl,?_,x0.trans x12,hv,?_⟩
   · simp only [pajC,paoK,sl1,qZ,e16,qX,t0,t1,t2,eb,es,dn,qQ,cond_true,Nat.add_zero]
   · rw [List.append_nil]; exact ⟨(vv.ext x12).slice,fun r hr => (hsub r hr).ext x12⟩
   · rw [List.append_nil]; exact fun r hr j hj => (hrs r hr j hj).1
  | some x =>
   obtain ⟨p,es,n⟩ := x
   rw [hd] at d7
   obtain ⟨h1,w,e16,slw,sw,x1⟩ := d7
   obtain ⟨hn0,hn1⟩ := pos _ _ _ _ hd
   rw [List.length_drop] at hn1
   have t0 : A.extract 0 (res7 p w (n,0)) = some (.agg ⟨p.cells w⟩) := rfl
   have t1 : A.extract 1 (res7 p w (n,0)) = some (.int .i64 (n : Int)) := rfl
   have t2 : A.extract 2 (res7 p w (n,0)) = some (.int .i64 0) := rfl
   have e16 : callO Tryd.prog 2 Q (k + 1001001) 16 [str (s.drop a)] h = some (res7 p w (n,0),h1) := e16
   obtain ⟨h2,eb,es',bq,x2,n2⟩ := box24 h1 (p := p) slw.cells
   have dn : A.bin Tryd.prog .neq 31 (.int .i64 0) (.int .i64 0) = some (.bool false) := by rw [bin_neq]; rfl
   obtain ⟨h3,hh3⟩ : ∃ h3,h3 = h2.push (.cells (p.cells w) (some 24)) := ⟨_,rfl⟩
   have e3 : A.buildSlice 24 1 WcA.Z30L [(0,24,.agg ⟨p.cells w⟩)] h2 = some (.slice (some ⟨h2.next,0,none⟩) 1 3,h3) := by rw [hh3]; exact buildSlice_one h2 rfl rfl rfl
   have x3 : Ext h2 h3 := by rw [hh3]; exact Ext.push h2 _
   have n3 : h3.next = h2.next + 1 := by rw [hh3]; rfl
   have s3 : SliceE 24 h3 (.slice (some ⟨h2.next,0,none⟩) 1 3) [p.cells w] := by rw [hh3]; exact slice_one rfl
   have x13 := (x1.trans x2).trans x3
   have lm : (acc.map Pe.c).length = acc.length := List.length_map ..
   obtain ⟨h4,e4,v4,n4,x4⟩ := append_vec (bs := 200) (vv.ext x13) s3 (by simp) (by omega) (by rw [lm]; simp; omega) (by rw [lm]; simp; omega)
   obtain ⟨v2,hv2⟩ : ∃ v2,v2 = Value.slice (some ⟨h3.next,0,none⟩) ((acc.map Pe.c).length + [p.cells w].length) (2 * ((acc.map Pe.c).length + [p.cells w].length)) := ⟨_,rfl⟩
   rw [← hv2] at e4 v4
   have hsid : sid v2 = some h3.next := by rw [hv2]; rfl
   have hvlt : ∀ j,sid v = some j → j < h.next := fun j hj => vv.slice.sid_lt j hj
   have hn03 := x0.next
   have hnx := x1.next
   have x04 : Ext H0 h4 := ⟨Nat.le_trans x0.next (Nat.le_trans x13.next x4.next),fun i hi => by
    rw [x4.get i (Nat.lt_of_lt_of_le hi (Nat.le_trans x0.next x13.next)) (fun e => by have := hv i e; omega),x13.get i (Nat.lt_of_lt_of_le hi x0.next),x0.get i hi]⟩
   have wb : IntKind.i64.wrap ((a : Int) + (n : Int)) = ((a + n : Nat) : Int) := by rw [wrap64 (by omega) (by omega)]; omega
   have hw13 : SliceE 2 h4 w (es.map sbC) := ((slw.ext x2).ext x3).extBut x4 fun j hj e => by have := sw j hj; have := hvlt j e; omega
   have hwlt : ∀ j,sid w = some j → j < h3.next := fun j hj => by have := slw.sid_lt j hj; have := x2.next; omega
   have heq : s.drop (a + n) = (s.drop a).drop n := by rw [List.drop_drop]
   obtain ⟨h',v',new,eL,em,hr,x',hv',hs'⟩ := ih m h4 v2 (acc ++ [(p,es,w)]) (a + n) (by omega) (by omega) (by omega) x04 (by rw [List.map_append]; exact v4) (fun r hr => by
    rcases List.mem_append.1 hr with hr | hr
    · exact ((hsub r hr).ext x13).extBut x4 fun j hj e => (hrs r hr j hj).2 e
    · rw [List.mem_singleton] at hr; subst hr; exact hw13) (fun j hj => by rw [hsid] at hj; cases hj; omega) (fun r hr j hj => by
    rcases List.mem_append.1 hr with hr | hr
    · refine ⟨(hrs r hr j hj).1,fun e => ?_⟩
      rw [hsid] at e; cases e
      have := (hsub r hr).sid_lt _ hj
      have := x13.next
      omega
    · rw [List.mem_singleton] at hr; subst hr
      refine ⟨by have := sw j hj; omega,fun e => ?_⟩
      rw [hsid] at e; cases e
      have := hwlt _ hj
      omega) (by rw [List.length_append,List.length_singleton]; omega)
   rw [heq] at eL em
   refine ⟨h',v',(p,es,w) :: new,?_,?_,by rw [List.append_cons]; exact hr,x',hv',by rw [List.append_cons]; exact hs'⟩
   · simp only [pajC,paoK,sl1,qZ,e16,qX,t0,t1,t2,eb,es',dn,qQ,cond_false,bq.all,e3,e4,bin_add,wb]
     rw [eL,Nat.add_assoc]
   · rw [List.map_cons,em]; rfl
include kn in
theorem T7c (h : H) {s : List UInt8} (hs : s.length ≤ 1000300) (hB : Ext B h) :
 ∃ h' v' new,callO Tryd.prog 2 Q (k + 1001002) 7 [str s] h = some (.tuple ⟨[v',.int .i64 ((cutL dec (s.length + 1) s).2 : Int)]⟩,h') ∧ new.map Pe.d = (cutL dec (s.length + 1) s).1 ∧ InR h' v' new ∧ Ext h h' ∧ (∀ j,sid v' = some j → h.next ≤ j) ∧ (∀ r ∈ new,∀ j,sid r.2.2 = some j → h.next ≤ j) := by
 rw [F7eq Q (k + 1001001) _ h (kn.fr 7 _ (by decide))]
 obtain ⟨h',v',new,e,em,hr,x,hv,hn⟩ := lpC pos hD (k + 1001001) (fun x2 x3 h => some (Value.tuple ⟨[x2,x3]⟩,h)) hs hB (s.length + 1) (k + 1001001) h nilS [] 0 (Nat.zero_le _) (by omega) (by omega) (Ext.refl h) (Vec.nil 24 h) (fun r hr => by cases hr) (fun j hj => by cases hj) (fun r hr => by cases hr) (by show 0 + (s.length + 1) ≤ 2000000; omega)
 rw [List.drop_zero,Nat.zero_add] at e
 rw [List.drop_zero] at em
 rw [List.nil_append] at hr hn
 refine ⟨h',v',new,?_,em,hr,x,hv,hn⟩
 obtain ⟨M,hM⟩ : ∃ M,M = k + 1001001 := ⟨_,rfl⟩
 rw [← hM] at e ⊢
 simp only [F7,p7a,pagP,paeN,pahX,pagK]
 exact e
end
end Go.Proofs.YtohapjojkjjflaaDoor.Wc

namespace Go.Proofs.YtohapjojkjjflaaDoor.Wc
open Go Go.AM WcA
theorem same_pw (p : Pq) {w : Value} (hw : AM.same w w = true) : AM.same (.agg ⟨p.cells w⟩) (.agg ⟨p.cells w⟩) = true := by
 unfold Pq.cells
 simp [AM.same,AM.sameA,AM.sameL,hw]
theorem plain_neq (f : PkF) : A.bin Tryd.prog .neq 53 (.agg ⟨plainF f⟩) (.agg ⟨plainF f⟩) = some (.bool false) := bin_agg_neq rfl rfl (by kernel_rfl) (plain_refl f)
theorem sub_neq (s : Sb) : A.bin Tryd.prog .neq 43 (.agg ⟨sbC s⟩) (.agg ⟨sbC s⟩) = some (.bool false) := by
 have e : A.eqV Tryd.prog 20 43 (.agg ⟨sbC s⟩) (.agg ⟨sbC s⟩) = (bif s.1 == s.1 then (bif (s.2 : Int) == (s.2 : Int) then some true else some false) else some false) := by kernel_rfl
 have e2 : A.eqV Tryd.prog 20 43 (.agg ⟨sbC s⟩) (.agg ⟨sbC s⟩) = some true := by rw [e]; simp
 exact bin_agg_neq rfl rfl (by kernel_rfl) e2
section
variable {Q : Orc} (kn : KnA Q)
include kn
theorem lpS (C : CF) (L : Nat) {p : Pq} {w1 w2 : Value} {es : List Sb} {t : Nat} (hl : es.length ≤ 1000000) :
 ∀ (d i m : Nat) (h : H),i + d = es.length → d < m → SliceE 2 h w1 (es.map sbC) → SliceE 2 h w2 (es.map sbC) → BQ h t p w2 →
  ∃ h',Ext h h' ∧ ∀ (kr : Value → H → Option (Value × H)) (kx : H → Option (Value × H)),paiN C L kr kx m (.int .i64 (es.length : Int)) (.int .i64 (i : Int)) (ptrV t) w1 h = kx h' := by
 have _ := kn
 intro d
 induction d with
 | zero =>
  intro i m h hi hm s1 s2 b
  obtain ⟨m,rfl⟩ : ∃ r,m = r + 1 := ⟨m - 1,by omega⟩
  have hd : decide ((i : Int) < (es.length : Int)) = false := by rw [decide_eq_false_iff_not]; omega
  refine ⟨h,Ext.refl h,fun kr kx => ?_⟩
  simp only [paiN,paoP,zZ,hd,qZ,qW,cond_false]
 | succ d ih =>
  intro i m h hi hm s1 s2 b
  obtain ⟨m,rfl⟩ : ∃ r,m = r + 1 := ⟨m - 1,by omega⟩
  have hd : decide ((i : Int) < (es.length : Int)) = true := by rw [decide_eq_true_iff]; omega
  obtain ⟨s,hsi⟩ : ∃ s,es[i]? = some s := ⟨_,List.getElem?_eq_getElem (by omega)⟩
  have hmap : (es.map sbC)[i]? = some (sbC s) := by rw [List.getElem?_map,hsi]; rfl
  obtain ⟨id,off,cells,own,ix,_,hg,h4,h5,_⟩ := s1.at (i := i) (e := sbC s) hmap .i64
  have ld : A.load true 2 (.pointer (some ⟨id,off,none⟩)) h = some (.agg ⟨sbC s⟩) := load_of hg h4 h5
  obtain ⟨h1,hh1⟩ : ∃ h1,h1 = h.push (.cells WcA.Z43L (some 0)) := ⟨_,rfl⟩
  have e1 : A.box 2 WcA.Z43 h = some (ptrV h.next,h1) := by rw [hh1]; rfl
  obtain ⟨h2,hh2⟩ : ∃ h2,h2 = h1.put h.next (.cells (sbC s) (some 0)) := ⟨_,rfl⟩
  have g1 : h1.get h.next = some (.cells WcA.Z43L (some 0)) := by rw [hh1,H.get_push,if_pos rfl]
  have hcl : cellsL (.agg ⟨sbC s⟩) = some (sbC s) := rfl
  have e2 : A.store 2 (ptrV h.next) (.agg ⟨sbC s⟩) h1 = some h2 := by rw [qU,g1,hcl,hh2]; rfl
  have x2 : Ext h h2 := by rw [hh2]; exact (hh1 ▸ Ext.push h _ : Ext h h1).put _ _ (Nat.le_refl _)
  have g2 : h2.get h.next = some (.cells (sbC s) (some 0)) := by rw [hh2,H.get_put,if_pos rfl]
  have l2 : A.load true 2 (ptrV h.next) h2 = some (.agg ⟨sbC s⟩) := by rw [loadN_eq,g2]; rfl
  have b2 := b.ext x2
  have lw := b2.ld (i := 22) rfl
  obtain ⟨id',off',cells',own',ix',_,hg',h4',h5',_⟩ := (s2.ext x2).at (i := i) (e := sbC s) hmap .i64
  have ld' : A.load true 2 (.pointer (some ⟨id',off',none⟩)) h2 = some (.agg ⟨sbC s⟩) := load_of hg' h4' h5'
  have ne := sub_neq s
  have hwr : IntKind.i64.wrap ((i : Int) + 1) = ((i + 1 : Nat) : Int) := wrap_succ (by omega)
  obtain ⟨h',x',e⟩ := ih (i + 1) m h2 (by omega) (by omega) (s1.ext x2) (s2.ext x2) b2
  refine ⟨h',x2.trans x',fun kr kx => ?_⟩
  simp only [paiN,paoP,zZ,hd,qZ,qW,cond_true,ix,ld,e1,qX,e2,l2,qY,Nat.zero_add,lw,ix',ld',ne,qQ,cond_false,bin_add,hwr]
  exact e kr kx
theorem T8 (k : Nat) {h : H} {p : Pq} {w1 w2 : Value} {es : List Sb} (hl : es.length ≤ 1000000) (s1 : SliceE 2 h w1 (es.map sbC)) (s2 : SliceE 2 h w2 (es.map sbC)) :
 ∃ h',callO Tryd.prog 2 Q (k + 1000002) 8 [.agg ⟨p.cells w1⟩,.agg ⟨p.cells w2⟩] h = some (.bool true,h') ∧ Ext h h' := by
 rw [F8eq Q (k + 1000001) _ _ h (kn.fr 8 _ (by decide))]
 obtain ⟨ha,ea,ba,xa,na⟩ := box_pq p s1.cells h
 obtain ⟨hb,eb,bb,xb,nb⟩ := box_pq p s2.cells ha
 have ba2 := ba.ext xb
 obtain ⟨hc,ec,xc⟩ := T143F kn (k + 1000000) hb (p.F w1)
 have ec : callO Tryd.prog 2 Q (k + 1000001) 17 [.agg ⟨p.cells w1⟩] hb = some (.agg ⟨plainF (p.F w1)⟩,hc) := ec
 have bb3 := bb.ext xc
 have sm := same_pw p s2.same
 have ck : chk (some (.agg ⟨p.cells w2⟩)) (.agg ⟨p.cells w2⟩) = true := chk1 sm
 obtain ⟨hd,ed,xd⟩ := T143F kn (k + 1000000) hc (p.F w2)
 have ed : callO Tryd.prog 2 Q (k + 1000001) 17 [.agg ⟨p.cells w2⟩] hc = some (.agg ⟨plainF (p.F w1)⟩,hd) := ed
 have ne := plain_neq (p.F w1)
 have xbd := xc.trans xd
 have ba4 := ba2.ext xbd
 have bb4 := bb.ext xbd
 have l1 := ba4.ld (i := 22) rfl
 have l2 := bb4.ld (i := 22) rfl
 have x4 : Ext h hd := (xa.trans xb).trans xbd
 have n1 : A.lenS w1 = some (.int .i64 (es.length : Int)) := by have := s1.len.1; rwa [List.length_map] at this
 have n2 : A.lenS w2 = some (.int .i64 (es.length : Int)) := by have := s2.len.1; rwa [List.length_map] at this
 have dn : (!decide ((es.length : Int) = (es.length : Int))) = false := by simp
 obtain ⟨h',x',e⟩ := lpS kn (callO Tryd.prog 2 Q (k + 1000001)) (k + 1000001) hl es.length 0 (k + 1000001) hd (by omega) (by omega) (s1.ext x4) (s2.ext x4) bb4
 refine ⟨h',?_,x4.trans x'⟩
 obtain ⟨M,hM⟩ : ∃ M,M = k + 1000001 := ⟨_,rfl⟩
 rw [← hM] at ec ed e ⊢
 have e : ∀ (kr : Value → H → Option (Value × H)) (kx : H → Option (Value × H)),paiN (callO Tryd.prog 2 Q M) M kr kx M (.int .i64 (es.length : Int)) (.int .i64 0) (ptrV ha.next) w1 hd = kx h' := e
 simp only [F8,p8a,pagY,ea,qX,eb,pasW,ba2.all,qZ,ec,bb.all,bb3.all,ck,Bool.and_true,cond_true,ed,ne,qQ,cond_false,qY,Nat.zero_add,l1,l2,n1,n2,bin_neq,dn,paeT,pasX,pagF,e,pasY]
 rfl
end
end Go.Proofs.YtohapjojkjjflaaDoor.Wc

namespace Go.Proofs.YtohapjojkjjflaaDoor.Wc
open Go Go.AM WcA
def Lit (n : Nat) (h : H) (v : Value) (es : List (List Value)) : Prop :=
 (∀ e ∈ es,e.length = n) ∧ ∃ q,v = .slice (some ⟨q,0,none⟩) es.length (2 * es.length + 1) ∧ q < h.next ∧ h.get q = some (.cells es.flatten (some n))
theorem append_lit {n bs : Nat} {h : H} {v x : Value} {es new : List (List Value)} (vv : Lit n h v es) (sx : SliceE n h x new) (hne : new ≠ [])
 (hb : (es.length + new.length) * bs ≤ 2 ^ 47) (hl : es.length + new.length ≤ 2 ^ 47) :
 ∃ h',A.append n bs v x h = some (.slice (some ⟨h.next,0,none⟩) (es.length + new.length) (2 * (es.length + new.length)),h') ∧
  Vec n h' (.slice (some ⟨h.next,0,none⟩) (es.length + new.length) (2 * (es.length + new.length))) (es ++ new) ∧ h'.next = h.next + 1 ∧ Ext h h' := by
 obtain ⟨_,hlen⟩ := sx.len
 have hel := sx.elems
 have hpos : 0 < new.length := List.length_pos_iff.2 hne
 have hfl : es.flatten.length = es.length * n := flatten_len vv.1
 have e0 : Nat.beq new.length 0 = false := by rw [T.beq_dec]; simp; omega
 have hall : ∀ e ∈ es ++ new,e.length = n := fun e he => by
  rcases List.mem_append.1 he with he | he
  · exact vv.1 e he
  · exact sx.1 e he
 obtain ⟨q,rfl,hq,hg⟩ := vv.2
 refine ⟨h.push (.cells (es.flatten ++ new.flatten) (some n)),?_,⟨hall,.inr ⟨h.next,by simp,by simp,by simp [H.get_push]⟩⟩,rfl,Ext.push h _⟩
 have e1 : Nat.ble (es.length + new.length) ((2 * es.length + 1) / 2) = false := by
  cases hb1 : Nat.ble (es.length + new.length) ((2 * es.length + 1) / 2) with
  | false => rfl
  | true => have := ble_iff.1 hb1; omega
 have e2 : Nat.beq ((2 * es.length + 1) % 2) 1 = true := by rw [T.beq_dec]; simp
 have e3 : Nat.ble ((es.length + new.length) * bs) (2 ^ 47) = true := ble_iff.2 hb
 have e4 : Nat.ble (es.length + new.length) (2 ^ 47) = true := ble_iff.2 hl
 have e5 : Nat.ble (0 + es.length * n) es.flatten.length = true := ble_iff.2 (by omega)
 simp only [A.append,hel,hlen,e0,cond_false,hg,e1,e3,e4,e5,Bool.and_self,cond_true,e2,List.drop_zero]
 rw [List.take_of_length_le (by omega)]
def overL : List (List UInt8) → Nat → Bool
 | [],_ => false
 | s :: l,left => if left < s.length then true else overL l (left - s.length)
def txL (p : Pq) (es : List Sb) : List (List UInt8) := [p.topic,p.payload,p.client,p.wt,p.wp,p.user,p.pass,p.codes] ++ es.map (·.1)
def grB (p : Pq) (es : List Sb) : Bool := if 100 < es.length then true else overL (txL p es) 10000
theorem overL_le : ∀ {l : List (List UInt8)} {left : Nat},overL l left = false → ∀ s ∈ l,s.length ≤ left
 | [],_,_,s,h => by cases h
 | x :: l,left,e,s,h => by
  unfold overL at e
  split at e
  · cases e
  · rename_i hx
    rcases List.mem_cons.1 h with rfl | h
    · omega
    · have := overL_le e s h; omega
theorem gr_bd {p : Pq} {es : List Sb} (rg : Rg p es) (e : grB p es = false) : Bd p es ∧ es.length ≤ 100 := by
 unfold grB at e
 split at e
 · cases e
 rename_i hl
 have h := overL_le e
 have m : ∀ s,s ∈ [p.topic,p.payload,p.client,p.wt,p.wp,p.user,p.pass,p.codes] → s.length ≤ 1000300 := fun s hs => Nat.le_trans (h s (List.mem_append_left _ hs)) (by omega)
 refine ⟨⟨rg.kind,rg.qos,rg.id,rg.level,rg.keep,rg.wq,rg.code,m _ (by simp),m _ (by simp),m _ (by simp),m _ (by simp),m _ (by simp),m _ (by simp),m _ (by simp),m _ (by simp),by omega,fun s hs => ⟨?_,rg.es s hs⟩⟩,by omega⟩
 have := h s.1 (List.mem_append_right _ (List.mem_map.2 ⟨s,hs,rfl⟩))
 omega
section
variable {Q : Orc} (kn : KnA Q)
include kn
theorem lpG (C : CF) (L : Nat) {p : Pq} {w : Value} {es : List Sb} {t : Nat} {H1 : H} (hl : es.length ≤ 100) (b1 : BQ H1 t p w) (s1 : SliceE 2 H1 w (es.map sbC)) (x3 : Value) :
 ∀ (d i m : Nat) (h : H) (v : Value) (acc : List (List UInt8)),i + d = es.length → d < m → Ext H1 h → (Lit 1 h v (acc.map fun s => [str s]) ∨ Vec 1 h v (acc.map fun s => [str s])) → acc ≠ [] → (∀ j,sid v = some j → H1.next ≤ j) → acc.length + d ≤ 1000 →
  ∃ h' v',(∀ kx : Value → Value → H → Option (Value × H),pagI C L kx m (.int .i64 (i : Int)) (ptrV t) v x3 h = kx v' x3 h') ∧ Ext H1 h' ∧ SliceE 1 h' v' ((acc ++ (es.drop i).map (·.1)).map fun s => [str s]) := by
 have _ := kn
 intro d
 induction d with
 | zero =>
  intro i m h v acc hi hm x hv hne hs hacc
  obtain ⟨m,rfl⟩ : ∃ r,m = r + 1 := ⟨m - 1,by omega⟩
  have hd : decide ((i : Int) < (es.length : Int)) = false := by rw [decide_eq_false_iff_not]; omega
  have lw := (b1.ext x).ld (i := 22) rfl
  have n1 : A.lenS w = some (.int .i64 (es.length : Int)) := by have := s1.len.1; rwa [List.length_map] at this
  refine ⟨h,v,fun kx => ?_,x,?_⟩
  · simp only [pagI,padU,qY,Nat.zero_add,lw,qZ,n1,zZ,hd,qQ,cond_false]
  · rw [List.drop_eq_nil_of_le (by omega),List.map_nil,List.append_nil]
    rcases hv with hv | hv
    · obtain ⟨q,e,hq,hg⟩ := hv.2
      have hfl := flatten_len hv.1
      exact ⟨hv.1,.inr ⟨q,0,_,e,by omega,hq,fun _ => ⟨_,_,hg,by omega,by rw [List.drop_zero,List.take_of_length_le (by omega)]⟩⟩⟩
    · exact hv.slice
 | succ d ih =>
  intro i m h v acc hi hm x hv hne hs hacc
  obtain ⟨m,rfl⟩ : ∃ r,m = r + 1 := ⟨m - 1,by omega⟩
  have hd : decide ((i : Int) < (es.length : Int)) = true := by rw [decide_eq_true_iff]; omega
  have lw := (b1.ext x).ld (i := 22) rfl
  have n1 : A.lenS w = some (.int .i64 (es.length : Int)) := by have := s1.len.1; rwa [List.length_map] at this
  obtain ⟨s,hsi⟩ : ∃ s,es[i]? = some s := ⟨_,List.getElem?_eq_getElem (by omega)⟩
  obtain ⟨id,off,cells,own,ix,_,hg,_,_,hc⟩ := (s1.ext x).at (i := i) (e := sbC s) (by rw [List.getElem?_map,hsi]; rfl) .i64
  have ld : A.load false 1 (.pointer (some ⟨id,off,none⟩)) h = some (str s.1) := by
   rw [qK,hg]
   have := hc 0 (by show 0 < 2; omega)
   simpa [sbC] using this
  obtain ⟨h1,hh1⟩ : ∃ h1,h1 = h.push (.cells [str s.1] (some 1)) := ⟨_,rfl⟩
  have e1 : A.buildSlice 1 1 WcA.Z9L [(0,1,str s.1)] h = some (.slice (some ⟨h.next,0,none⟩) 1 3,h1) := by rw [hh1]; exact buildSlice_one h rfl rfl rfl
  have x1 : Ext h h1 := by rw [hh1]; exact Ext.push h _
  have s2 : SliceE 1 h1 (.slice (some ⟨h.next,0,none⟩) 1 3) [[str s.1]] := by rw [hh1]; exact slice_one rfl
  have lm : (acc.map fun s => [str s]).length = acc.length := List.length_map ..
  have hwr : IntKind.i64.wrap ((i : Int) + 1) = ((i + 1 : Nat) : Int) := wrap_succ (by omega)
  have app : ∃ v2 h2,A.append 1 16 v (.slice (some ⟨h.next,0,none⟩) 1 3) h1 = some (v2,h2) ∧ Vec 1 h2 v2 ((acc ++ [s.1]).map fun s => [str s]) ∧ sid v2 = some h1.next ∧ Ext H1 h2 := by
   rcases hv with hv | hv
   · have hv1 : Lit 1 h1 v (acc.map fun s => [str s]) := by
      obtain ⟨q,e,hq,hg⟩ := hv.2
      exact ⟨hv.1,q,e,Nat.lt_of_lt_of_le hq x1.next,by rw [x1.get q hq]; exact hg⟩
     obtain ⟨h2,e2,v2,n2,x2⟩ := append_lit (bs := 16) hv1 s2 (by simp) (by rw [lm]; simp; omega) (by rw [lm]; simp; omega)
     exact ⟨_,h2,e2,by rw [List.map_append]; exact v2,rfl,(x.trans x1).trans x2⟩
   · obtain ⟨h2,e2,v2,n2,x2⟩ := append_vec (bs := 16) (hv.ext x1) s2 (by simp) (by omega) (by rw [lm]; simp; omega) (by rw [lm]; simp; omega)
     exact ⟨_,h2,e2,by rw [List.map_append]; exact v2,rfl,Ext.grow (x.trans x1) x2 hs⟩
  obtain ⟨v2,h2,e2,vv2,hsid,x2⟩ := app
  have hnx := x.next
  have hn1 := x1.next
  obtain ⟨h',v',e,x',sl⟩ := ih (i + 1) m h2 v2 (acc ++ [s.1]) (by omega) (by omega) x2 (.inr vv2) (by simp) (fun j hj => by rw [hsid] at hj; cases hj; omega) (by rw [List.length_append,List.length_singleton]; omega)
  refine ⟨h',v',fun kx => ?_,x',?_⟩
  · simp only [pagI,padU,qY,Nat.zero_add,Nat.add_zero,lw,qZ,n1,zZ,hd,qQ,cond_true,ix,ld,e1,qX,e2,bin_add,hwr]
    exact e kx
  · rw [drop_cons hsi,List.map_cons,List.append_cons]; exact sl
theorem lpH (C : CF) (L : Nat) {v : Value} {ls : List (List UInt8)} {h : H} (sl : SliceE 1 h v (ls.map fun s => [str s])) (hl : ls.length ≤ 1000) :
 ∀ (d i m left : Nat),i + d = ls.length → d < m → left ≤ 10000 → ∀ (kr : Value → H → Option (Value × H)) (kx : H → Option (Value × H)),pahU C L kr kx m (.int .i64 (i : Int)) v (.int .i64 (left : Int)) h = if overL (ls.drop i) left then kr (.bool true) h else kx h := by
 have _ := kn
 have n1 : A.lenS v = some (.int .i64 (ls.length : Int)) := by have := sl.len.1; rwa [List.length_map] at this
 intro d
 induction d with
 | zero =>
  intro i m left hi hm hleft kr kx
  obtain ⟨m,rfl⟩ : ∃ r,m = r + 1 := ⟨m - 1,by omega⟩
  have hd : decide ((i : Int) < (ls.length : Int)) = false := by rw [decide_eq_false_iff_not]; omega
  rw [List.drop_eq_nil_of_le (by omega)]
  simp only [pahU,pamG,n1,qZ,zZ,hd,qQ,cond_false,overL,Bool.false_eq_true,if_false]
 | succ d ih =>
  intro i m left hi hm hleft kr kx
  obtain ⟨m,rfl⟩ : ∃ r,m = r + 1 := ⟨m - 1,by omega⟩
  have hd : decide ((i : Int) < (ls.length : Int)) = true := by rw [decide_eq_true_iff]; omega
  obtain ⟨s,hsi⟩ : ∃ s,ls[i]? = some s := ⟨_,List.getElem?_eq_getElem (by omega)⟩
  obtain ⟨id,off,cells,own,ix,_,hg,_,_,hc⟩ := sl.at (i := i) (e := [str s]) (by rw [List.getElem?_map,hsi]; rfl) .i64
  have ld : A.load false 1 (.pointer (some ⟨id,off,none⟩)) h = some (str s) := by
   rw [qK,hg]
   have := hc 0 (by show 0 < 1; omega)
   simpa using this
  rw [drop_cons hsi]
  have hwr : IntKind.i64.wrap ((i : Int) + 1) = ((i + 1 : Nat) : Int) := wrap_succ (by omega)
  unfold overL
  by_cases ho : left < s.length
  · have dg : decide ((left : Int) < (s.length : Int)) = true := decide_eq_true (by omega)
    rw [if_pos ho]
    simp only [pahU,pamG,n1,qZ,zZ,hd,qQ,cond_true,ix,ld,qJ,zY,dg,if_true]
  · have dg : decide ((left : Int) < (s.length : Int)) = false := decide_eq_false (by omega)
    have w1 : IntKind.i64.wrap ((left : Int) - (s.length : Int)) = ((left - s.length : Nat) : Int) := by rw [wrap64 (by omega) (by omega)]; omega
    rw [if_neg ho]
    simp only [pahU,pamG,n1,qZ,zZ,hd,qQ,cond_true,ix,ld,qJ,zY,dg,cond_false,bin_sub,w1,bin_add,hwr]
    exact ih (i + 1) m (left - s.length) (by omega) (by omega) (by omega) kr kx
theorem T5 (k : Nat) {h : H} {p : Pq} {w : Value} {es : List Sb} (s : SliceE 2 h w (es.map sbC)) : ∃ h',callO Tryd.prog 2 Q (k + 2002) 5 [.agg ⟨p.cells w⟩] h = some (.bool (grB p es),h') ∧ Ext h h' := by
 rw [F5eq Q (k + 2001) _ h (kn.fr 5 _ (by decide))]
 obtain ⟨ha,ea,ba,xa,na⟩ := box_pq p s.cells h
 have sa := s.ext xa
 have n1 : A.lenS w = some (.int .i64 (es.length : Int)) := by have := s.len.1; rwa [List.length_map] at this
 have l22 := ba.ld (i := 22) rfl
 unfold grB
 by_cases hl : 100 < es.length
 · have d : decide ((100 : Int) < (es.length : Int)) = true := decide_eq_true (by omega)
   rw [if_pos hl]
   refine ⟨ha,?_,xa⟩
   simp only [F5,p5a,paeW,ea,qX,pabI,qY,Nat.zero_add,l22,qZ,n1,zY,d,qQ,cond_true]
 have d : decide ((100 : Int) < (es.length : Int)) = false := decide_eq_false (by omega)
 rw [if_neg hl]
 have l5 := ba.ld (i := 5) rfl
 have l6 := ba.ld (i := 6) rfl
 have l10 := ba.ld (i := 10) rfl
 have l12 := ba.ld (i := 12) rfl
 have l13 := ba.ld (i := 13) rfl
 have l18 := ba.ld (i := 18) rfl
 have l19 := ba.ld (i := 19) rfl
 have l23 := ba.ld (i := 23) rfl
 obtain ⟨hb,hhb⟩ : ∃ hb,hb = ha.push (.cells [str p.topic,str p.payload,str p.client,str p.wt,str p.wp,str p.user,str p.pass,str p.codes] (some 1)) := ⟨_,rfl⟩
 have eb : A.buildSlice 1 8 WcA.Z9L [(0,1,str p.topic),(1,1,str p.payload),(2,1,str p.client),(3,1,str p.wt),(4,1,str p.wp),(5,1,str p.user),(6,1,str p.pass),(7,1,str p.codes)] ha = some (.slice (some ⟨ha.next,0,none⟩) 8 17,hb) := by rw [hhb]; rfl
 have xb : Ext ha hb := by rw [hhb]; exact Ext.push ha _
 have vb : Lit 1 hb (.slice (some ⟨ha.next,0,none⟩) 8 17) ([p.topic,p.payload,p.client,p.wt,p.wp,p.user,p.pass,p.codes].map fun s => [str s]) := ⟨by intro e he; simp at he; rcases he with rfl | rfl | rfl | rfl | rfl | rfl | rfl | rfl <;> rfl,ha.next,rfl,by rw [hhb]; exact Nat.lt_succ_self _,by rw [hhb,H.get_push,if_pos rfl]; rfl⟩
 obtain ⟨hc,vc,ec,xc,sc⟩ := lpG kn (callO Tryd.prog 2 Q (k + 2001)) (k + 2001) (by omega) ba sa (.int .i64 10000) es.length 0 (k + 2001) hb _ _ (by omega) (by omega) xb (.inl vb) (by simp) (fun j hj => by cases hj; exact Nat.le_refl _) (by simp; omega)
 rw [List.drop_zero] at sc
 have hh := lpH kn (callO Tryd.prog 2 Q (k + 2001)) (k + 2001) sc (by rw [List.length_append,List.length_map]; simp; omega) _ 0 (k + 2001) 10000 (Nat.zero_add _) (by rw [List.length_append,List.length_map]; simp; omega) (Nat.le_refl _)
 rw [List.drop_zero] at hh
 refine ⟨hc,?_,xa.trans xc⟩
 generalize k + 2001 = M at ec hh ⊢
 have ec : ∀ kx : Value → Value → H → Option (Value × H),pagI (callO Tryd.prog 2 Q M) M kx M (.int .i64 0) (ptrV h.next) (.slice (some ⟨ha.next,0,none⟩) 8 17) (.int .i64 10000) hb = kx vc (.int .i64 10000) hc := ec
 have hh : ∀ (kr : Value → H → Option (Value × H)) (kx : H → Option (Value × H)),pahU (callO Tryd.prog 2 Q M) M kr kx M (.int .i64 0) vc (.int .i64 10000) hc = if overL (txL p es) 10000 then kr (.bool true) hc else kx hc := hh
 simp only [F5,p5a,paeW,ea,qX,pabI,qY,Nat.zero_add,Nat.add_zero,Nat.reduceAdd,l22,qZ,n1,zY,d,qQ,cond_false,pagL,padQ,l5,l6,l10,l12,l13,l18,l19,l23,eb,pabM,pahT,pacC,ec,paeO,parJ,pafW,hh,parK]
 cases overL (txL p es) 10000 <;> rfl
end
end Go.Proofs.YtohapjojkjjflaaDoor.Wc
