import Derived.Test.YtohapjojkjjflaaDoorRi
import Derived.Test.YtohapjojkjjflaaDoorRt
import Derived.Test.YtohapjojkjjflaaDoorRk
namespace Go.Proofs.YtohapjojkjjflaaDoor.Wc
open Go Go.AM WcA
theorem overL_sum : ∀ {l : List (List UInt8)} {left : Nat},overL l left = false → (l.map List.length).sum ≤ left
 | [],_,_ => Nat.zero_le _
 | x :: l,left,e => by
  unfold overL at e
  split at e
  · cases e
  · have := overL_sum e
    simp only [List.map_cons,List.sum_cons]
    omega
theorem subsB_le (kind : Nat) : ∀ es : List Sb,(subsB kind es).length ≤ ((es.map (·.1)).map List.length).sum + 3 * es.length
 | [] => Nat.zero_le _
 | s :: l => by
  have ih := subsB_le kind l
  rw [subsB_cons,List.length_append]
  simp only [List.map_cons,List.sum_cons,List.length_cons]
  have : (subB kind s).length ≤ s.1.length + 3 := by
   unfold subB
   rw [List.length_append,fieldB_len]
   split <;> simp <;> omega
  omega
theorem restB_le (p : Pq) (es : List Sb) : (restB p es).length ≤ 40 + ((txL p es).map List.length).sum + 3 * es.length := by
 have ht : ((txL p es).map List.length).sum = p.topic.length + p.payload.length + p.client.length + p.wt.length + p.wp.length + p.user.length + p.pass.length + p.codes.length + ((es.map (·.1)).map List.length).sum := by
  unfold txL
  simp only [List.map_append,List.sum_append,List.map_cons,List.sum_cons,List.map_nil,List.sum_nil]
  omega
 rw [ht]
 have hs := subsB_le p.kind es
 unfold restB
 split
 · unfold connB
   have l1 : (if p.will then fieldB p.wt ++ fieldB p.wp else []).length ≤ 4 + p.wt.length + p.wp.length := by split <;> simp [fieldB_len] <;> omega
   have l2 : (if p.hu then fieldB p.user else []).length ≤ 2 + p.user.length := by split <;> simp [fieldB_len]
   have l3 : (if p.hp then fieldB p.pass else []).length ≤ 2 + p.pass.length := by split <;> simp [fieldB_len]
   rw [List.length_append,List.length_append,List.length_append,List.length_append,List.length_append,List.length_append]
   simp only [fieldB_len,wordB,List.length_cons,List.length_nil,show MQTT.length = 4 from rfl]
   omega
 split
 · simp only [List.length_cons,List.length_nil]; omega
 · have l1 : (if p.kind = 3 then fieldB p.topic else []).length ≤ 2 + p.topic.length := by split <;> simp [fieldB_len]
   have l2 : (if 0 < p.id then wordB p.id else []).length ≤ 2 := by split <;> simp [wordB]
   simp only [List.length_append]
   omega
theorem encL_le {N : Nat} : ∀ {ps : List Pe},(∀ r ∈ ps,(encB r.1 r.2.1).length ≤ N) → (encL ps).length ≤ N * ps.length
 | [],_ => Nat.zero_le _
 | r :: l,h => by
  have ih := encL_le (fun r hr => h r (List.mem_cons_of_mem _ hr))
  have := h r (List.mem_cons_self ..)
  rw [encL_cons,List.length_append,List.length_cons,Nat.mul_succ]; omega
theorem cut_len {dec : List UInt8 → Option (Pq × List Sb × Nat)} (pos : ∀ l p es n,dec l = some (p,es,n) → 0 < n ∧ n ≤ l.length) : ∀ (f : Nat) (l : List UInt8),(cutL dec f l).1.length ≤ l.length
 | 0,_ => Nat.zero_le _
 | f + 1,l => by
  unfold cutL
  cases h : dec l with
  | none => exact Nat.zero_le _
  | some x =>
   obtain ⟨p,es,n⟩ := x
   have := pos l p es n h
   have ih := cut_len pos f (l.drop n)
   rw [List.length_drop] at ih
   show (cutL dec f (l.drop n)).1.length + 1 ≤ _
   omega
theorem encL_all (ps : List Pe) : encL ps = allB (ps.map Pe.d) := by
 induction ps with
 | nil => rfl
 | cons r l ih => rw [encL_cons,ih,List.map_cons,allB_cons]; rfl
section
variable {Q : Orc} {B : H} {A' : List Nat} (kb : KnA Q) (bt : BaseT B A') (aw : Q 4 [] = some (.bool true))
include kb bt aw
theorem lpL (k L : Nat) {x : Value} {ps : List Pe} {b : List UInt8} (hps : ps.length ≤ 20) :
 ∀ (d i m : Nat) (h : H),i + d = ps.length → d < m → InR h x ps →
  ∃ h',Ext h h' ∧ ∀ (kr : Value → H → Option (Value × H)) (kx : Value → Value → H → Option (Value × H)),pahB (callO Tryd.prog 2 Q (k + 1001002)) L kr kx m (.int .i64 (i : Int)) (str b) x h = if ((ps.drop i).any fun r : Pe => grB r.1 r.2.1) then kr (.bool true) h' else kx (str b) x h' := by
 have _ := bt
 intro d
 induction d with
 | zero =>
  intro i m h hi hm hr
  obtain ⟨m,rfl⟩ : ∃ r,m = r + 1 := ⟨m - 1,by omega⟩
  have n1 : A.lenS x = some (.int .i64 (ps.length : Int)) := by have := hr.row.len.1; rwa [List.length_map] at this
  have hd : decide ((i : Int) < (ps.length : Int)) = false := by rw [decide_eq_false_iff_not]; omega
  refine ⟨h,Ext.refl h,fun kr kx => ?_⟩
  rw [List.drop_eq_nil_of_le (by omega)]
  simp only [pahB,palY,n1,qZ,zZ,hd,qQ,cond_false,List.any_nil,Bool.false_eq_true,if_false]
 | succ d ih =>
  intro i m h hi hm hr
  obtain ⟨m,rfl⟩ : ∃ r,m = r + 1 := ⟨m - 1,by omega⟩
  have n1 : A.lenS x = some (.int .i64 (ps.length : Int)) := by have := hr.row.len.1; rwa [List.length_map] at this
  have hd : decide ((i : Int) < (ps.length : Int)) = true := by rw [decide_eq_true_iff]; omega
  obtain ⟨r,hri⟩ : ∃ r,ps[i]? = some r := ⟨_,List.getElem?_eq_getElem (by omega)⟩
  obtain ⟨id,off,cells,own,ix,_,hg,h4,h5,_⟩ := hr.row.at (i := i) (e := r.c) (by rw [List.getElem?_map,hri]; rfl) .i64
  have ld : A.load true 24 (.pointer (some ⟨id,off,none⟩)) h = some (.agg ⟨r.1.cells r.2.2⟩) := load_of hg h4 h5
  obtain ⟨h1,e5,x1⟩ := T5 kb (k + 999000) (p := r.1) (hr.sub r (List.mem_of_getElem? hri))
  rw [show k + 999000 + 2002 = k + 1001002 by omega] at e5
  rw [drop_cons hri]
  have hwr : IntKind.i64.wrap ((i : Int) + 1) = ((i + 1 : Nat) : Int) := wrap_succ (by omega)
  cases hgr : grB r.1 r.2.1 with
  | true =>
   rw [hgr] at e5
   have e4 := qB aw (k + 1001001) h1
   have e4 : callO Tryd.prog 2 Q (k + 1001002) 4 [] h1 = some (.bool true,h1) := e4
   refine ⟨h1,x1,fun kr kx => ?_⟩
   simp only [pahB,palY,n1,qZ,zZ,hd,qQ,cond_true,ix,ld,e5,qX,e4,List.any_cons,hgr,Bool.true_or,if_true]
  | false =>
   rw [hgr] at e5
   obtain ⟨h',x',e⟩ := ih (i + 1) m h1 (by omega) (by omega) (hr.ext x1)
   refine ⟨h',x1.trans x',fun kr kx => ?_⟩
   simp only [pahB,palY,n1,qZ,zZ,hd,qQ,cond_true,ix,ld,e5,qX,cond_false,bin_add,hwr,List.any_cons,hgr,Bool.false_or]
   exact e kr kx
theorem lpM (k L : Nat) {x v : Value} {ps new : List Pe} {b s : List UInt8} {en : Value} (hps : ps.length ≤ 20) (hsub : ∀ r ∈ ps,r.2.1.length ≤ 1000000) (hnew : ∀ (i : Nat) (r : Pe),ps[i]? = some r → ∃ w,new[i]? = some (r.1,r.2.1,w)) :
 ∀ (d i m : Nat) (h : H),i + d = ps.length → d < m → InR h x ps → InR h v new →
  ∃ h',Ext h h' ∧ ∀ (kr : Value → H → Option (Value × H)) (kx : Value → Value → Value → Value → Value → H → Option (Value × H)),paiG (callO Tryd.prog 2 Q (k + 1001002)) L kr kx m (.int .i64 (i : Int)) (str b) v x en (str s) h = kx (str b) v x en (str s) h' := by
 have _ := bt
 have _ := aw
 intro d
 induction d with
 | zero =>
  intro i m h hi hm hr hv
  obtain ⟨m,rfl⟩ : ∃ r,m = r + 1 := ⟨m - 1,by omega⟩
  have n1 : A.lenS x = some (.int .i64 (ps.length : Int)) := by have := hr.row.len.1; rwa [List.length_map] at this
  have hd : decide ((i : Int) < (ps.length : Int)) = false := by rw [decide_eq_false_iff_not]; omega
  refine ⟨h,Ext.refl h,fun kr kx => ?_⟩
  simp only [paiG,panD,n1,qZ,zZ,hd,qQ,cond_false]
 | succ d ih =>
  intro i m h hi hm hr hv
  obtain ⟨m,rfl⟩ : ∃ r,m = r + 1 := ⟨m - 1,by omega⟩
  have n1 : A.lenS x = some (.int .i64 (ps.length : Int)) := by have := hr.row.len.1; rwa [List.length_map] at this
  have hd : decide ((i : Int) < (ps.length : Int)) = true := by rw [decide_eq_true_iff]; omega
  obtain ⟨r,hri⟩ : ∃ r,ps[i]? = some r := ⟨_,List.getElem?_eq_getElem (by omega)⟩
  obtain ⟨w,hni⟩ := hnew i r hri
  obtain ⟨id,off,cells,own,ix,_,hg,h4,h5,_⟩ := hr.row.at (i := i) (e := r.c) (by rw [List.getElem?_map,hri]; rfl) .i64
  have ld : A.load true 24 (.pointer (some ⟨id,off,none⟩)) h = some (.agg ⟨r.1.cells r.2.2⟩) := load_of hg h4 h5
  obtain ⟨id',off',cells',own',ix',_,hg',h4',h5',_⟩ := hv.row.at (i := i) (e := Pe.c (r.1,r.2.1,w)) (by rw [List.getElem?_map,hni]; rfl) .i64
  have ld' : A.load true 24 (.pointer (some ⟨id',off',none⟩)) h = some (.agg ⟨r.1.cells w⟩) := load_of hg' h4' h5'
  have hrm := List.mem_of_getElem? hri
  obtain ⟨h1,e8,x1⟩ := T8 kb (k + 1000) (p := r.1) (hsub r hrm) (hv.sub (r.1,r.2.1,w) (List.mem_of_getElem? hni)) (hr.sub r hrm)
  rw [show k + 1000 + 1000002 = k + 1001002 by omega] at e8
  have hwr : IntKind.i64.wrap ((i : Int) + 1) = ((i + 1 : Nat) : Int) := wrap_succ (by omega)
  obtain ⟨h',x',e⟩ := ih (i + 1) m h1 (by omega) (by omega) (hr.ext x1) (hv.ext x1)
  refine ⟨h',x1.trans x',fun kr kx => ?_⟩
  simp only [paiG,panD,n1,qZ,zZ,hd,qQ,cond_true,ix',ld',ix,ld,e8,qX,un_not,Bool.not_true,cond_false,bin_add,hwr]
  exact e kr kx
theorem law3 (k : Nat) {h : H} {x : Value} {ps : List Pe} {b : List UInt8} (hB : Ext B h) (hr : InR h x ps) (rg : ∀ r ∈ ps,Rg r.1 r.2.1) :
 ∃ h',callO Tryd.prog 2 Q (k + 1001003) 3 [x,str b] h = some (.bool true,h') := by
 rw [F3eq Q (k + 1001002) _ _ h (kb.fr 3 _ (by decide))]
 have n1 : A.lenS x = some (.int .i64 (ps.length : Int)) := by have := hr.row.len.1; rwa [List.length_map] at this
 have awk : ∀ h : H,callO Tryd.prog 2 Q (k + 1001002) 4 [] h = some (.bool true,h) := fun h => qB aw (k + 1001001) h
 by_cases c20 : 20 < ps.length
 · have d : decide ((20 : Int) < (ps.length : Int)) = true := decide_eq_true (by omega)
   refine ⟨h,?_⟩
   simp only [F3,p3a,padK,padL,n1,qZ,zY,d,qQ,cond_true,awk,qX]
 have d1 : decide ((20 : Int) < (ps.length : Int)) = false := decide_eq_false (by omega)
 by_cases cb : 20 < b.length
 · have d : decide ((20 : Int) < (b.length : Int)) = true := decide_eq_true (by omega)
   refine ⟨h,?_⟩
   simp only [F3,p3a,padK,padL,n1,qZ,zY,d1,qQ,cond_false,qJ,d,cond_true,awk,qX]
 have d2 : decide ((20 : Int) < (b.length : Int)) = false := decide_eq_false (by omega)
 obtain ⟨h1,x1,eL⟩ := lpL kb bt aw k (k + 1001002) (b := b) (x := x) (by omega) ps.length 0 (k + 1001002) h (by omega) (by omega) hr
 rw [List.drop_zero] at eL
 cases hany : ps.any fun r : Pe => grB r.1 r.2.1 with
 | true =>
  rw [hany] at eL
  refine ⟨h1,?_⟩
  obtain ⟨M,hM⟩ : ∃ M,M = k + 1001002 := ⟨_,rfl⟩
  rw [← hM] at eL ⊢
  have eL : ∀ (kr : Value → H → Option (Value × H)) (kx : Value → Value → H → Option (Value × H)),pahB (callO Tryd.prog 2 Q M) M kr kx M (.int .i64 0) (str b) x h = kr (.bool true) h1 := eL
  simp only [F3,p3a,padK,padL,n1,qZ,zY,d1,qQ,cond_false,qJ,d2,paaA,pagO,paaB,eL]
 | false =>
  rw [hany] at eL
  have hgr : ∀ r ∈ ps,Bd r.1 r.2.1 ∧ r.2.1.length ≤ 100 := fun r hr' => gr_bd (rg r hr') (by
   cases hg : grB r.1 r.2.1 with
   | false => rfl
   | true => have : (ps.any fun r : Pe => grB r.1 r.2.1) = true := List.any_eq_true.2 ⟨r,hr',hg⟩; rw [hany] at this; cases this)
  have va := va_of kb bt
  have ok := ok_of kb va
  have vl := vl_of kb bt
  obtain ⟨h2,x2,e6⟩ := T6 kb va ok vl (k + 98) (hB.trans x1) (hr.ext x1) (by omega) (fun r hr' => (hgr r hr').1) rg (fun r hr' => by have := (hgr r hr').2; omega)
  rw [show k + 98 + 1000904 = k + 1001002 by omega] at e6
  cases hs : szL (rstO (valB A') (nmB (valB A')) (fiB (valB A'))) ps with
  | none =>
   rw [hs] at e6
   have t0 : A.extract 0 (.tuple ⟨[str [],.int .i64 4]⟩) = some (str []) := rfl
   have t1 : A.extract 1 (.tuple ⟨[str [],.int .i64 4]⟩) = some (.int .i64 4) := rfl
   have dn : A.bin Tryd.prog .neq 31 (.int .i64 4) (.int .i64 0) = some (.bool true) := by rw [bin_neq]; rfl
   refine ⟨h2,?_⟩
   obtain ⟨M,hM⟩ : ∃ M,M = k + 1001002 := ⟨_,rfl⟩
   rw [← hM] at eL e6 awk ⊢
   have eL : ∀ (kr : Value → H → Option (Value × H)) (kx : Value → Value → H → Option (Value × H)),pahB (callO Tryd.prog 2 Q M) M kr kx M (.int .i64 0) (str b) x h = kx (str b) x h1 := eL
   have e6 : callO Tryd.prog 2 Q M 6 [x] h1 = some (.tuple ⟨[str [],.int .i64 4]⟩,h2) := e6
   simp only [F3,p3a,padK,padL,n1,qZ,zY,d1,qQ,cond_false,qJ,d2,paaA,pagO,paaB,eL,pabV,e6,qX,t0,t1,pafU,dn,cond_true,awk]
  | some S =>
   rw [hs] at e6
   obtain ⟨e6,hall⟩ := e6
   obtain ⟨dec,hdec⟩ : ∃ dec,dec = decP (valB A') (nmB (valB A')) (fiB (valB A')) := ⟨_,rfl⟩
   have pos : ∀ l p es n,dec l = some (p,es,n) → 0 < n ∧ n ≤ l.length := fun l p es n e => decP_pos (hdec ▸ e)
   have hD : ∀ (h : H) (l : List UInt8),l.length ≤ 1000300 → Ext B h → D7 (callO Tryd.prog 2 Q (k + 1001001) 16 [str l] h) h (dec l) := fun h l hl hB => hdec ▸ T7any kb bt k hl hB
   have hE : ∀ r ∈ ps,(encB r.1 r.2.1).length ≤ 11000 := by
    intro r hr'
    have hg : grB r.1 r.2.1 = false := by
     cases hg : grB r.1 r.2.1 with
     | false => rfl
     | true => have : (ps.any fun r : Pe => grB r.1 r.2.1) = true := List.any_eq_true.2 ⟨r,hr',hg⟩; rw [hany] at this; cases this
    unfold grB at hg
    split at hg
    · cases hg
    have s1 := overL_sum hg
    have s2 := restB_le r.1 r.2.1
    have s3 := (lenB_le kb (restB r.1 r.2.1).length).2
    unfold encB
    rw [List.length_cons,List.length_append]
    omega
   have hEL := encL_le hE
   have hEL : (encL ps).length ≤ 220000 := by omega
   obtain ⟨S1,hS1⟩ : ∃ S1,S1 = encL ps ++ b := ⟨_,rfl⟩
   have hSl : S1.length = (encL ps).length + b.length := by rw [hS1,List.length_append]
   have hS : S1.length ≤ 1000300 := by omega
   have cat : A.bin Tryd.prog .add 9 (str (encL ps)) (str b) = some (str S1) := hS1 ▸ cat9 (by omega)
   have en : ∀ p es r,(p,es) ∈ ps.map Pe.d → dec (encB p es ++ r) = some (p,es,(encB p es).length) := by
    intro p es r hm
    obtain ⟨q,hq,e⟩ := List.mem_map.1 hm
    obtain ⟨n,hn⟩ := hall q hq
    have e1 : p = q.1 := (congrArg Prod.fst e).symm
    have e2 : es = q.2.1 := (congrArg Prod.snd e).symm
    subst e1; subst e2
    rw [hdec]
    exact dec_enc vl (rg q hq) hn r
   have cA := cut_all pos en b (S1.length + 1) (by rw [← encL_all,← hS1]; omega)
   rw [← encL_all,← hS1,cut_fuel pos (S1.length + 1) (b.length + 1) b (by omega) (by omega)] at cA
   obtain ⟨E,hEd⟩ : ∃ E,E = cutL dec (b.length + 1) b := ⟨_,rfl⟩
   rw [← hEd] at cA
   have hE2 : E.2 ≤ b.length := hEd ▸ cut_le pos _ _
   have hE1 : E.1.length ≤ b.length := hEd ▸ cut_len pos _ _
   have hend := cut_end pos (S1.length + 1) S1 (by omega)
   rw [cA] at hend
   have hend : dec (S1.drop ((encL ps).length + E.2)) = none := hend
   obtain ⟨h3,v,new,e7,em,hv,x3,_,_⟩ := T7c kb pos hD h2 hS ((hB.trans x1).trans x2)
   rw [cA] at e7 em
   have em : new.map Pe.d = ps.map Pe.d ++ E.1 := em
   have e7 : callO Tryd.prog 2 Q (k + 1001002) 7 [str S1] h2 = some (.tuple ⟨[v,.int .i64 (((encL ps).length + E.2 : Nat) : Int)]⟩,h3) := e7
   have hnl : new.length = ps.length + E.1.length := by have := congrArg List.length em; simpa using this
   obtain ⟨N,hN⟩ : ∃ N,N = (encL ps).length + E.2 := ⟨_,rfl⟩
   rw [← hN] at e7 hend
   have n3 : A.lenS v = some (.int .i64 (new.length : Int)) := by have := hv.row.len.1; rwa [List.length_map] at this
   have hnew : ∀ (i : Nat) (r : Pe),ps[i]? = some r → ∃ w,new[i]? = some (r.1,r.2.1,w) := by
    intro i r hi
    have hil := (List.getElem?_eq_some_iff.1 hi).1
    have h1 : (new.map Pe.d)[i]? = some (Pe.d r) := by rw [em,List.getElem?_append_left (by simpa using hil),List.getElem?_map,hi]; rfl
    rw [List.getElem?_map] at h1
    cases hn : new[i]? with
    | none => rw [hn] at h1; cases h1
    | some q =>
     rw [hn] at h1
     have h1 : (q.1,q.2.1) = (r.1,r.2.1) := Option.some.inj h1
     refine ⟨q.2.2,?_⟩
     have a1 : q.1 = r.1 := (Prod.mk.inj h1).1
     have a2 : q.2.1 = r.2.1 := (Prod.mk.inj h1).2
     rw [← a1,← a2]
   have xr3 := hr.ext ((x1.trans x2).trans x3)
   obtain ⟨h4,x4,eM⟩ := lpM kb bt aw k (k + 1001002) (b := b) (s := encL ps) (en := .int .i64 (N : Int)) (by omega) (fun r hr' => by have := (hgr r hr').2; omega) hnew ps.length 0 (k + 1001002) h3 (by omega) (by omega) xr3 hv
   have xB4 := (((hB.trans x1).trans x2).trans x3).trans x4
   obtain ⟨h5,v5,new5,e75,em5,hv5,x5,_,_⟩ := T7c kb pos hD h4 (s := b) (by omega) xB4
   rw [← hEd] at e75 em5
   have n5 : A.lenS v5 = some (.int .i64 (new5.length : Int)) := by have := hv5.row.len.1; rwa [List.length_map] at this
   have hn5 : new5.length = E.1.length := by have := congrArg List.length em5; simpa using this
   have slD := slS (l := S1) (k := N) (by omega)
   obtain ⟨h6,v6,new6,e76,em6,hv6,x6,_,_⟩ := T7c kb pos hD h5 (s := S1.drop N) (by rw [List.length_drop]; omega) (xB4.trans x5)
   have hz : cutL dec ((S1.drop N).length + 1) (S1.drop N) = ([],0) := by unfold cutL; rw [hend]
   rw [hz] at e76
   have e76 : callO Tryd.prog 2 Q (k + 1001002) 7 [str (S1.drop N)] h5 = some (.tuple ⟨[v6,.int .i64 0]⟩,h6) := e76
   have dnz : A.bin Tryd.prog .neq 31 (.int .i64 0) (.int .i64 0) = some (.bool false) := by rw [bin_neq]; rfl
   have t0 : A.extract 0 (.tuple ⟨[str (encL ps),.int .i64 0]⟩) = some (str (encL ps)) := rfl
   have t1 : A.extract 1 (.tuple ⟨[str (encL ps),.int .i64 0]⟩) = some (.int .i64 0) := rfl
   have t2 : A.extract 0 (.tuple ⟨[v,.int .i64 (N : Int)]⟩) = some v := rfl
   have t3 : A.extract 1 (.tuple ⟨[v,.int .i64 (N : Int)]⟩) = some (.int .i64 (N : Int)) := rfl
   have t4 : A.extract 0 (.tuple ⟨[v5,.int .i64 (E.2 : Int)]⟩) = some v5 := rfl
   have t5 : A.extract 1 (.tuple ⟨[v5,.int .i64 (E.2 : Int)]⟩) = some (.int .i64 (E.2 : Int)) := rfl
   have t6 : A.extract 0 (.tuple ⟨[v6,.int .i64 0]⟩) = some v6 := rfl
   have t7 : A.extract 1 (.tuple ⟨[v6,.int .i64 0]⟩) = some (.int .i64 0) := rfl
   have q1 : decide ((new.length : Int) < (ps.length : Int)) = false := decide_eq_false (by omega)
   have q2 : decide ((N : Int) < ((encL ps).length : Int)) = false := decide_eq_false (by omega)
   have w1 : IntKind.i64.wrap (((encL ps).length : Int) + (b.length : Int)) = (((encL ps).length + b.length : Nat) : Int) := by rw [wrap64 (by omega) (by omega)]; omega
   have q3 : decide ((((encL ps).length + b.length : Nat) : Int) < (N : Int)) = false := decide_eq_false (by omega)
   have w2 : IntKind.i64.wrap ((ps.length : Int) + (new5.length : Int)) = ((ps.length + new5.length : Nat) : Int) := by rw [wrap64 (by omega) (by omega)]; omega
   have q4 : decide ((new.length : Int) = ((ps.length + new5.length : Nat) : Int)) = true := decide_eq_true (by omega)
   have w3 : IntKind.i64.wrap (((encL ps).length : Int) + (E.2 : Int)) = (N : Int) := by rw [wrap64 (by omega) (by omega)]; omega
   have q5 : decide ((N : Int) = (N : Int)) = true := decide_eq_true rfl
   have q6 : decide ((0 : Int) = 0) = true := rfl
   refine ⟨h6,?_⟩
   obtain ⟨M,hM⟩ : ∃ M,M = k + 1001002 := ⟨_,rfl⟩
   rw [← hM] at eL e6 e7 e75 e76 eM awk ⊢
   have eL : ∀ (kr : Value → H → Option (Value × H)) (kx : Value → Value → H → Option (Value × H)),pahB (callO Tryd.prog 2 Q M) M kr kx M (.int .i64 0) (str b) x h = kx (str b) x h1 := eL
   have e6 : callO Tryd.prog 2 Q M 6 [x] h1 = some (.tuple ⟨[str (encL ps),.int .i64 0]⟩,h2) := e6
   have eM : ∀ (kr : Value → H → Option (Value × H)) (kx : Value → Value → Value → Value → Value → H → Option (Value × H)),paiG (callO Tryd.prog 2 Q M) M kr kx M (.int .i64 0) (str b) v x (.int .i64 (N : Int)) (str (encL ps)) h3 = kx (str b) v x (.int .i64 (N : Int)) (str (encL ps)) h4 := eM
   simp only [F3,p3a,padK,padL,n1,qZ,zY,d1,qQ,cond_false,qJ,d2,paaA,pagO,paaB,eL,pabV,e6,qX,t0,t1,pafU,dnz,pagA,cat,e7,t2,t3,paeS,paqH,n3,zZ,q1,q2,bin_add,w1,q3,paqI,qW,padJ,paqJ,pagE,eM,padT,e75,t4,t5]
   simp only [paaY,cat,slD,qZ,e76,qX,t6,t7,n3,n1,n5,bin_add,w2,zQ,q4,qQ,cond_true,qJ,w3,q5,q6,awk]
   rfl
end
end Go.Proofs.YtohapjojkjjflaaDoor.Wc

namespace Go.Proofs.YtohapjojkjjflaaDoor.Wc
open Go Go.AM
theorem u8_in {h : H} {x : List Value} (ty : Ty Tryd.prog h 5 x) : ∃ n : Nat,x = [.int .u8 (n : Int)] ∧ n < 256 := by
 obtain ⟨n,h3,h4⟩ := ty.int_inv Tryd.underlying5
 have hq : IntKind.u8.min ≤ n ∧ n ≤ IntKind.u8.max := by simpa [Lit.wf] using h4
 have e1 : IntKind.u8.min = 0 := rfl
 have e2 : IntKind.u8.max = 255 := rfl
 exact ⟨n.toNat,by rw [h3,Int.toNat_of_nonneg (by omega)],by omega⟩
theorem u16_in {h : H} {x : List Value} (ty : Ty Tryd.prog h 25 x) : ∃ n : Nat,x = [.int .u16 (n : Int)] ∧ n < 65536 := by
 obtain ⟨n,h3,h4⟩ := ty.int_inv Tryd.underlying25
 have hq : IntKind.u16.min ≤ n ∧ n ≤ IntKind.u16.max := by simpa [Lit.wf] using h4
 have e1 : IntKind.u16.min = 0 := rfl
 have e2 : IntKind.u16.max = 65535 := rfl
 exact ⟨n.toNat,by rw [h3,Int.toNat_of_nonneg (by omega)],by omega⟩
theorem str_in {h : H} {x : List Value} (ty : Ty Tryd.prog h 9 x) : ∃ s : List UInt8,x = [str s] ∧ s.length ≤ maxLen := by
 obtain ⟨s,h1,h2⟩ := ty.str_inv Tryd.underlying9
 exact ⟨s.data.toList,h1,by simpa using h2⟩
theorem subs_in {h : H} : ∀ els : List (List Value),(∀ x ∈ els,Ty Tryd.prog h 43 x) → ∃ l : List Sb,els = l.map sbC ∧ ∀ s ∈ l,s.2 < 256
 | [],_ => ⟨[],rfl,fun s hs => by cases hs⟩
 | x :: els,hx => by
  obtain ⟨l,h1,h2⟩ := subs_in els fun y hy => hx y (by simp [hy])
  have xl := (hx x (by simp)).fields Tryd.underlying43
  simp only [TyFs] at xl
  obtain ⟨_,_,rfl,x0,⟨_,_,rfl,x1,rfl⟩⟩ := xl
  obtain ⟨b0,rfl,_⟩ := str_in x0
  obtain ⟨b1,rfl,hb⟩ := u8_in x1
  refine ⟨(b0,b1) :: l,by rw [h1]; rfl,fun s hs => ?_⟩
  rcases List.mem_cons.1 hs with rfl | hs
  · exact hb
  · exact h2 s hs
theorem packet_in {h : H} {cs : List Value} (ty : Ty Tryd.prog h 30 cs) : ∃ r : Pe,cs = r.c ∧ Rg r.1 r.2.1 ∧ SliceE 2 h r.2.2 (r.2.1.map sbC) := by
 have pl := ty.fields Tryd.underlying30
 simp only [TyFs] at pl
 obtain ⟨_,_,rfl,p0,⟨_,_,rfl,p1,⟨_,_,rfl,p2,⟨_,_,rfl,p3,⟨_,_,rfl,p4,⟨_,_,rfl,p5,⟨_,_,rfl,p6,⟨_,_,rfl,p7,⟨_,_,rfl,p8,⟨_,_,rfl,p9,⟨_,_,rfl,p10,⟨_,_,rfl,p11,⟨_,_,rfl,p12,⟨_,_,rfl,p13,⟨_,_,rfl,p14,⟨_,_,rfl,p15,⟨_,_,rfl,p16,⟨_,_,rfl,p17,⟨_,_,rfl,p18,⟨_,_,rfl,p19,⟨_,_,rfl,p20,rfl⟩⟩⟩⟩⟩⟩⟩⟩⟩⟩⟩⟩⟩⟩⟩⟩⟩⟩⟩⟩⟩ := pl
 obtain ⟨a0,rfl,k0⟩ := u8_in p0
 obtain ⟨a1,rfl⟩ := p1.bool_inv Tryd.underlying4
 obtain ⟨a2,rfl,k2⟩ := u8_in p2
 obtain ⟨a3,rfl⟩ := p3.bool_inv Tryd.underlying4
 obtain ⟨a4,rfl,k4⟩ := u16_in p4
 obtain ⟨a5,rfl,_⟩ := str_in p5
 obtain ⟨a6,rfl,_⟩ := str_in p6
 obtain ⟨a7,rfl,k7⟩ := u8_in p7
 obtain ⟨a8,rfl⟩ := p8.bool_inv Tryd.underlying4
 obtain ⟨a9,rfl,k9⟩ := u16_in p9
 obtain ⟨a10,rfl,_⟩ := str_in p10
 obtain ⟨a11,rfl⟩ := p11.bool_inv Tryd.underlying4
 obtain ⟨a13,rfl⟩ := p13.bool_inv Tryd.underlying4
 obtain ⟨a14,rfl⟩ := p14.bool_inv Tryd.underlying4
 obtain ⟨a15,rfl,_⟩ := str_in p15
 obtain ⟨a16,rfl,_⟩ := str_in p16
 obtain ⟨a17,rfl⟩ := p17.bool_inv Tryd.underlying4
 obtain ⟨a18,rfl,k18⟩ := u8_in p18
 obtain ⟨a20,rfl,_⟩ := str_in p20
 obtain ⟨w,els,rfl,hs,hm,he⟩ := p19.slice_inv Tryd.underlying28
 have c2 : Tryd.prog.cellsOf 43 = 2 := by kernel_rfl
 rw [c2] at hs
 obtain ⟨l,rfl,hl⟩ := subs_in els he
 have wl := p12.fields Tryd.underlying27
 simp only [TyFs] at wl
 obtain ⟨_,_,rfl,q0,⟨_,_,rfl,q1,⟨_,_,rfl,q2,⟨_,_,rfl,q3,rfl⟩⟩⟩⟩ := wl
 obtain ⟨b0,rfl,_⟩ := str_in q0
 obtain ⟨b1,rfl,_⟩ := str_in q1
 obtain ⟨b2,rfl,kb⟩ := u8_in q2
 obtain ⟨b3,rfl⟩ := q3.bool_inv Tryd.underlying4
 exact ⟨(⟨a0,a1,a2,a3,a4,a5,a6,a7,a8,a9,a10,a11,b0,b1,b2,b3,a13,a14,a15,a16,a17,a18,a20⟩,l,w),rfl,⟨k0,k2,k4,k7,k9,kb,k18,hl⟩,hs⟩
theorem packets_in {h : H} : ∀ els : List (List Value),(∀ x ∈ els,Ty Tryd.prog h 30 x) → ∃ ps : List Pe,els = ps.map Pe.c ∧ (∀ r ∈ ps,Rg r.1 r.2.1) ∧ ∀ r ∈ ps,SliceE 2 h r.2.2 (r.2.1.map sbC)
 | [],_ => by
  refine ⟨[],rfl,?_,?_⟩
  · intro r hr; cases hr
  · intro r hr; cases hr
 | x :: els,hx => by
  obtain ⟨ps,h1,h2,h3⟩ := packets_in els fun y hy => hx y (by simp [hy])
  obtain ⟨r,rfl,rg,sl⟩ := packet_in (hx x (by simp))
  refine ⟨r :: ps,by rw [h1]; rfl,fun s hs => ?_,fun s hs => ?_⟩
  · rcases List.mem_cons.1 hs with rfl | hs
    · exact rg
    · exact h2 s hs
  · rcases List.mem_cons.1 hs with rfl | hs
    · exact sl
    · exact h3 s hs
theorem row_in {h : H} {v : Value} (ty : TyV Tryd.prog h 22 v) : ∃ ps : List Pe,InR h v ps ∧ (∀ r ∈ ps,Rg r.1 r.2.1) ∧ ps.length ≤ maxLen := by
 cases ty with
 | agg hu _ => rw [Tryd.underlying22] at hu; simp at hu
 | one hu ty =>
  obtain ⟨v',els,hv,hs,hm,he⟩ := ty.slice_inv Tryd.underlying22
  simp only [List.cons.injEq,and_true] at hv
  subst hv
  have c2 : Tryd.prog.cellsOf 30 = 24 := by kernel_rfl
  rw [c2] at hs
  obtain ⟨ps,rfl,rg,sl⟩ := packets_in els he
  exact ⟨ps,⟨hs,sl⟩,rg,by simpa using hm⟩
theorem text_in {h : H} {v : Value} (ty : TyV Tryd.prog h 9 v) : ∃ b : List UInt8,v = str b ∧ b.length ≤ maxLen := by
 cases ty with
 | agg hu _ => rw [Tryd.underlying9] at hu; simp at hu
 | one hu ty =>
  obtain ⟨s,hv,hl⟩ := str_in ty
  simp only [List.cons.injEq,and_true] at hv
  exact ⟨s,hv,hl⟩
end Go.Proofs.YtohapjojkjjflaaDoor.Wc
