import Derived.Test.YtpanfoafajepcaaGreatDoorGt
namespace Go.AM
open Go Go.RowKit
def CF.le (C C':CF):Prop:=∀f args h r,C f args h=some r→C' f args h=some r
theorem CF.le_refl (C:CF):C.le C:=fun _ _ _ _ h=>h
theorem CF.le.trans {A B C:CF}(x:A.le B)(y:B.le C):A.le C:=fun _ _ _ _ h=>y _ _ _ _ (x _ _ _ _ h)
structure Dir (S:CF→Prop)(Ci:CF):Prop where
  ne:∃C,S C
  up:∀A B,S A→S B→∃C,S C∧A.le C∧B.le C
  fin:∀f args h r,Ci f args h=some r→∃C,S C∧C f args h=some r
theorem Dir.one (C:CF):Dir (fun A=>A=C) C:=⟨⟨C,rfl⟩,fun A B a b=>⟨C,rfl,a▸CF.le_refl _,b▸CF.le_refl _⟩,fun _ _ _ _ h=>⟨C,rfl,h⟩⟩
section
variable {P:Program}{NG:Nat}{S:CF→Prop}{Ci:CF}
theorem aAl {A B:CF}(h:A.le B){f:Value}{vs:List Value}{x:H}{r:Value×H}(hr:callV A f vs x=some r):callV B f vs x=some r:=by
  unfold callV at hr⊢;split at hr
  ·obtain⟨hb,hr⟩:=aA hr;simp only[hb,cond_true];exact h _ _ _ _ hr
  ·exact h _ _ _ _ hr
  ·cases hr
theorem aHs {A B:CF}(h:A.le B){f:Value}{vs:List Value}{x:H}{r:Value×H}(hr:callM P A f vs x=some r):callM P B f vs x=some r:=by
  unfold callM at hr⊢;split at hr
  ·split at hr
   ·obtain⟨hb,hr⟩:=aA hr;obtain⟨p,h1,hr⟩:=bind_some hr;obtain⟨q,h2,hr⟩:=bind_some hr;simp only[*,cond_true,pD];exact h _ _ _ _ hr
   ·cases hr
  ·exact aAl h hr
theorem Dir.callV (d:Dir S Ci){f:Value}{vs:List Value}{x:H}{r:Value×H}(hr:callV Ci f vs x=some r):∃C,S C∧callV C f vs x=some r:=by
  unfold AM.callV at hr⊢;split at hr
  ·obtain⟨hb,hr⟩:=aA hr;obtain⟨C,hC,e⟩:=d.fin _ _ _ _ hr;exact⟨C,hC,by simp only[hb,cond_true];exact e⟩
  ·exact d.fin _ _ _ _ hr
  ·cases hr
theorem Dir.callM (d:Dir S Ci){f:Value}{vs:List Value}{x:H}{r:Value×H}(hr:callM P Ci f vs x=some r):∃C,S C∧callM P C f vs x=some r:=by
  unfold AM.callM at hr⊢;split at hr
  ·split at hr
   ·obtain⟨hb,hr⟩:=aA hr;obtain⟨p,h1,hr⟩:=bind_some hr;obtain⟨q,h2,hr⟩:=bind_some hr;obtain⟨C,hC,e⟩:=d.fin _ _ _ _ hr;exact⟨C,hC,by simp only[*,cond_true,pD]⟩
   ·cases hr
  ·exact d.callV hr
theorem aSz {A B:CF}(h:A.le B){ρ:Operand→Option Value}{x:H}{o:Oper}{r:Option Value×H}(hr:aop P A ρ x o aQ=some r):aop P B ρ x o aQ=some r:=by
  unfold aop at hr⊢
  cases hop:o.op with
  |call c=>
    rw[hop]at hr
    cases hc:c.callee with
    |value f=>
      simp only[hc]at hr⊢;split at hr
      ·rename_i h1 h2;obtain⟨q,hq,hr⟩:=bind_some hr;simp only[h1,h2,aHs h hq,pD];exact hr
      ·cases hr
    |builtin b=>simp only[hc]at hr⊢;exact hr
    |invoke a b=>simp only[hc]at hr⊢;exact hr
  |makeFunc f a b=>rw[hop]at hr;cases f<;>exact hr
  |makeMap t r=>rw[hop]at hr;cases r<;>exact hr
  |_=>rw[hop]at hr;exact hr
theorem Dir.aop (d:Dir S Ci){ρ:Operand→Option Value}{x:H}{o:Oper}{r:Option Value×H}(hr:aop P Ci ρ x o aQ=some r):∃C,S C∧aop P C ρ x o aQ=some r:=by
  obtain⟨C0,h0⟩:=d.ne;unfold AM.aop at hr⊢
  cases hop:o.op with
  |call c=>
    rw[hop]at hr
    cases hc:c.callee with
    |value f=>
      simp only[hc]at hr⊢;split at hr
      ·rename_i h1 h2;obtain⟨q,hq,hr⟩:=bind_some hr;obtain⟨C,hC,e⟩:=d.callM hq;exact⟨C,hC,by simp only[h1,h2,e,pD];exact hr⟩
      ·cases hr
    |builtin b=>simp only[hc]at hr⊢;exact⟨C0,h0,hr⟩
    |invoke a b=>simp only[hc]at hr⊢;exact⟨C0,h0,hr⟩
  |makeFunc f a b=>rw[hop]at hr;refine⟨C0,h0,?_⟩;cases f<;>exact hr
  |makeMap t r=>rw[hop]at hr;refine⟨C0,h0,?_⟩;cases r<;>exact hr
  |_=>rw[hop]at hr;exact⟨C0,h0,hr⟩
theorem Dir.aopT (d:Dir S Ci){β γ:Type}{ρ:Operand→Option Value}{x:H}{o:Oper}{K:Option Value→H→Option β}{r:β}(hr:AM.aop P Ci ρ x o (bE P o K)=some r):
    ∃rv h',K rv h'=some r∧∃C,S C∧∀C',C.le C'→∀K':Option Value→H→Option γ,AM.aop P C' ρ x o (bE P o K')=K' rv h':=by
  rw[cH]at hr;obtain⟨⟨rv,h'⟩,h1,hr⟩:=bind_some hr;obtain⟨C,hC,e⟩:=d.aop h1;have hk:=cJ hr;refine⟨rv,h',hk,C,hC,fun C' hle K'=>?_⟩;rw[cH,aSz hle e,pD];simp only[bE]at hr⊢
  cases hb:iQ P o.type with
  |false=>rfl
  |true=>
    rw[hb]at hr;simp only[cond_true]at hr⊢
    cases rv with
    |none=>rfl
    |some v=>cases v<;>first|rfl|(simp[aC]at hr)
theorem Dir.runOps (d:Dir S Ci){β γ:Type}{ops:Array Oper}{K:T Value→H→Option β}{r:β}:∀(l:List Oper) (fr:T Value) (h:H),AM.runOps P Ci NG ops l fr h K=some r→
    ∃fr' h',K fr' h'=some r∧∃C,S C∧∀C',C.le C'→∀K':T Value→H→Option γ,AM.runOps P C' NG ops l fr h K'=K' fr' h'
  |[],fr,h,hr=>let⟨C,hC⟩:=d.ne;⟨fr,h,hr,C,hC,fun _ _ _=>rfl⟩
  |o::rest,fr,h,hr=>by
    have ih:=fun fr h=>d.runOps (ops:=ops) (K:=K) (r:=r) (γ:=γ) rest fr h;have run:∀fr:T Value,AM.aop P Ci (aG NG fr h) h o (bE P o fun rv h'=>AM.runOps P Ci NG ops rest (bU fr o.dst rv) h' K)=some r→
        ∃fr' h',K fr' h'=some r∧∃C,S C∧∀C',C.le C'→∀K':T Value→H→Option γ,AM.aop P C' (aG NG fr h) h o (bE P o fun rv h'=>AM.runOps P C' NG ops rest (bU fr o.dst rv) h' K')=K' fr' h':=by
      intro fr hr;obtain⟨rv,h1,hk,C1,hC1,e1⟩:=d.aopT (γ:=γ) hr;obtain⟨fr',h',hK,C2,hC2,e2⟩:=ih _ _ hk;obtain⟨C3,hC3,l1,l2⟩:=d.up _ _ hC1 hC2;exact⟨fr',h',hK,C3,hC3,fun C' hle K'=>by rw[e1 C' (l1.trans hle),e2 C' (l2.trans hle)]⟩
    simp only[AM.runOps]at hr⊢;split at hr
    ·exact run fr hr
    ·rename_i j want hg
     skip
     split at hr
     ·cases hr
     ·rename_i t hdj
      skip
      split at hr
      ·rename_i b hb
       skip
       cases b<;>cases want<;>first|exact run _ hr|exact ih _ _ hr
      ·rename_i vs hb;exact ih _ _ hr
      ·cases hr
theorem Dir.runD (d:Dir S Ci){β γ:Type}{ops:Array Oper}{bef:List Nat}{K:T Value→H→Option β}{r:β}:∀(l:List Oper) (i:Nat) (fr:T Value) (h:H) (es:List (Nat×H)) (ls:List (Nat×Oper×T Value×Value)),AM.runD P Ci NG ops bef i l fr h es ls K=some r→
    ∃fr' h',K fr' h'=some r∧∃C,S C∧∀C',C.le C'→∀K':T Value→H→Option γ,AM.runD P C' NG ops bef i l fr h es ls K'=K' fr' h'
  |[],i,fr,h,es,ls,hr=>let⟨C,hC⟩:=d.ne;⟨fr,h,hr,C,hC,fun _ _ _=>rfl⟩
  |o::rest,i,fr,h,es,ls,hr=>by
    have ih:=fun fr h es ls=>d.runD (ops:=ops) (bef:=bef) (K:=K) (r:=r) (γ:=γ) rest (i+1) fr h es ls;have run:∀fr:T Value,(match bC P o with
      |some .effect=>AM.aop P Ci (aG NG fr h) h o<|bE P o fun rv h'=>
          bif ls.all (fun(j,oj,frj,vj)=>Nat.testBit (bef.getD i 0) j||bJ P NG oj frj h' vj)then
            AM.runD P Ci NG ops bef (i+1) rest (bU fr o.dst rv) h' ((i,h)::es) ls K else none
      |some .reads=>AM.aop P Ci (aG NG fr h) h o<|bE P o fun rv h'=>
          (match rv with
           |some v=>bif es.all (fun(p,hp)=>Nat.testBit (bef.getD i 0) p||bJ P NG o fr hp v)then
              AM.runD P Ci NG ops bef (i+1) rest (bU fr o.dst rv) h' es ((i,o,fr,v)::ls) K else none
           |none=>none)
      |some _=>AM.aop P Ci (aG NG fr h) h o<|bE P o fun rv h'=>AM.runD P Ci NG ops bef (i+1) rest (bU fr o.dst rv) h' es ls K
      |none=>none)=some r→
        ∃fr' h',K fr' h'=some r∧∃C,S C∧∀C',C.le C'→∀K':T Value→H→Option γ,(match bC P o with
      |some .effect=>AM.aop P C' (aG NG fr h) h o<|bE P o fun rv h'=>
          bif ls.all (fun(j,oj,frj,vj)=>Nat.testBit (bef.getD i 0) j||bJ P NG oj frj h' vj)then
            AM.runD P C' NG ops bef (i+1) rest (bU fr o.dst rv) h' ((i,h)::es) ls K' else none
      |some .reads=>AM.aop P C' (aG NG fr h) h o<|bE P o fun rv h'=>
          (match rv with
           |some v=>bif es.all (fun(p,hp)=>Nat.testBit (bef.getD i 0) p||bJ P NG o fr hp v)then
              AM.runD P C' NG ops bef (i+1) rest (bU fr o.dst rv) h' es ((i,o,fr,v)::ls) K' else none
           |none=>none)
      |some _=>AM.aop P C' (aG NG fr h) h o<|bE P o fun rv h'=>AM.runD P C' NG ops bef (i+1) rest (bU fr o.dst rv) h' es ls K'
      |none=>none)=K' fr' h':=by
      intro fr hr;split at hr
      ·obtain⟨rv,h1,hk,C1,hC1,e1⟩:=d.aopT (γ:=γ) hr;obtain⟨hb,hk⟩:=aA hk;obtain⟨fr',h',hK,C2,hC2,e2⟩:=ih _ _ _ _ hk;obtain⟨C3,hC3,l1,l2⟩:=d.up _ _ hC1 hC2;exact⟨fr',h',hK,C3,hC3,fun C' hle K'=>by rw[e1 C' (l1.trans hle),hb,cond_true,e2 C' (l2.trans hle)]⟩
      ·obtain⟨rv,h1,hk,C1,hC1,e1⟩:=d.aopT (γ:=γ) hr
       cases rv with
       |none=>cases hk
       |some v=>
         obtain⟨hb,hk⟩:=aA hk;obtain⟨fr',h',hK,C2,hC2,e2⟩:=ih _ _ _ _ hk;obtain⟨C3,hC3,l1,l2⟩:=d.up _ _ hC1 hC2;exact⟨fr',h',hK,C3,hC3,fun C' hle K'=>by rw[e1 C' (l1.trans hle)];dsimp only;rw[hb,cond_true,e2 C' (l2.trans hle)]⟩
      ·obtain⟨rv,h1,hk,C1,hC1,e1⟩:=d.aopT (γ:=γ) hr;obtain⟨fr',h',hK,C2,hC2,e2⟩:=ih _ _ _ _ hk;obtain⟨C3,hC3,l1,l2⟩:=d.up _ _ hC1 hC2;exact⟨fr',h',hK,C3,hC3,fun C' hle K'=>by rw[e1 C' (l1.trans hle),e2 C' (l2.trans hle)]⟩
      ·cases hr
    simp only[AM.runD]at hr⊢;split at hr
    ·exact run fr hr
    ·rename_i j want hg
     skip
     split at hr
     ·cases hr
     ·rename_i t hdj
      skip
      split at hr
      ·rename_i b hb
       skip
       cases b<;>cases want<;>first|exact run _ hr|exact ih _ _ _ _ hr
      ·rename_i vs hb;exact ih _ _ _ _ hr
      ·cases hr
theorem Dir.execK (d:Dir S Ci){β γ:Type}{L nt:Nat}{RR:List Tmp}:∀(c:Code) (out:List Tmp) (env:List (Nat×List Tmp)) (fr:T Value) (h:H) (K:Ex→T Value→H→Option β) (r:β),AM.execK P Ci L NG nt RR c out env fr h K=some r→
    ∃ex fr' h',K ex fr' h'=some r∧∃C,S C∧∀C',C.le C'→∀L',L≤L'→∀K':Ex→T Value→H→Option γ,AM.execK P C' L' NG nt RR c out env fr h K'=K' ex fr' h':=by
  obtain⟨C0,h0⟩:=d.ne;intro c
  induction c with
  |skip=>intro out env fr h K r hr;exact⟨_,_,_,hr,C0,h0,fun _ _ _ _ _=>rfl⟩
  |label l=>intro out env fr h K r hr;exact⟨_,_,_,hr,C0,h0,fun _ _ _ _ _=>rfl⟩
  |exit id=>intro out env fr h K r hr;exact⟨_,_,_,hr,C0,h0,fun _ _ _ _ _=>rfl⟩
  |ret=>intro out env fr h K r hr;exact⟨_,_,_,hr,C0,h0,fun _ _ _ _ _=>rfl⟩
  |region id ops draw=>
    intro out env fr h K r hr;simp only[AM.execK]at hr⊢;obtain⟨hd,hr⟩:=aA hr
    cases draw with
    |false=>
      simp only[cond_false]at hr⊢;obtain⟨fr',h',hK,C,hC,e⟩:=d.runOps (γ:=γ) _ _ _ hr;exact⟨_,_,_,hK,C,hC,fun C' hle _ _ K'=>by rw[hd,cond_true,e C' hle]⟩
    |true=>
      simp only[cond_true]at hr⊢;obtain⟨hdr,hr⟩:=aA hr;obtain⟨fr',h',hK,C,hC,e⟩:=d.runD (γ:=γ) _ _ _ _ _ _ hr;exact⟨_,_,_,hK,C,hC,fun C' hle _ _ K'=>by rw[hd,cond_true,hdr,cond_true,e C' hle]⟩
  |seq a b iha ihb=>
    intro out env fr h K r hr;simp only[AM.execK]at hr⊢;obtain⟨ex,fr1,h1,hk,C1,hC1,e1⟩:=iha _ _ _ _ _ _ hr
    cases ex with
    |normal=>
      obtain⟨ex,fr',h',hK,C2,hC2,e2⟩:=ihb _ _ _ _ _ _ hk;obtain⟨C3,hC3,l1,l2⟩:=d.up _ _ hC1 hC2;exact⟨ex,fr',h',hK,C3,hC3,fun C' hle L' hL K'=>by rw[e1 C' (l1.trans hle) L' hL];exact e2 C' (l2.trans hle) L' hL K'⟩
    |exit j=>exact⟨_,_,_,hk,C1,hC1,fun C' hle L' hL K'=>by rw[e1 C' hle L' hL];rfl⟩
    |ret=>exact⟨_,_,_,hk,C1,hC1,fun C' hle L' hL K'=>by rw[e1 C' hle L' hL];rfl⟩
  |cond x a b iha ihb=>
    intro out env fr h K r hr;simp only[AM.execK]at hr⊢;obtain⟨v,hv,hr⟩:=bind_some hr
    cases v with
    |bool t=>
      cases t with
      |true=>
        obtain⟨ex,fr',h',hK,C,hC,e⟩:=iha _ _ _ _ _ _ hr;exact⟨ex,fr',h',hK,C,hC,fun C' hle L' hL K'=>by rw[hv];exact e C' hle L' hL K'⟩
      |false=>
        obtain⟨ex,fr',h',hK,C,hC,e⟩:=ihb _ _ _ _ _ _ hr;exact⟨ex,fr',h',hK,C,hC,fun C' hle L' hL K'=>by rw[hv];exact e C' hle L' hL K'⟩
    |_=>simp[aW]at hr
  |block id b ih=>
    intro out env fr h K r hr;simp only[AM.execK]at hr⊢;obtain⟨ex,fr1,h1,hk,C1,hC1,e1⟩:=ih _ _ _ _ _ _ hr
    cases ex with
    |normal=>exact⟨_,_,_,hk,C1,hC1,fun C' hle L' hL K'=>by rw[e1 C' hle L' hL];rfl⟩
    |exit j=>
      simp only[iE]at hk
      cases hj:Nat.beq j id with
      |true=>rw[hj]at hk;exact⟨_,_,_,hk,C1,hC1,fun C' hle L' hL K'=>by rw[e1 C' hle L' hL];simp only[iE,hj,cond_true]⟩
      |false=>rw[hj]at hk;exact⟨_,_,_,hk,C1,hC1,fun C' hle L' hL K'=>by rw[e1 C' hle L' hL];simp only[iE,hj,cond_false]⟩
    |ret=>exact⟨_,_,_,hk,C1,hC1,fun C' hle L' hL K'=>by rw[e1 C' hle L' hL];rfl⟩
  |loop b ih=>
    intro out env fr h K r hr;simp only[AM.execK]at hr⊢;have key:∀(n:Nat) (fr:T Value) (h:H),fW (fun fr h K=>AM.execK P Ci L NG nt RR b (live RR b [] env) env fr h K) n fr h K=some r→
        ∃ex fr' h',K ex fr' h'=some r∧∃C,S C∧∀C',C.le C'→∀L',L≤L'→∀m,n≤m→∀K':Ex→T Value→H→Option γ,fW (fun fr h K=>AM.execK P C' L' NG nt RR b (live RR b [] env) env fr h K) m fr h K'=K' ex fr' h':=by
      intro n
      induction n with
      |zero=>intro fr h hr;cases hr
      |succ n ihn=>
        intro fr h hr;simp only[fW]at hr;obtain⟨ex,fr1,h1,hk,C1,hC1,e1⟩:=ih _ _ _ _ _ _ hr;have sc:∀m,n+1≤m→∃k,m=k+1∧n≤k:=fun m hm=>⟨m-1,by omega,by omega⟩
        cases ex with
        |normal=>
          obtain⟨ex,fr',h',hK,C2,hC2,e2⟩:=ihn _ _ hk;obtain⟨C3,hC3,l1,l2⟩:=d.up _ _ hC1 hC2;refine⟨ex,fr',h',hK,C3,hC3,fun C' hle L' hL m hm K'=>?_⟩;obtain⟨k,rfl,hk⟩:=sc m hm;simp only[fW];rw[e1 C' (l1.trans hle) L' hL];exact e2 C' (l2.trans hle) L' hL k hk K'
        |exit j=>
          refine⟨_,_,_,hk,C1,hC1,fun C' hle L' hL m hm K'=>?_⟩;obtain⟨k,rfl,_⟩:=sc m hm;simp only[fW];rw[e1 C' hle L' hL];rfl
        |ret=>
          refine⟨_,_,_,hk,C1,hC1,fun C' hle L' hL m hm K'=>?_⟩;obtain⟨k,rfl,_⟩:=sc m hm;simp only[fW];rw[e1 C' hle L' hL];rfl
    obtain⟨ex,fr',h',hK,C,hC,e⟩:=key L _ _ hr;exact⟨ex,fr',h',hK,C,hC,fun C' hle L' hL K'=>e C' hle L' hL L' hL K'⟩
  |scope b ih=>
    intro out env fr h K r hr;simp only[AM.execK]at hr⊢;exact ih _ _ _ _ _ _ hr
  |rangeFunc gv ps as bd _ _=>
    intro out env fr h K r hr;simp only[AM.execK]at hr⊢;obtain⟨v,hv,hr⟩:=bind_some hr;obtain⟨hf,hr⟩:=aA hr;obtain⟨⟨u,h2⟩,hc,hr⟩:=bind_some hr;obtain⟨C,hC,e⟩:=d.callV hc;have hx:∀(l:List (Nat×List Tmp)) (id:Nat) (h3:H),exL (l.map fun p=>(p.1,fun h=>K (.exit p.1) (bQ fr p.2) h)) id h3=some r→∃s,K (.exit id) (bQ fr s) h3=some r∧∀K':Ex→T Value→H→Option γ,exL (l.map fun p=>(p.1,fun h=>K' (.exit p.1) (bQ fr p.2) h)) id h3=K' (.exit id) (bQ fr s) h3:=by
      intro l
      induction l with
      |nil=>intro id h3 hr;cases hr
      |cons p l ihl=>
        intro id h3 hr;simp only[List.map_cons,exL]at hr⊢
        cases hb:Nat.beq p.1 id with
        |true=>
          rw[hb]at hr;have:=beq_iff.1 hb;subst this;exact⟨_,hr,fun K'=>rfl⟩
        |false=>rw[hb]at hr;obtain⟨s,h1,h2⟩:=ihl id h3 hr;exact⟨s,h1,fun K'=>by rw[←h2 K'];rfl⟩
    have he:∀C',C.le C'→AM.callV C' v [.func (.yield h.next) #[] #[]] (h.push (.loop nt fr ps.toList as bd .ready))=some (u,h2):=fun C' hle=>aAl hle e;simp only[iU]at hr;split at hr
    ·rename_i hg;split at hr
     ·exact⟨_,_,_,hr,C,hC,fun C' hle _ _ K'=>by rw[hv,pD,hf,cond_true,he C' hle,pD];simp only[iU,hg]⟩
     ·exact⟨_,_,_,hr,C,hC,fun C' hle _ _ K'=>by rw[hv,pD,hf,cond_true,he C' hle,pD];simp only[iU,hg]⟩
     ·obtain⟨s,h1,h2'⟩:=hx env _ _ hr;exact⟨_,_,_,h1,C,hC,fun C' hle _ _ K'=>by rw[hv,pD,hf,cond_true,he C' hle,pD];simp only[iU,hg,h2' K']⟩
     ·cases hr
    ·cases hr
  |_=>intro out env fr h K r hr;simp[AM.execK]at hr
theorem tL {A B:CF}(hle:A.le B){L L':Nat}(hL:L≤L'){id:Nat}{args:List Value}{h:H}{r:Value×H}(hr:roundK P A L NG id args h (fun v h=>some (v,h))=some r):roundK P B L' NG id args h (fun v h=>some (v,h))=some r:=by
  unfold roundK at hr⊢;split at hr
  ·obtain⟨hc,hr⟩:=aA hr;obtain⟨ex,fr2,h2,hk,C,rfl,e⟩:=(Dir.one A).execK (γ:=Value×H) _ _ _ _ _ _ _ hr;rw[hc,cond_true,e B hle L' hL]
   cases ex with
   |normal=>
     dsimp only at hk⊢
     split at hk
     ·obtain⟨ex,fr3,h3,hk2,C2,hC2,e2⟩:=(Dir.one C).execK (γ:=Value×H) _ _ _ _ _ _ _ hk;subst hC2;rw[e2 B hle L' hL];exact hk2
     ·cases hk
   |_=>cases hk
  ·cases hr
theorem Dir.roundK (d:Dir S Ci){L:Nat}{id:Nat}{args:List Value}{h:H}{r:Value×H}(hr:AM.roundK P Ci L NG id args h (fun v h=>some (v,h))=some r):∃C,S C∧AM.roundK P C L NG id args h (fun v h=>some (v,h))=some r:=by
  unfold AM.roundK at hr⊢;split at hr
  ·obtain⟨hc,hr⟩:=aA hr;obtain⟨ex,fr2,h2,hk,C1,hC1,e1⟩:=d.execK (γ:=Value×H) _ _ _ _ _ _ _ hr
   cases ex with
   |normal=>
     dsimp only at hk
     split at hk
     ·rename_i hg;obtain⟨ex,fr3,h3,hk,C2,hC2,e2⟩:=d.execK (γ:=Value×H) _ _ _ _ _ _ _ hk;obtain⟨C3,hC3,l1,l2⟩:=d.up _ _ hC1 hC2;refine⟨C3,hC3,?_⟩;rw[hc,cond_true,e1 C3 l1 L (kF _)]
      dsimp only
      rw[hg]
      dsimp only
      rw[e2 C3 l2 L (kF _)];exact hk
     ·cases hk
   |_=>cases hk
  ·cases hr
end
def fA (P:Program)(NG:Nat)(D:CF):Nat→CF
  |0=>fun _ _ _=>none
  |n+1=>fun f args h=>
    match D f args h with
    |some r=>some r
    |none=>
      match P.funcs[f]? with
      |none=>bif Nat.beq f 1099511627776 then aLp args fun id vs=>roundK P (fA P NG D n) n NG id vs h fun v h=>some (v,h)else none
      |some fn=>match fn.body with
        |none=>lN (oS fn) args h
        |some c=>dG P (fA P NG D n) n NG fn c args h fun v h=>some (v,h)
section
variable {P:Program}{NG:Nat}
theorem xG (hzp:aK P=true)(hm:P.follows .mixedOrders=true)(hn:eJ P=true){D:CF}(hD:aM P NG D):∀(n:Nat),aM P NG (fA P NG D n):=by
  intro n
  induction n with
  |zero=>intro f args h v h' hr;simp[fA]at hr
  |succ n ih=>
    intro f args h v h' hr;simp only[fA]at hr
    cases hq:D f args h with
    |some u=>
      rw[hq]at hr;simp only[kE]at hr;subst hr;exact hD _ _ _ _ _ hq
    |none=>
    rw[hq]at hr;simp only[]at hr;split at hr
    ·obtain⟨hf0,hr⟩:=aA hr;have hf0:=beq_iff.1 hf0;obtain⟨id0,us,k0,rfl,hr2⟩:=nN hr;replace hr:=hr2;clear hr2;unfold roundK at hr;split at hr
     ·rename_i nt fr ps assign body hb;obtain⟨hc,hr⟩:=aA hr;simp only[kO,List.all_eq_true]at hc;obtain⟨⟨⟨h1,h2⟩,h3⟩,h4⟩:=hc;obtain⟨ex1,fr2,h2',hk,c1⟩:=dX hzp hm ih (nt:=nt) assign _ _ _ _ _ _ hr
      cases ex1 with
      |normal=>
        simp only[]at hk;split at hk
        ·rename_i nt2 f2 p2 a2 b2 hb2;obtain⟨ex,fr4,h4',hk2,c2⟩:=dX hzp hm ih (nt:=nt) body _ _ _ _ _ _ hk;change (match h4'.get id0 with|some (.loop nt4 f4 p4 a4 b4 _)=>some (Value.bool (oX ex).1,h4'.put id0 (.loop nt4 f4 p4 a4 b4 (oX ex).2))|_=>none)=some (v,h')at hk2
         split at hk2
         ·rename_i nt4 f4 p4 a4 b4 st4 hb4;simp only[kE,kK]at hk2;obtain⟨rfl,rfl⟩:=hk2;obtain⟨hle,hro⟩:=oJ hb (beq_iff.1 h1) (fun t ht=>blt_iff.1 (h2 t ht)) h3 h4 c1 hb2 c2 hb4;refine⟨hle,fun hlt=>absurd hlt (pL hf0),fun id us' _ e=>?_⟩;simp only[List.cons.injEq,Value.int.injEq,Int.ofNat.injEq]at e;obtain⟨⟨_,rfl⟩,rfl⟩:=e;exact hro
         ·simp at hk2
        ·simp at hk
      |exit j=>simp at hk
      |ret=>simp at hk
     ·simp at hr
    ·rename_i fn hfn;split at hr
     ·rename_i hb;exact tS hn hfn hb hr
     ·rename_i c hc;unfold dG at hr;obtain⟨hlen,hr⟩:=aA hr;have hlen:=ble_iff.1 hlen;obtain⟨ex,fr,h1,hk,hcs⟩:=dX hzp hm ih (nt:=fn.ntmps) c _ _ _ _ _ _ hr
      cases ex with
      |exit j=>simp[qC]at hk
      |normal=>
        simp only[qC]at hk;obtain⟨vs,hres,hk⟩:=bind_some hk;simp only[kE,kK]at hk;obtain⟨rfl,rfl⟩:=hk;exact iN hn hfn hc hlen hcs (.inl rfl) hres
      |ret=>
        simp only[qC]at hk;obtain⟨vs,hres,hk⟩:=bind_some hk;simp only[kE,kK]at hk;obtain⟨rfl,rfl⟩:=hk;exact iN hn hfn hc hlen hcs (.inr rfl) hres
end
section
variable {P:Program}{NG:Nat}{D:CF}
theorem uZ {A B:CF}(hle:A.le B){L L':Nat}(hL:L≤L'){fn:Func}{c:Code}{args:List Value}{h:H}{r:Value×H}(hr:dG P A L NG fn c args h (fun v h=>some (v,h))=some r):dG P B L' NG fn c args h (fun v h=>some (v,h))=some r:=by
  unfold dG at hr⊢;obtain⟨hc,hr⟩:=aA hr;obtain⟨ex,fr2,h2,hk,C,rfl,e⟩:=(Dir.one A).execK (γ:=Value×H) _ _ _ _ _ _ _ hr;rw[hc,cond_true,e B hle L' hL];exact hk
theorem rO:∀n,(fA P NG D n).le (fA P NG D (n+1))
  |0=>fun f args h r hr=>by cases hr
  |n+1=>fun f args h r hr=>by
    have ih:=rO n;rw[fA]at hr⊢
    dsimp only at hr⊢
    split at hr
    ·exact hr
    ·split at hr
     ·obtain⟨hf,hr⟩:=aA hr;rw[hf,cond_true];obtain⟨id,us,k,rfl,hr⟩:=nN hr;show aLp (.int k (.ofNat id)::us) _=_;exact tL ih (pS n) hr
     ·split at hr
      ·exact hr
      ·exact uZ ih (pS n) hr
theorem gV {n m:Nat}(h:n≤m):(fA P NG D n).le (fA P NG D m):=by
  induction h with
  |refl=>exact CF.le_refl _
  |step _ ih=>exact ih.trans (rO _)
open Classical in
noncomputable def aH (P:Program)(NG:Nat)(D:CF):CF:=fun f args h=>if e:∃r,∃n,fA P NG D n f args h=some r then some e.choose else none
theorem mZ {n:Nat}{f:FuncId}{args:List Value}{h:H}{r:Value×H}(hr:fA P NG D n f args h=some r):aH P NG D f args h=some r:=by
  unfold aH;have e:∃r,∃n,fA P NG D n f args h=some r:=⟨r,n,hr⟩;rw[dif_pos e];obtain⟨m,hm⟩:=e.choose_spec;have h1:=gV (P:=P) (NG:=NG) (D:=D) (Nat.le_max_left n m) f args h r hr;have h2:=gV (P:=P) (NG:=NG) (D:=D) (Nat.le_max_right n m) f args h _ hm;rw[h2]at h1;exact h1
theorem aAm {f:FuncId}{args:List Value}{h:H}{r:Value×H}(hr:aH P NG D f args h=some r):∃n,fA P NG D n f args h=some r:=by
  unfold aH at hr;split at hr
  ·rename_i e;simp only[kE]at hr;subst hr;exact e.choose_spec
  ·cases hr
theorem callI_dir:Dir (fun A=>∃n,A=fA P NG D n) (aH P NG D):=
  ⟨⟨_,0,rfl⟩,fun _ _ ⟨n,a⟩ ⟨m,b⟩=>⟨_,⟨max n m,rfl⟩,a▸gV (Nat.le_max_left _ _),b▸gV (Nat.le_max_right _ _)⟩,fun _ _ _ _ hr=>let⟨n,hn⟩:=aAm hr;⟨_,⟨n,rfl⟩,hn⟩⟩
theorem aAn (hzp:aK P=true)(hm:P.follows .mixedOrders=true)(hn:eJ P=true)(hD:aM P NG D):aM P NG (aH P NG D):=fun f args h v h' hr=>
  let⟨n,e⟩:=aAm hr
  xG hzp hm hn hD n f args h v h' e
theorem eK {f:FuncId}{args:List Value}{h:H}{v:Value×H}(hD:D f args h=some v):aH P NG D f args h=some v:=mZ (n:=1) (by simp only[fA,hD])
theorem aAo {f nt:Nat}{RR:List Tmp}{fn:Func}{c:Code}{args:List Value}{L:Nat}{h:H}{r:Value×H}(hD:D f args h=none)(hf:P.funcs[f]?=some fn)(hb:fn.body=some c)(hnt:fn.ntmps=nt)(hrr:eY fn=RR)(hl:Nat.ble args.length nt=true){fr:T Value}
    (ha:gO 0 args=fr) (hr:execK P (aH P NG D) L NG nt RR c RR [] fr h (qC P fn fun v h=>some (v,h))=some r):aH P NG D f args h=some r:=by
  subst hnt;subst hrr;subst ha;obtain⟨ex,fr',h',hk,C,⟨n,rfl⟩,e⟩:=callI_dir.execK (γ:=Value×H) _ _ _ _ _ _ _ hr;refine mZ (n:=max n L+1) ?_;simp only[fA,hD,hf,hb,dG,hl,cond_true];rw[e _ (gV (Nat.le_max_left _ _)) _ (Nat.le_max_right _ _)];exact hk
theorem xH {L id:Nat}{vs:List Value}{h:H}{r:Value×H}(hD:D Y0 (.int .i64 (.ofNat id)::vs) h=none)(hf:P.funcs[Y0]?=none)(hr:roundK P (aH P NG D) L NG id vs h (fun v h=>some (v,h))=some r):aH P NG D Y0 (.int .i64 (.ofNat id)::vs) h=some r:=by
  obtain⟨C,⟨n,rfl⟩,e⟩:=callI_dir.roundK hr;refine mZ (n:=max n L+1) ?_;simp only[fA,hD,hf];exact tL (gV (Nat.le_max_left _ _)) (Nat.le_max_right _ _) e
theorem aEh {f:FuncId}{fn:Func}{args:List Value}{h:H}(hD:D f args h=none)(hf:P.funcs[f]?=some fn)(hb:fn.body=none){r:Value×H}(hr:lN (oS fn) args h=some r):aH P NG D f args h=some r:=
  mZ (n:=1) (by simp only[fA,hD,hf,hb];exact hr)
end
end Go.AM

namespace Go.AM
open Go Go.RowKit
def sI (isR:FuncId→Bool)(o:Oper):Bool:=match aZ isR o with|some false=>true|_=>false
def bGi (isR:FuncId→Bool)(o:Oper):Bool:=match aZ isR o with|some true=>true|_=>false
def vP (isR:FuncId→Bool):List Oper→Bool
 |[]=>false
 |o::r=>(bGi isR o&&r.all (sI isR))||(sI isR o&&vP isR r)
def yZ (P:Program)(ops:Array Oper)(draw:Bool):Option (Option Tmp×Operand×List Oper):=
 bif draw then none else
 match ops.toList with
 |⟨dst,.next x false,ty,_,_,none⟩::rest=>bif iQ P ty then none else some (dst,x,rest)
 |_=>none
def vQ (ops:Array Oper):Bool:=match ops.toList with
 |⟨_,.next _ false,_,_,_,none⟩::_=>false
 |_=>true
noncomputable def mJ (isR:FuncId→Bool)(dom:FuncId→List Value→H→Prop)(R:FuncId→List Value→H→Value→H→Prop)(C:CF)(f:CF→Option Unit):Option Unit:=okU (∀φ,Val isR dom R φ→f (gY C isR φ)=some ())
noncomputable def rgP (P:Program)(C:CF)(NG nt:Nat)(isR:FuncId→Bool)(dom:FuncId→List Value→H→Prop)(R:FuncId→List Value→H→Value→H→Prop)(ops:Array Oper)(draw:Bool)(fr:T Value)(h:H)(K:T Value→H→Option Unit):Option Unit:=
 bif dJ nt ops then
  match yZ P ops draw with
  |some (dst,x,rest)=>(aG NG fr h x).bind fun v=>aAz (A.b v h) fun u h=>runOps P C NG ops rest (bU fr dst (some u)) h K
  |none=>
   bif ops.toList.all (sI isR)then
    bif draw then(bif fQ P ops (before ops)then runD P C NG ops (before ops) 0 ops.toList fr h [] [] K else none)
    else(bif vQ ops then runOps P C NG ops ops.toList fr h K else none)
   else
    bif draw then(bif fQ P ops (before ops)&&(List.range ops.size).any (sU isR ops (before ops))then mJ isR dom R C fun C=>runD P C NG ops (before ops) 0 ops.toList fr h [] [] K else none)
    else(bif vP isR ops.toList&&vQ ops then mJ isR dom R C fun C=>runOps P C NG ops ops.toList fr h K else none)
 else none
section
variable {P:Program}{NG nt:Nat}{C:CF}{isR:FuncId→Bool}{dom:FuncId→List Value→H→Prop}{R:FuncId→List Value→H→Value→H→Prop}{φ:FuncId→List Value→H→Option (Value×H)}
theorem aBp {ops:Array Oper}(h0:vQ ops=true){fr:T Value}{h:H}:gN P C NG nt ops false fr h=none:=by
 unfold gN
 cases dJ nt ops with
 |false=>rfl
 |true=>
  simp only[sC,Bool.and_self,cond_true];unfold vQ at h0;split at h0
  ·cases h0
  ·rename_i hne;split
   ·rename_i e;exact absurd e (hne _ _ _ _ _ _)
   ·rfl
theorem statB_iff {o:Oper}:sI isR o=true↔aZ isR o=some false:=by
 unfold sI;split
 ·rename_i e;simp[e]
 ·rename_i e;simp only[pB,false_iff];exact e
theorem jB {β:Type}{ops:Array Oper}{K:T Value→H→Option β}:∀(l:List Oper) (fr:T Value) (h:H),l.all (sI isR)=true→runOps P (gY C isR φ) NG ops l fr h K=runOps P C NG ops l fr h K
 |[],fr,h,_=>rfl
 |o::rest,fr,h,hs=>by
  simp only[List.all_cons,kO]at hs;have ih:=fun fr h=>jB (ops:=ops) (K:=K) rest fr h hs.2;simp only[runOps,ih,nA (statB_iff.1 hs.1)]
theorem iA {ops:Array Oper}{K:T Value→H→Option Unit}:∀(l:List Oper) (fr:T Value) (h:H),l.all (sI isR)=true→runOps P C NG ops l fr h K=some ()→aX P C NG isR dom R ops l fr h (fun fr h=>K fr h=some ())
 |[],fr,h,_,hr=>hr
 |o::rest,fr,h,hs,hr=>by
  simp only[List.all_cons,kO]at hs;have ih:=fun fr h=>iA (ops:=ops) (K:=K) rest fr h hs.2;have hst:=statB_iff.1 hs.1;have run:∀fr:T Value,aop P C (aG NG fr h) h o (bE P o fun rv h'=>runOps P C NG ops rest (bU fr o.dst rv) h' K)=some ()→
   (match aZ isR o,o.op with
    |some true,.call ⟨.value (.func g),args,_⟩=>∃vs,cQ (aG NG fr h) args.toList=some vs∧dom g vs h∧∀v h',R g vs h v h'→aX P C NG isR dom R ops rest (bU fr o.dst (some v)) h' (fun fr h=>K fr h=some ())
    |_,_=>∃rv h',aop P C (aG NG fr h) h o aQ=some (rv,h')∧aX P C NG isR dom R ops rest (bU fr o.dst rv) h' (fun fr h=>K fr h=some ())):=by
   intro fr hr;rw[cH]at hr;obtain⟨⟨rv,h'⟩,h1,h2⟩:=bind_some hr;have h2:=ih _ _ (cJ h2);rw[hst];exact⟨rv,h',h1,h2⟩
  simp only[runOps]at hr;simp only[aX]
  cases hg0:o.guard with
  |none=>simp only[hg0]at hr;exact run fr hr
  |some jw=>
   obtain⟨j,want⟩:=jw;simp only[hg0]at hr⊢
   cases hd:(ops[j]?).bind (·.dst)with
   |none=>simp only[hd]at hr;cases hr
   |some d=>
    simp only[hd]at hr⊢
    cases hv:fr.get d with
    |none=>simp only[hv]at hr;cases hr
    |some v=>
     simp only[hv]at hr⊢
     cases v with
     |bool b=>cases b<;>cases want<;>first|exact run _ hr|exact ih _ _ hr
     |tuple vs=>exact ih _ _ hr
     |_=>cases hr
theorem Val.ex (ok:RelOK P NG isR dom R):∃φ,Val isR dom R φ:=by
 classical
 refine⟨fun g vs x=>if e:isR g=true∧dom g vs x then some ((ok.tot g vs x e.1 e.2).choose,(ok.tot g vs x e.1 e.2).choose_spec.choose)else none,fun g vs x hg=>⟨fun hd=>?_,fun v h' e=>?_⟩⟩
 ·exact⟨_,_,dif_pos ⟨hg,hd⟩,(ok.tot g vs x hg hd).choose_spec.choose_spec⟩
 ·dsimp only at e
  by_cases hd:dom g vs x
  ·rw[dif_pos ⟨hg,hd⟩]at e;simp only[kE,kK]at e;obtain⟨rfl,rfl⟩:=e;exact⟨hd,(ok.tot g vs x hg hd).choose_spec.choose_spec⟩
  ·rw[dif_neg (fun e=>hd e.2)]at e;simp at e
theorem oI (ok:RelOK P NG isR dom R){ops:Array Oper}{K:T Value→H→Option Unit}:∀(l:List Oper) (fr:T Value) (h:H),vP isR l=true→(∀φ,Val isR dom R φ→runOps P (gY C isR φ) NG ops l fr h K=some ())→aX P C NG isR dom R ops l fr h (fun fr h=>K fr h=some ())
 |[],fr,h,hs,_=>by cases hs
 |o::rest,fr,h,hs,hr=>by
  obtain⟨φ0,hφ0⟩:=Val.ex ok;simp only[vP,Bool.or_eq_true,kO]at hs;rcases hs with⟨h1,h2⟩|⟨h1,h2⟩
  ·-- that call
   have hrel:aZ isR o=some true:=by
    unfold bGi at h1;split at h1
    ·assumption
    ·cases h1
   obtain⟨c,g,hop,hcl,hg⟩:=dA hrel;obtain⟨callee,args,tys⟩:=c;simp only at hcl;subst hcl;have hY:=(ok.body g hg).1;have run:∀fr:T Value,(∀φ,Val isR dom R φ→aop P (gY C isR φ) (aG NG fr h) h o (bE P o fun rv h'=>runOps P (gY C isR φ) NG ops rest (bU fr o.dst rv) h' K)=some ())→
    (match aZ isR o,o.op with
    |some true,.call ⟨.value (.func g),args,_⟩=>∃vs,cQ (aG NG fr h) args.toList=some vs∧dom g vs h∧∀v h',R g vs h v h'→aX P C NG isR dom R ops rest (bU fr o.dst (some v)) h' (fun fr h=>K fr h=some ())
    |_,_=>∃rv h',aop P C (aG NG fr h) h o aQ=some (rv,h')∧aX P C NG isR dom R ops rest (bU fr o.dst rv) h' (fun fr h=>K fr h=some ())):=by
    intro fr hr;rw[hrel,hop]
    dsimp only
    have h0:=hr φ0 hφ0;rw[cH,lO (c:=⟨.value (.func g),args,tys⟩) hop rfl hg hY]at h0;obtain⟨_,h0,_⟩:=bind_some h0;obtain⟨vs,hvs,h0⟩:=bind_some h0;obtain⟨⟨v0,h0'⟩,hv0,_⟩:=bind_some h0;have hd:=((hφ0 g vs h hg).2 v0 h0' hv0).1;refine⟨vs,hvs,hd,fun v h' hR=>?_⟩;obtain⟨φ1,hφ1,e1,_⟩:=xW hφ0 hd hR;have h3:=hr φ1 hφ1;rw[cH,lO (c:=⟨.value (.func g),args,tys⟩) hop rfl hg hY,hvs]at h3;simp only[pD,e1]at h3;have h4:=cJ h3;rw[jB _ _ _ h2]at h4;exact iA _ _ _ h2 h4
   have hr0:=hr φ0 hφ0;simp only[runOps]at hr hr0;simp only[aX]
   cases hg0:o.guard with
   |none=>simp only[hg0]at hr;exact run fr hr
   |some jw=>
    obtain⟨j,want⟩:=jw;simp only[hg0]at hr hr0⊢
    cases hd:(ops[j]?).bind (·.dst)with
    |none=>simp only[hd]at hr0;cases hr0
    |some d=>
     simp only[hd]at hr hr0⊢
     cases hv:fr.get d with
     |none=>simp only[hv]at hr0;cases hr0
     |some v=>
      have pass:∀fr:T Value,(∀φ,Val isR dom R φ→runOps P (gY C isR φ) NG ops rest fr h K=some ())→aX P C NG isR dom R ops rest fr h (fun fr h=>K fr h=some ()):=fun fr hp=>by
       have:=hp φ0 hφ0;rw[jB _ _ _ h2]at this;exact iA _ _ _ h2 this
      simp only[hv]at hr hr0⊢
      cases v with
      |bool b=>cases b<;>cases want<;>first|exact run _ hr|exact pass _ hr
      |tuple vs=>exact pass _ hr
      |_=>cases hr0
  ·have ih:=fun fr h=>oI ok (ops:=ops) (K:=K) rest fr h h2;have hst:=statB_iff.1 h1;have run:∀fr:T Value,(∀φ,Val isR dom R φ→aop P (gY C isR φ) (aG NG fr h) h o (bE P o fun rv h'=>runOps P (gY C isR φ) NG ops rest (bU fr o.dst rv) h' K)=some ())→
    (match aZ isR o,o.op with
    |some true,.call ⟨.value (.func g),args,_⟩=>∃vs,cQ (aG NG fr h) args.toList=some vs∧dom g vs h∧∀v h',R g vs h v h'→aX P C NG isR dom R ops rest (bU fr o.dst (some v)) h' (fun fr h=>K fr h=some ())
    |_,_=>∃rv h',aop P C (aG NG fr h) h o aQ=some (rv,h')∧aX P C NG isR dom R ops rest (bU fr o.dst rv) h' (fun fr h=>K fr h=some ())):=by
    intro fr hr;rw[hst];have h0:=hr φ0 hφ0;rw[nA hst,cH]at h0;obtain⟨⟨rv,h'⟩,e1,_⟩:=bind_some h0;refine⟨rv,h',e1,ih _ _ fun φ hφ=>?_⟩;have h3:=hr φ hφ;rw[nA hst,cH,e1,pD]at h3;exact cJ h3
   have hr0:=hr φ0 hφ0;simp only[runOps]at hr hr0;simp only[aX]
   cases hg0:o.guard with
   |none=>simp only[hg0]at hr;exact run fr hr
   |some jw=>
    obtain⟨j,want⟩:=jw;simp only[hg0]at hr hr0⊢
    cases hd:(ops[j]?).bind (·.dst)with
    |none=>simp only[hd]at hr0;cases hr0
    |some d=>
     simp only[hd]at hr hr0⊢
     cases hv:fr.get d with
     |none=>simp only[hv]at hr0;cases hr0
     |some v=>
      simp only[hv]at hr hr0⊢
      cases v with
      |bool b=>cases b<;>cases want<;>first|exact run _ hr|exact ih _ _ hr
      |tuple vs=>exact ih _ _ hr
      |_=>cases hr0
theorem aXu (ok:RelOK P NG isR dom R){ops:Array Oper}{draw:Bool}{fr:T Value}{h:H}{K:T Value→H→Option Unit}(hr:rgP P C NG nt isR dom R ops draw fr h K=some ()):rgW P C NG nt isR dom R ops draw fr h K=some ():=by
 unfold rgP at hr;obtain⟨hd,hr⟩:=aA hr;split at hr
 ·rename_i dst x rest hn;unfold yZ at hn
  cases draw with
  |true=>cases hn
  |false=>
   simp only[cond_false]at hn;split at hn
   ·rename_i dst0 x0 ty pos after rest0 hops
    cases hb:iQ P ty with
    |true=>rw[hb]at hn;cases hn
    |false=>
     rw[hb]at hn;simp only[cond_false,kE,kK]at hn;obtain⟨rfl,rfl,rfl⟩:=hn;obtain⟨v,hv,hr⟩:=bind_some hr;exact aGx hops hd hb hv hr
   ·cases hn
 ·cases hs:ops.toList.all (sI isR)with
  |true=>
   rw[hs,cond_true]at hr
   cases draw with
   |true=>
    rw[cond_true]at hr;obtain⟨hdr,hr⟩:=aA hr;exact aGy hd hdr hr
   |false=>
    rw[cond_false]at hr;obtain⟨h0,hr⟩:=aA hr;exact aKp hd (aBp h0) hr
  |false=>
   rw[hs,cond_false]at hr
   cases draw with
   |true=>
    rw[cond_true]at hr;obtain⟨hdr,hr⟩:=aA hr;rw[kO,List.any_eq_true]at hdr;obtain⟨hdr,q,_,hq⟩:=hdr;exact aKo hd hdr hq (okU_iff.1 hr)
   |false=>
    rw[cond_false]at hr;obtain⟨h0,hr⟩:=aA hr;rw[kO]at h0;exact rgW_iff.2 (.inr (.inl ⟨rfl,hd,oI ok _ _ _ h0.1 (okU_iff.1 hr)⟩))
theorem aHm (ok:RelOK P NG isR dom R){L:Nat}{RR:List Tmp}:∀(c:Code) (out:List Tmp) (env:List (Nat×List Tmp)) (fr:T Value) (h:H) (K:Ex→T Value→H→Option Unit) (K':KW),(∀ex fr h,K ex fr h=some ()→K' ex fr h)→
 aU (rgP P C NG nt isR dom R) L NG RR c out env fr h K=some ()→mM P C isR dom R L NG nt RR c out env fr h K':=by
 intro c
 induction c with
 |skip=>intro out env fr h K K' hK hr;exact hK _ _ _ hr
 |label l=>intro out env fr h K K' hK hr;exact hK _ _ _ hr
 |exit id=>intro out env fr h K K' hK hr;exact hK _ _ _ hr
 |ret=>intro out env fr h K K' hK hr;exact hK _ _ _ hr
 |region id ops draw=>intro out env fr h K K' hK hr;exact aBe (fun fr h hk=>hK _ _ _ hk) (rgW_iff.1 (aXu ok hr))
 |seq a b iha ihb=>
  intro out env fr h K K' hK hr;refine iha _ _ _ _ _ _ (fun ex fr' h' hk=>?_) hr
  cases ex with
  |normal=>exact ihb _ _ _ _ _ _ hK hk
  |exit j=>exact hK _ _ _ hk
  |ret=>exact hK _ _ _ hk
 |cond c a b iha ihb=>
  intro out env fr h K K' hK hr;simp only[aU]at hr;obtain⟨v,hv,hr⟩:=bind_some hr
  cases v with
  |bool t=>
   refine⟨t,hv,?_⟩
   cases t with
   |true=>exact iha _ _ _ _ _ _ hK hr
   |false=>exact ihb _ _ _ _ _ _ hK hr
  |_=>simp[aW]at hr
 |block id b ih=>
  intro out env fr h K K' hK hr;refine ih _ _ _ _ _ _ (fun ex fr' h' hk=>?_) hr
  cases ex with
  |normal=>exact hK _ _ _ hk
  |exit j=>
   simp only[iE,vX]at hk⊢
   cases hj:Nat.beq j id with
   |true=>rw[hj]at hk;exact hK _ _ _ hk
   |false=>rw[hj]at hk;exact hK _ _ _ hk
  |ret=>exact hK _ _ _ hk
 |loop b ih=>
  intro out env fr h K K' hK hr;exact aDi (fun fr h K K' hK hr=>ih _ _ fr h K K' hK hr) L _ h K K' hK hr
 |scope b ih=>intro out env fr h K K' hK hr;exact ih _ _ _ _ _ _ hK hr
 |_=>intro out env fr h K K' hK hr;simp[aU]at hr
theorem aLi (ok:RelOK P NG isR dom R){L nt:Nat}{f:FuncId}{fn:Func}{c:Code}{S:List Tmp}{args:List Value}{fr:T Value}{h:H}{X:Value→H→Prop}(hfn:P.funcs[f]?=some fn)(hb:(fn.body,fn.ntmps,eY fn,Nat.ble args.length nt,gO 0 args)=(some c,nt,S,true,fr))
 (hr:aU (rgP P C NG nt isR dom R) L NG S c S [] fr h (qC P fn fun v h=>okU (X v h))=some ()):dC P C isR dom R L NG f args h X:=by
 obtain⟨h1,hS⟩:=Prod.mk.inj hb;obtain⟨hnt,hS⟩:=Prod.mk.inj hS;obtain⟨hrr,hS⟩:=Prod.mk.inj hS;obtain⟨hl,ha⟩:=Prod.mk.inj hS;clear hb;subst hnt;subst hrr;subst ha;refine⟨fn,c,hfn,h1,ble_iff.1 hl,aHm ok c _ _ _ _ _ _ (fun ex fr h' hk=>?_) hr⟩
 cases ex with
 |exit j=>simp[qC]at hk
 |normal=>
  simp only[qC]at hk;obtain⟨vs,h1,h2⟩:=bind_some hk;exact⟨.inl rfl,vs,h1,okU_iff.1 h2⟩
 |ret=>
  simp only[qC]at hk;obtain⟨vs,h1,h2⟩:=bind_some hk;exact⟨.inr rfl,vs,h1,okU_iff.1 h2⟩
end
end Go.AM

namespace Go.AM
open Go Go.RowKit
def orD (A B:CF):CF:=fun f args h=>match A f args h with|some r=>some r|none=>B f args h
theorem aCw {P:Program}{NG:Nat}{A B:CF}(hA:aM P NG A)(hB:aM P NG B):aM P NG (orD A B):=by
 intro f args h v h' hr;unfold orD at hr;split at hr
 ·rename_i r e;simp only[kE]at hr;subst hr;exact hA _ _ _ _ _ e
 ·exact hB _ _ _ _ _ hr
def aCf (F:FuncId→Bool)(A:CF):CF:=fun f args h=>bif F f then A f args h else none
theorem aHe {P:Program}{NG:Nat}{F:FuncId→Bool}{A:CF}(hA:aM P NG A):aM P NG (aCf F A):=by
 intro f args h v h' hr;unfold aCf at hr;exact hA _ _ _ _ _ (aA hr).2
structure aBa (NG:Nat)(T0:H):Prop where
 next:T0.next=NG
 blk:∀id b,T0.get id=some b→id<NG∧∃cs,b=.cells cs none∧bS cs=true
def HasT (T0 h:H):Prop:=∀id b,T0.get id=some b→h.get id=some b
theorem HasT.ext {T0 h h':H}{NG:Nat}(t:aBa NG T0)(x:HasT T0 h)(hn:NG≤h.next)(e:Ext h h'):HasT T0 h':=fun id b hb=>by
 rw[e.get id (kH (t.blk id b hb).1 hn)];exact x id b hb
open Classical in
noncomputable def lL (F:FuncId→Bool)(C:CF)(T0:H):CF:=fun f args h=>
 if F f=true∧cS args=true∧HasT T0 h then(match C f args T0 with|some (v,_)=>bif aJ v then some (v,h)else none|none=>none)else none
theorem yX {F:FuncId→Bool}{C:CF}{T0 h h1:H}{f:FuncId}{args:List Value}{v:Value}(hF:F f=true)(ha:cS args=true)(ht:HasT T0 h)(hv:aJ v=true)(hc:C f args T0=some (v,h1)):lL F C T0 f args h=some (v,h):=by
 unfold lL;rw[kB ⟨hF,ha,ht⟩,hc];simp only[hv,cond_true]
theorem yW {P:Program}{NG:Nat}{F:FuncId→Bool}{C:CF}{T0:H}(hC:aM P NG C)(hF:∀f,F f=true→f<Y0∧∀fn,P.funcs[f]?=some fn→fn.body.isSome=true)(ht:aBa NG T0):aM P NG (lL F C T0):=by
 intro f args h v h' hr;unfold lL at hr;split at hr
 ·rename_i hc;obtain⟨h1,h2,h3⟩:=hc;split at hr
  ·rename_i v0 hx e;obtain⟨hv,hr⟩:=aA hr;simp only[kE,kK]at hr;obtain⟨rfl,rfl⟩:=hr;obtain⟨hY,hbd⟩:=hF f h1;obtain⟨hle,hc,_⟩:=hC _ _ _ _ _ e;obtain⟨fn,hfn,hnm,⟨hb,hc⟩|⟨hb,_⟩⟩:=hc hY
   case inr=>have:=hbd fn hfn;rw[hb]at this;cases this
   refine⟨kF _,fun _=>⟨fn,hfn,hnm,.inl ⟨hb,fun μ w cargs r _ hl=>?_⟩⟩,fun id us e=>absurd hY (pL e)⟩;obtain rfl:=hl.eq_of_plain h2;let μs:Mu:=fun id=>if id<NG then μ id else none
   have rs:RH NG μs T0 w:={
    ng:=by rw[ht.next];exact kF _
    wf:=fun id b hb=>by rw[ht.next];exact(ht.blk id b hb).1
    br:=fun id b l hb hl=>by
     obtain⟨hlt,cs,rfl,hp⟩:=ht.blk id b hb;have hl:μ id=some l:=by simpa[μs,hlt]using hl
     obtain⟨ccs,ty,fz,g1,g2,g3,g4,g5,g6⟩:=r.br id _ l (h3 id _ hb) hl;refine⟨ccs,ty,fz,g1,g2,g3,fun i x hx=>?_,fun h=>by simp at h,fun es h=>by simp at h⟩;obtain⟨c,k1,k2,k3⟩:=g4 i x hx;have hpx:=(cC cs hp i x hx).1;have:=k2.eq_of_plain hpx;subst this;exact⟨_,k1,VR.of_plain _ _ hpx,k3⟩
    inj:=fun id b l id' b' l' hb ho=>by
     obtain⟨_,cs,rfl,_⟩:=ht.blk id b hb;simp[Blk.owned]at ho
    bd:=fun id l hl=>by
     by_cases e:id<NG
     ·exact r.bd id l (by simpa[μs,e]using hl)
     ·simp[μs,e]at hl
    gl:=fun g hg=>by
     obtain⟨l,e1,e2⟩:=r.gl g hg;exact⟨l,by simpa[μs,hg]using e1,e2⟩}
   refine(hc μs w _ rs (fun id h1 _=>by rw[ht.next]at h1;simp[μs];omega) (LR.of_plain_mem _ fun a hA=>?_)).mono fun e w' ⟨cv,μ',he,st,hvr⟩=>?_
   ·obtain⟨i,hi⟩:=List.mem_iff_getElem?.1 hA;exact cY _ h2 i a hi
   ·have:=hvr.eq_of_plain hv;subst this;exact⟨_,μ,he,Step.ofBelow r (st.below fun id k hk=>by obtain⟨_,cs,rfl,_⟩:=ht.blk id k hk;rfl),VR.of_plain μ _ hv⟩
  ·cases hr
 ·cases hr
section
variable {P:Program}{NG nt:Nat}{C:CF}{isR:FuncId→Bool}{dom:FuncId→List Value→H→Prop}{R:FuncId→List Value→H→Value→H→Prop}
theorem aHo {f:Value→H→Option (Ex×T Value×H)}{l:List (Value×H)}{ol:OL}(h:mN f l=some ol)(hl:l≠[]):∃o,o∈ol:=by
 cases l with
 |nil=>exact absurd rfl hl
 |cons x r=>
  obtain⟨v,h0⟩:=x;simp only[mN]at h;split at h
  ·simp only[kE]at h;subst h;exact⟨_,List.mem_cons_self⟩
  ·cases h
theorem aDw {v:Value}{h:H}{l:List (Value×H)}(hl:A.a v h=some l):l≠[]:=by
 unfold A.a at hl;split at hl
 ·split at hl
  ·split at hl
   ·cases hb:(!List.isEmpty _&&!List.isEmpty _&&List.all _ _)with
    |true=>rw[hb,cond_true]at hl;cases hl
    |false=>
     rw[hb,cond_false]at hl;split at hl
     ·cases hl
     ·obtain⟨_,hl⟩:=aA hl;simp only[kE]at hl;subst hl;simp
   ·cases hl
  ·cases hl
 ·cases hl
theorem aKq {ops:Array Oper}{draw:Bool}{fr:T Value}{h:H}{l:OL}(hr:aAt P C NG nt ops draw fr h=some l):∃o,o∈l:=by
 unfold aAt at hr;split at hr
 ·rename_i l0 hl;simp only[kE]at hr;subst hr;unfold gN at hl;obtain⟨_,hl⟩:=aA hl;split at hl
  ·split at hl
   ·split at hl
    ·rename_i hnn;exact aHo hl (aDw hnn)
    ·cases hl
   ·cases hl
  ·cases hl
 ·obtain⟨_,hr⟩:=aA hr
  cases draw with
  |true=>
   rw[cond_true]at hr;obtain⟨_,hr⟩:=aA hr;rw[jZ]at hr;obtain⟨_,_,h2⟩:=bind_some hr;simp only[kE]at h2;subst h2;exact⟨_,List.mem_singleton.2 rfl⟩
  |false=>
   rw[cond_false]at hr;rw[dV]at hr;obtain⟨_,_,h2⟩:=bind_some hr;simp only[kE]at h2;subst h2;exact⟨_,List.mem_singleton.2 rfl⟩
theorem fM (ok:RelOK P NG isR dom R){ops:Array Oper}{K:T Value→H→Prop}:∀(l:List Oper) (fr:T Value) (h:H),aX P C NG isR dom R ops l fr h K→∃fr' h',K fr' h'
 |[],fr,h,hr=>⟨fr,h,hr⟩
 |o::rest,fr,h,hr=>by
  have run:∀fr:T Value,(match aZ isR o,o.op with
   |some true,.call ⟨.value (.func g),args,_⟩=>∃vs,cQ (aG NG fr h) args.toList=some vs∧dom g vs h∧∀v h',R g vs h v h'→aX P C NG isR dom R ops rest (bU fr o.dst (some v)) h' K
   |_,_=>∃rv h',aop P C (aG NG fr h) h o aQ=some (rv,h')∧aX P C NG isR dom R ops rest (bU fr o.dst rv) h' K)→∃fr' h',K fr' h':=by
   intro fr hr;split at hr
   ·rename_i g args _ hrel hop;obtain⟨vs,_,hd,hr⟩:=hr;obtain⟨c,g',hop',hcl,hg⟩:=dA hrel;rw[hop]at hop';cases hop';simp only[Callee.value.injEq,Operand.func.injEq]at hcl;subst hcl;obtain⟨v,h',hR⟩:=ok.tot _ _ _ hg hd;exact fM ok rest _ _ (hr v h' hR)
   ·obtain⟨rv,h',_,hr⟩:=hr;exact fM ok rest _ _ hr
  simp only[aX]at hr;split at hr
  ·exact run fr hr
  ·split at hr
   ·exact hr.elim
   ·split at hr
    ·split at hr
     ·exact run _ hr
     ·exact fM ok rest _ _ hr
    ·exact fM ok rest _ _ hr
    ·exact hr.elim
theorem aHa (ok:RelOK P NG isR dom R){ops:Array Oper}{draw:Bool}{fr:T Value}{h:H}{K:T Value→H→Prop}(hr:uG P C NG nt isR dom R ops draw fr h K):∃fr' h',K fr' h':=by
 rcases hr with⟨l,hl,hK⟩|⟨_,_,hr⟩|⟨_,_,_,_,hA⟩
 ·obtain⟨o,ho⟩:=aKq hl;exact⟨_,_,hK o ho⟩
 ·exact fM ok _ _ _ hr
 ·obtain⟨φ,hφ⟩:=Val.ex ok;obtain⟨fr',h',_,hK⟩:=hA φ hφ;exact⟨fr',h',hK⟩
theorem aAd {f:T Value→H→KW→Prop}(hf:∀fr h K,f fr h K→∃ex fr' h',K ex fr' h'):∀(n:Nat) (fr:T Value) (h:H) (K:KW),aCg f n fr h K→∃ex fr' h',K ex fr' h'
 |0,_,_,_,h=>h.elim
 |n+1,fr,h,K,hr=>by
  obtain⟨ex,fr',h',hk⟩:=hf _ _ _ hr
  cases ex with
  |normal=>exact aAd hf n _ _ _ hk
  |exit j=>exact⟨_,_,_,hk⟩
  |ret=>exact⟨_,_,_,hk⟩
theorem aHl (ok:RelOK P NG isR dom R){L:Nat}{RR:List Tmp}:∀(c:Code) (out:List Tmp) (env:List (Nat×List Tmp)) (fr:T Value) (h:H) (K:KW),mM P C isR dom R L NG nt RR c out env fr h K→∃ex fr' h',K ex fr' h':=by
 intro c
 induction c with
 |skip=>intro out env fr h K hr;exact⟨_,_,_,hr⟩
 |label l=>intro out env fr h K hr;exact⟨_,_,_,hr⟩
 |exit id=>intro out env fr h K hr;exact⟨_,_,_,hr⟩
 |ret=>intro out env fr h K hr;exact⟨_,_,_,hr⟩
 |region id ops draw=>intro out env fr h K hr;obtain⟨fr',h',hK⟩:=aHa ok hr;exact⟨_,_,_,hK⟩
 |seq a b iha ihb=>
  intro out env fr h K hr;obtain⟨ex,fr',h',hk⟩:=iha _ _ _ _ _ hr
  cases ex with
  |normal=>exact ihb _ _ _ _ _ hk
  |exit j=>exact⟨_,_,_,hk⟩
  |ret=>exact⟨_,_,_,hk⟩
 |cond c a b iha ihb=>
  intro out env fr h K hr;obtain⟨t,_,hr⟩:=hr
  cases t with
  |true=>exact iha _ _ _ _ _ hr
  |false=>exact ihb _ _ _ _ _ hr
 |block id b ih=>
  intro out env fr h K hr;obtain⟨ex,fr',h',hk⟩:=ih _ _ _ _ _ hr
  cases ex with
  |normal=>exact⟨_,_,_,hk⟩
  |exit j=>
   simp only[vX]at hk
   cases hj:Nat.beq j id with
   |true=>rw[hj]at hk;exact⟨_,_,_,hk⟩
   |false=>rw[hj]at hk;exact⟨_,_,_,hk⟩
  |ret=>exact⟨_,_,_,hk⟩
 |loop b ih=>intro out env fr h K hr;exact aAd (fun fr h K hh=>ih _ _ fr h K hh) L _ h K hr
 |scope b ih=>intro out env fr h K hr;exact ih _ _ _ _ _ hr
 |_=>intro out env fr h K hr;exact hr.elim
theorem aAk (ok:RelOK P NG isR dom R){L:Nat}{f:FuncId}{args:List Value}{h:H}{X:Value→H→Prop}(hr:dC P C isR dom R L NG f args h X):∃v h',X v h':=by
 obtain⟨fn,c,_,_,_,hr⟩:=hr;obtain⟨ex,fr,h',_,vs,_,hX⟩:=aHl ok _ _ _ _ _ _ hr;exact⟨_,_,hX⟩
theorem RelOK.zero (hb:∀f,isR f=true→f<Y0∧∃fn c,P.funcs[f]?=some fn∧fn.body=some c∧fn.name≠ "runtime.NumGoroutine"):RelOK P NG isR (fun _ _ _=>False) (fun _ _ _ _ _=>False):=
 ⟨hb,fun _ _ _ _ h=>h.elim,fun _ _ _ _ _ _ h=>h.elim,fun _ _ _ _ h=>h.elim⟩
theorem RelOK.layer (hzp:aK P=true)(hm:P.follows .mixedOrders=true)(hC:aM P NG C)(ok:RelOK P NG isR dom R){dom1:FuncId→List Value→H→Prop}{R1:FuncId→List Value→H→Value→H→Prop}
 (call:∀f args h,isR f=true→dom1 f args h→∃L,dC P C isR dom R L NG f args h (R1 f args h)) (mono:∀f args h v h',isR f=true→R1 f args h v h'→h.next≤h'.next):RelOK P NG isR dom1 R1:=
 ⟨ok.body,fun f args h hf hd μ w cargs rh sf hl=>by
  obtain⟨L,hr⟩:=call f args h hf hd;exact jM hzp hm hC ok hr rh sf hl,mono,fun f args h hf hd=>by
  obtain⟨L,hr⟩:=call f args h hf hd;exact aAk ok hr⟩
theorem RelOK.layers (hzp:aK P=true)(hm:P.follows .mixedOrders=true)(hC:aM P NG C)(hb:∀f,isR f=true→f<Y0∧∃fn c,P.funcs[f]?=some fn∧fn.body=some c∧fn.name≠ "runtime.NumGoroutine"){dom1:FuncId→List Value→H→Prop}{R1:FuncId→List Value→H→Value→H→Prop}
 (call:∀f args h,isR f=true→dom1 f args h→∃dom R,RelOK P NG isR dom R∧∃L,dC P C isR dom R L NG f args h (R1 f args h)) (mono:∀f args h v h',isR f=true→R1 f args h v h'→h.next≤h'.next):RelOK P NG isR dom1 R1:=
 ⟨hb,fun f args h hf hd μ w cargs rh sf hl=>by
  obtain⟨_,_,ok,L,hr⟩:=call f args h hf hd;exact jM hzp hm hC ok hr rh sf hl,mono,fun f args h hf hd=>by
  obtain⟨_,_,ok,L,hr⟩:=call f args h hf hd;exact aAk ok hr⟩
end
end Go.AM
