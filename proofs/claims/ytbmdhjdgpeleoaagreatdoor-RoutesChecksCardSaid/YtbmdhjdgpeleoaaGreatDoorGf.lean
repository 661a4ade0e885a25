import Derived.Test.YtbmdhjdgpeleoaaGreatDoorGx
import Derived.Test.YtbmdhjdgpeleoaaGreatDoorGz
import Derived.Test.YtbmdhjdgpeleoaaGreatDoorGq
import Derived.Test.YtbmdhjdgpeleoaaGreatDoorGk
import Derived.Test.YtbmdhjdgpeleoaaGreatDoorGp
set_option linter.defProp false
set_option maxRecDepth 100000
namespace Go.Proofs.YtbmdhjdgpeleoaaGreatDoor.Ra
open Tryz (prog)
open Go Go.AM TaA TaI TaW TaX TaY _root_.Ra
variable {B c:Bs}{t tak:Bs→Bs→Bool}{C:Col}{N f:Col→Nat}{h h0 j:H}{I o:Int}{m:Msg}{L i n pc xb:Nat}{e:Nat→kA}{f0 row:Row}{b b0:Sb}{p s s0:St}{Y:Type}{J R W:cD}{it v x x10 x24 x3 x30:kA}{es0 l:kC (Bs×Bs)}{sk:kC Int}{K:kC Msg}{a cs:kC kA}{Q g:kI}
def uZ (l:kC Bs):kC Bs:=l.mergeSort fun a b=>decide (a≤b)
def KeysOk (K:Nat)(l:kC (Bs×Y)):Prop:=l.length≤K∧∀x∈l,x.1.length≤maxLen
def KeysOk.up {l:kC (Bs×Y)}(k:KeysOk n l)(h:n≤i):KeysOk i l:=⟨kR k.1 h,k.2⟩
structure K3 (D:CF)(T0:H)(fil nam:Bs→Bool)(tak:Bs→Bs→Bool):Prop where
 k2:K2 D T0 fil nam tak
 so:∀h m (l:kC (Bs×kA)) box,h.get box=some (.cells [aV m] (some 0))→box<h.next→m<h.next→MapR h m cC l→l.length≤2^40→(∀x∈l,x.1.length≤maxLen)→∃h' v,D 99 [.func (.func 120) ⟨[]⟩ ⟨[aA box]⟩] h=some (v,h')∧SliceE 1 h' v ((uZ (l.map (·.1))).map fun k=>[str k])∧Ext h h'∧∀i,sid v=some i→h.next≤i
 nr:∀id vs h,D Y0 (iN (.ofNat id)::vs) h=none
noncomputable abbrev aIa (a x:kA)(b:Nat)(s:LSt):Blk:=.loop 13 (fs [(6,a),(4,x),(2,aA b)]) [7] TaY.cagR TaY.cafZ s
section
variable {D:CF}{T0:H}{fil nam:Bs→Bool}(Z:K3 D T0 fil nam tak)
include Z
def Y63 {id:Nat}{c:kA}{E:kC (kC kA)}(hl:h.get id=some (aIa v x i .ready))(hb:h.get i=some (.cells [c] (some 0)))(vv:Vec 4 h c E)(q:id≠i)(G:sid c≠some id)(U:sid c≠some i)(a:id<h.next)(P:i<h.next)(a3:E.length≤2^41)(m:Msg):
 ∃l y,CI D Y0 [iN (.ofNat id),.agg ⟨aG m⟩] h=some (.bool true,y)∧y.get id=some (aIa v x i .ready)∧y.get i=some (.cells [l] (some 0))∧Vec 4 y l (E++[aG m])∧ExtBut (fun b=>b=id∨b=i∨sid c=some b) h y∧(∀b,sid l=some b→h.next≤b):=by
 have hf:prog.funcs[Y0]?=none:=by kernel_rfl
 have hc:(Nat.beq ([7]:kC Tmp).length [Value.agg ⟨aG m⟩].length&&([7]:kC Tmp).all (fun t=>Nat.blt t 13)&&eO TaY.cagR&&eO TaY.cafZ)=true:=by kernel_rfl
 have p:AM.live [] TaY.cafZ [] []=[5,2]:=by kernel_rfl
 have R:aBw (fs [(6,v),(4,x),(2,aA i)]) [7] [.agg ⟨aG m⟩]=fs [(6,v),(4,x),(2,aA i),(7,.agg ⟨aG m⟩)]:=rfl;obtain⟨I,f⟩:=eX (h.push (.cells TaY.Z30L (some 0)));have eb:A.box 4 TaY.Z30 h=some (aA h.next,I):=by rw[f];rfl
 have g1:I.get h.next=some (.cells TaY.Z30L (some 0)):=by rw[f,H.get_push,kM rfl]
 obtain⟨r,g⟩:=eX (I.put h.next (.cells (aG m) (some 0)));have e2:A.store 4 (aA h.next) (.agg ⟨aG m⟩) I=some r:=by rw[qU,g1,g];rfl
 have W:Ext h r:=by rw[g,f];exact Ext.put (Ext.push h _) _ _ (kQ _)
 have n2:r.next=h.next+1:=by rw[g,f];rfl
 have Q:r.get id=some (aIa v x i .ready):=by rw[W.get _ a];exact hl
 obtain⟨h3,k⟩:=eX (r.put id (aIa v x i .busy));have n3:h3.next=h.next+1:=by rw[k];exact n2
 have V:∀j,j≠id→h3.get j=r.get j:=fun j hj=>by rw[k,H.get_put,kL hj]
 have w:h3.get i=some (.cells [c] (some 0)):=by rw[V _ (mV q),W.get _ P];exact hb
 have O:h3.get h.next=some (.cells (aG m) (some 0)):=by rw[V _ (by omega),g,H.get_put,kM rfl]
 have lb:A.load false 1 (aA i) h3=some c:=by rw[qK,w];rfl
 have lm:A.load true 4 (aA h.next) h3=some (.agg ⟨aG m⟩):=by rw[aI,O];rfl
 have y3:ExtBut (fun b=>b=id) h h3:=⟨by omega,fun b a M=>by rw[V b M];exact W.get b a⟩;have v3:Vec 4 h3 c E:=vv.extBut y3 fun b a e=>G (by rw[a,e]);have B:=aX (n:=4) (zs:=TaY.Z30L) (v:=.agg ⟨aG m⟩) (vs:=aG m) h3 rfl rfl rfl;have sx:=fQ (h:=h3) (n:=4) (vs:=aG m) rfl;obtain⟨J,o⟩:=eX (h3.push (.cells (aG m) (some 4)));rw[←o]at B sx;have N:Ext h3 J:=o▸Ext.push h3 _;have v4:=v3.ext N;have n4:J.next=h.next+2:=by rw[o];show h3.next+1=_;rw[n3]
 obtain⟨z,Y,v5,n5,X⟩:=iH (bs:=40) v4 sx (by simp) (by omega) (by simp;omega) (by simp;omega);generalize C:Value.slice (some ⟨J.next,0,none⟩) (E.length+[aG m].length) (2*(E.length+[aG m].length))=l at Y v5;have s:sid l=some J.next:=by rw[←C];rfl
 have g5:z.get i=some (.cells [c] (some 0)):=by rw[X.get i (by omega) U,N.get _ (by omega)];exact w
 have u:A.store 1 (aA i) l z=some (z.put i (.cells [l] (some 0))):=by rw[←C,qU,g5];rfl
 obtain⟨K,d⟩:=eX (z.put i (.cells [l] (some 0)));rw[←d]at u;have g6:K.get id=some (aIa v x i .busy):=by rw[d,H.get_put,kL q,X.get id (by omega) G,N.get _ (by omega),k,H.get_put,kM rfl]
 have y6:ExtBut (fun b=>b=id∨b=i∨sid c=some b) h (K.put id (aIa v x i .ready)):=by
  refine ExtBut.put ?_ id _ (.inl rfl);rw[d];refine ExtBut.put ⟨by omega,fun b a M=>?_⟩ i _ (.inr (.inl rfl));rw[X.get b (by omega) (fun e=>M (.inr (.inr e))),N.get b (by omega),y3.get b a (fun e=>M (.inl e))]
 refine⟨l,K.put id (aIa v x i .ready),aHl (L:=0) (Z.nr _ _ _) hf ?_,by rw[H.get_put,kM rfl],?_,?_,y6,fun b a=>?_⟩
 ·unfold roundK;rw[hl];simp only[hc,sV];rw[p,R,TaY.epagR];simp only[cJf,eb,qX,e2,qZ,Q];rw[←k,TaY.epafZ];simp only[cJg,lb,lm,qZ,B,qX,Y,u,g6,aEm]
 ·rw[H.get_put,kL (mV q),d,H.get_put,kM rfl]
 ·refine(v5.extBut (S:=fun b=>b=i) (d▸ExtBut.put ⟨kQ _,fun _ _ _=>rfl⟩ i _ rfl:ExtBut (fun b=>b=i) z K) ?_).extBut (S:=fun b=>b=id) (ExtBut.put ⟨kQ _,fun _ _ _=>rfl⟩ id _ rfl) ?_
  ·intro b a e;rw[s]at a;have:=pB a;omega
  ·intro b a e;rw[s]at a;have:=pB a;omega
 ·rw[s]at a;have:=pB a;omega
structure bKp (h0 h:H)(id bx:Nat)(x6 x4:kA)(es:kC (kC kA)):Prop where
 lp:h.get id=some (aIa x6 x4 bx .ready)
 v:∃v,h.get bx=some (.cells [v] (some 0))∧Vec 4 h v es∧∀i,sid v=some i→h0.next≤i
 x:ExtBut (fun i=>i=id∨i=bx) h0 h
def cLz {id bx b0 kp mk:Nat}{kept:kC (Bs×Msg)}{ks:kC Bs}(p:id<h0.next)(hb:bx<h0.next)(J:id≠bx)(g0:h0.get b0=some (.cells [aA kp] (some 0)))(N:b0<h0.next∧b0≠id∧b0≠bx)(g1:h0.get kp=some (.cells [aV mk] (some 0)))(O:kp<h0.next∧kp≠id∧kp≠bx)(m:MapR h0 mk cC (kept.map fun b3=>(b3.1,.agg ⟨aG b3.2⟩)))(P:mk<h0.next∧mk≠id∧mk≠bx)(sx:SliceE 1 h0 x10 (ks.map fun k=>[str k]))(r:∀i,sid x10=some i→i≠id∧i≠bx)(a3:ks.length≤2^40)(hk:∀k∈ks,∃m,aE kept k=some m)(kr X:Pk.K0 (kA×H)):
 ∀(d i n:Nat) (h:H) (b:kC (kC kA)),i+d=ks.length→d<n→b.length=i→bKp h0 h id bx v x b→∃f,aXf (CI D) L kr X n (iN (ks.length:Int)) (iN (i:Int)) (aA b0) (.func (.yield id) ⟨[]⟩ ⟨[]⟩) x10 h=X f∧bKp h0 f id bx v x (b++((ks.drop i).filterMap (aE kept)).map aG):=by
 intro d
 induction d with
 |zero=>
  intro i n h b I q l s;obtain⟨n,rfl⟩:=pS n (by omega);have G:decide ((i:Int)<(ks.length:Int))=false:=kO (by omega);refine⟨h,?_,by rw[pZ (by omega)];simpa using s⟩;simp only[aXf,bFd,zZ,G,qS]
 |succ d ih=>
  intro i n h b I q l s;obtain⟨n,rfl⟩:=pS n (by omega);have G:decide ((i:Int)<(ks.length:Int))=true:=kN (by omega);obtain⟨k,c⟩:∃k,ks[i]?=some k:=⟨_,kZ (by omega)⟩;obtain⟨a,W⟩:=hk k (sY c);have o:∀j,j<h0.next→j≠id→j≠bx→h.get j=h0.get j:=fun j h1 h2 h3=>s.x.get j h1 (fun e=>e.elim h2 h3);have U:=sx.extBut s.x fun i p e=>e.elim (r i p).1 (r i p).2;have M:(ks.map fun k=>[str k])[i]?=some [str k]:=by rw[pL,c];rfl
  obtain⟨t,S,cells,own,ei,_,g,_,_,hc⟩:=U.at M .i64;have lk:A.load false 1 (.pointer (some ⟨t,S,none⟩)) h=some (str k):=by
   rw[qK,g];have:=hc 0 (by omega);simpa using this
  have Q:A.load false 1 (aA b0) h=some (aA kp):=by rw[qK,o _ N.1 N.2.1 N.2.2,g0];rfl
  have R:A.load false 1 (.pointer (some ⟨kp,0,none⟩)) h=some (aV mk):=by rw[qK,o _ O.1 O.2.1 O.2.2,g1];rfl
  have u:=aEk (m.congr (o _ P.1 P.2.1 P.2.2)) TaI.Z30 false k;rw[lE (fun(_:Bs) (m:Msg)=>Value.agg ⟨aG m⟩),W]at u;have u:A.zJ true TaI.Z30 false (str k) (aV mk) h=some (.agg ⟨aG a⟩):=u;obtain⟨d3,v1,v2,V⟩:=s.v;have nx:=s.x.next;obtain⟨v',f,e,w,B,C,y,K⟩:=Y63 Z s.lp v1 v2 J (fun e=>by have:=V _ e;omega) (fun e=>by have:=V _ e;omega) (by omega) (by omega) (by omega) a;have e:callM prog (CI D) (.func (.yield id) ⟨[]⟩ ⟨[]⟩) [.agg ⟨aG a⟩] h=some (.bool true,f):=e;have w2:A.z prog .add 3 (iN (i:Int)) (iN 1)=some (iN ((i+1:Nat):Int)):=by rw[bC,aQ (by omega)]
  have s':bKp h0 f id bx v x (b++[aG a]):=⟨w,⟨v',B,C,fun i p=>by have:=K i p;omega⟩,by have:=y.next;omega,fun j hj q=>by
   rw[y.get j (by omega) fun e=>?_]
   ·exact s.x.get j hj q
   ·rcases e with e|e|e
    ·exact q (.inl e)
    ·exact q (.inr e)
    ·have:=V j e;omega⟩
  obtain⟨E,Y,s2⟩:=ih (i+1) n f (b++[aG a]) (by omega) (by omega) (by simp[l]) s';refine⟨E,?_,?_⟩
  ·simp only[aXf,bFd,zZ,G,qS,ei,lk,Q,sR,R,u,e,w2,Y]
  ·rw[show ks.drop i=k::ks.drop (i+1)from aU c,List.filterMap_cons,W];simpa[sH]using s2
omit Z in
def aOw {l:kC Bs}:B∈uZ l↔B∈l:=List.mem_mergeSort
omit Z in
def aOx (l:kC Bs):(uZ l).length=l.length:=List.length_mergeSort _
omit Z in
def aJc (s:St):gP s=(uZ (s.kept.map (·.1))).filterMap (aE s.kept):=rfl
def T25 (r:Rep h j N p n)(hB:Ext h j)(l:KeysOk (2^40) p.kept):∃h' v,CI D 43 [aA (N .mdl)] j=some (v,h')∧SliceE 4 h' v ((gP p).map aG)∧Ext j h'∧(gP p).length≤2^40∧∀O,sid v=some O→j.next≤O:=by
 have q:=Z.k2;have m1:=ld q (r.ok .mdl) 1 rfl;have f3:=aCt (t:=42) (by kernel_rfl) (N .mdl);have i3:=aCt (t:=59) (by kernel_rfl) (N .keep);obtain⟨a,d⟩:=eX (j.push (.cells [aA (N .keep)] (some 0)));have b1:A.box 1 (aA (N .keep)) j=some (aA j.next,a):=by rw[d];rfl
 have V:CI D 80 [aA (N .keep)] j=some (.func (.func 98) ⟨[]⟩ ⟨[aA j.next]⟩,a):=cBv 0 _ j (q.no 80 _ _ (by decide)) (by simp only[F80,bTl,b1,qS]);have x1:Ext j a:=by rw[d];exact Ext.push j _
 have n1:a.next=j.next+1:=by rw[d];rfl
 have g1:a.get j.next=some (.cells [aA (N .keep)] (some 0)):=by rw[d,H.get_push,kM rfl]
 obtain⟨b,f⟩:=eX (a.push (.cells [eJ] (some 0)));have b2:A.box 1 eJ a=some (aA a.next,b):=by rw[f];rfl
 have x2:Ext a b:=by rw[f];exact Ext.push a _
 have n2:b.next=a.next+1:=by rw[f];rfl
 have g2:b.get a.next=some (.cells [eJ] (some 0)):=by rw[f,H.get_push,kM rfl]
 obtain⟨h3,g⟩:=eX (b.push (aIa (.func (.func 98) ⟨[]⟩ ⟨[aA j.next]⟩) eJ a.next .ready));have x3:Ext b h3:=by rw[g];exact Ext.push b _
 have n3:h3.next=b.next+1:=by rw[g];rfl
 have g3:h3.get b.next=some (aIa (.func (.func 98) ⟨[]⟩ ⟨[aA j.next]⟩) eJ a.next .ready):=by rw[g,H.get_push,kM rfl]
 have u:=x1.trans (x2.trans x3);have r3:=r.ext hB.next u;have G:h3.get j.next=some (.cells [aA (N .keep)] (some 0)):=by rw[x3.get _ (by omega),x2.get _ (by omega)];exact g1
 obtain⟨z,m⟩:=eX (h3.push (.cells [aV (N .kept)] (some 0)));have b4:A.box 1 (aV (N .kept)) h3=some (aA h3.next,z):=by rw[m];rfl
 have x4:Ext h3 z:=by rw[m];exact Ext.push h3 _
 have n4:z.next=h3.next+1:=by rw[m];rfl
 have g4:z.get h3.next=some (.cells [aV (N .kept)] (some 0)):=by rw[m,H.get_push,kM rfl]
 have Y:CI D 100 [aV (N .kept)] h3=some (.func (.func 120) ⟨[]⟩ ⟨[aA h3.next]⟩,z):=bNo 0 _ h3 (q.no 100 _ _ (by decide)) (by simp only[cKs,aYq,b4,qS]);have r4:=r3.ext (kR hB.next u.next) x4;have lk:=r4.lt .kept trivial;obtain⟨B,P,w,M,Q,fk⟩:=Z.so z (N .kept) _ h3.next g4 (by omega) lk.2 (r4.ok .kept) (by rw[pO];exact l.1) fun x hx=>by
  obtain⟨y,hy,rfl⟩:=mW.1 hx;exact l.2 y hy
 rw[List.map_map]at M;have w:CI D 99 [.func (.func 120) ⟨[]⟩ ⟨[aA h3.next]⟩] z=some (P,B):=iC w;have r5:=r4.ext (by have:=hB.next;have:=u.next;omega) Q;have E:=x4.trans Q;obtain⟨s,c⟩:=eX (uZ (p.kept.map (·.1)));have M:SliceE 1 B P (s.map fun k=>[str k]):=by rw[c];exact M
 have l3:=Q.next;have J:s.length≤2^40:=by rw[c,aOx,pO];exact l.1
 have j3:=r.lt .keep trivial;have k3:=r.lt .kept trivial;have s0:bKp B B b.next a.next (.func (.func 98) ⟨[]⟩ ⟨[aA j.next]⟩) eJ []:=
  ⟨by rw[E.get _ (by omega)];exact g3,⟨eJ,by rw[E.get _ (by omega),x3.get _ (by omega)];exact g2,Vec.nil 4 B,fun i I=>by simp[sid]at I⟩,kQ _,fun _ _ _=>rfl⟩
 obtain⟨h6,e6,K⟩:=cLz Z (h0:=B) (id:=b.next) (bx:=a.next) (b0:=j.next) (kp:=N .keep) (mk:=N .kept) (kept:=p.kept) (ks:=s) (x10:=P) (by omega) (by omega) (by omega) (by rw[E.get _ (by omega)];exact G) (by omega) (r5.ok .keep) (by omega) (r5.ok .kept) (by omega) M (fun i I=>by have:=fk i I;omega) J
  (fun k hk=>by
   rw[c,aOw]at hk;obtain⟨x,hx,rfl⟩:=mW.1 hk;exact rI hx) (fun j=>some (.tuple ⟨[]⟩,j)) (fun j=>some (.tuple ⟨[]⟩,j)) (L:=s.length+1) s.length 0 (s.length+1) B [] (by omega) (by omega) rfl s0
 have b3:([]:kC (kC kA))++((s.drop 0).filterMap (aE p.kept)).map aG=(gP p).map aG:=by rw[dF,mI,aJc,c]
 rw[b3]at K;have ln:A.zE P=some (iN (s.length:Int)):=by have:=M.len.1;rwa [pO]at this
 have d3:A.load false 1 (aA j.next) h3=some (aA (N .keep)):=by rw[qK,G];rfl
 have e3:=ld q (r3.ok .keep) 0 rfl;have X:CI D 98 [.func (.yield b.next) ⟨[]⟩ ⟨[]⟩,aA j.next] h3=some (.tuple ⟨[]⟩,h6):=by
  refine cBh (s.length+1) _ _ h3 (q.no 98 _ _ (by decide)) ?_;simp only[F98,bJf,cEj,d3,qS,sR,e3,Y,w,ln];exact e6
 have a3:callV (CI D) (.func (.func 98) ⟨[]⟩ ⟨[aA j.next]⟩) [.func (.yield b.next) #[] #[]] h3=some (.tuple ⟨[]⟩,h6):=X;obtain⟨v,v1,v2,v3⟩:=K.v;obtain⟨C,o⟩:=eX (h6.put b.next (aIa (.func (.func 98) ⟨[]⟩ ⟨[aA j.next]⟩) eJ a.next .exhausted));have g7:C.get a.next=some (.cells [v] (some 0)):=by rw[o,H.get_put,kL (by omega)];exact v1
 have l7:A.load false 1 (aA a.next) C=some v:=by rw[qK,g7];rfl
 have v7:Vec 4 C v ((gP p).map aG):=v2.extBut (S:=fun i=>i=b.next) (o▸ExtBut.put ⟨kQ _,fun _ _ _=>rfl⟩ _ _ rfl) fun i I e=>by have:=v3 i I;omega
 have ef:aTj prog (.func (.func 98) ⟨[]⟩ ⟨[aA j.next]⟩)=true:=by kernel_rfl
 have W:CI D 97 [eJ,.func (.func 98) ⟨[]⟩ ⟨[aA j.next]⟩] a=some (v,C):=by
  refine cBi 0 _ _ a (q.no 97 _ _ (by decide)) ?_;simp only[F97,bJg,bHu,b2,qX,bJc,bDo,bHt,bIt,bIl,ef,sV];rw[←g,a3];simp only[pR,oU,K.lp];rw[←o];simp only[bRp,l7,qZ]
 have U:CI D 79 [.func (.func 98) ⟨[]⟩ ⟨[aA j.next]⟩] a=some (v,C):=cBw 0 _ a (q.no 79 _ _ (by decide)) (by simp only[F79,bTm,W,qS]);have R:CI D 60 [aA (N .keep)] j=some (v,C):=cCj 0 _ j (q.no 60 _ _ (by decide)) (by simp only[F60,bTo,i3,qS,V,U]);refine⟨C,v,cCy 0 _ j (q.no 43 _ _ (by decide)) (by simp only[F43,bTt,f3,qS,sR,m1,R]),v7.slice,?_,?_,fun O hj=>by have:=v3 O hj;omega⟩
 ·rw[o];refine Ext.put ⟨by have:=K.x.next;omega,fun O hj=>?_⟩ _ _ (by omega);rw[K.x.get O (by omega) (fun e=>by omega),Q.get O (by omega),x4.get O (by omega),u.get O hj]
 ·rw[aJc,←c];exact kR (List.length_filterMap_le _ _) J
end
open Classical in
noncomputable def nmO (n:Col→Nat)(o:Int)(f:Col→Nat):Col→Nat:=fun C=>if atO o C then f C else n C
def aBh (C:Col)(h:¬atO I C):nmO N I f C=N C:=kL h
def aCl (C:Col)(h:atO I C):nmO N I f C=f C:=kM h
def fO (p l r a s g:Nat)(m:Bs→Nat):Col→Nat
 | .sb _=>p
 | .flst _=>l
 | .frow _=>r
 | .past _=>a
 | .still _=>s
 | .got _=>g
 | .msgs _ t=>m t
 |_=>0
def nC (h:atO I C):C=.sb I∨C=.flst I∨C=.frow I∨C=.past I∨C=.still I∨C=.got I∨∃t,C=.msgs I t:=by
 cases C<;>simp only[atO]at h<;>subst h<;>simp
structure BegI (h0 h:H)(p pm sm gm:Nat)(mn:Bs→Nat)(mv:Bs→kA)(b:Sb):Prop where
 ext:Ext h0 h
 eq:b={past:=b.past,still:=b.still}
 past:MapR h pm cC (b.past.map fun x=>(x.1,mv x.1))
 still:MapR h sm cC (gJ b.still)
 got:MapR h gm cC (gJ [])
 cell:h.get p=some (.cells [str [],.bool false,.bool false,.pointer none,aV pm,aV sm,aV gm,str [],.bool false] (some 0))
 msgs:∀t ms,aE b.past t=some ms→GrowV 4 h (mv t) (ms.map aG)∧sid (mv t)=some (mn t)∧p<mn t∧mn t<h.next
 inj:∀t t' ms ms',aE b.past t=some ms→aE b.past t'=some ms'→mn t=mn t'→t=t'
 names:h0.next≤pm∧pm<sm∧sm<gm∧gm<p∧p<h.next
 ones:∀t ms,aE b.past t=some ms→ms.length=1
def BegI.but {j h g:H}{p n i l:Nat}{m:Bs→Nat}{v:Bs→kA}{b:Sb}(x:BegI j h p n i l m v b)(e:Ext h g):BegI j g p n i l m v b:=by
 obtain⟨q,r,u,w,y⟩:=x.names;exact⟨x.ext.trans e,x.eq,x.past.congr (e.get _ (by omega)),x.still.congr (e.get _ (by omega)),x.got.congr (e.get _ (by omega)),by rw[e.get _ (by omega)];exact x.cell,
  fun t s o=>by
   obtain⟨f,a,k,c⟩:=x.msgs t s o;exact⟨f.but (S:=fun _=>False) e.next fun z d=>by rw[a]at d;cases d;exact e.get _ c,a,k,kT c e.next⟩,x.inj,⟨q,r,u,w,kT y e.next⟩,x.ones⟩
section
variable {D:CF}{Z:H}{fil nam:Bs→Bool}(k:K3 D Z fil nam tak)
include k
def aVm (x:SliceE 4 h v (K.map aG))(c:K[n]?=some m):∃o q,A.zB 4 v (iN (n:Int))=some (.pointer (some ⟨q,o,none⟩))∧A.load true 4 (.pointer (some ⟨q,o,none⟩)) h=some (.agg ⟨aG m⟩):=by
 have _:=k;have d:(K.map aG)[n]?=some (aG m):=by rw[pL,c];rfl
 obtain⟨id,o,cells,own,e,_,g,a,b,f⟩:=x.at d .i64;refine⟨o,id,e,?_⟩;rw[aI,g];simp only[ble_iff.2 a,sV,b]
def cMo {x0 x1:kA}{l:kC Msg}{m gm:Nat}(hl:l.length≤2^40)(kx:Pk.K3 (kA×H)):
 ∀(d Q e3:Nat) (G:H) (mn:Bs→Nat) (X:Bs→kA) (b:Sb),Q+d=l.length→d<e3→BegI h G n i m gm mn X b→SliceE 4 G v (l.map aG)→(∀j,sid v=some j→j≠i∧j≠m)→
  ∃h' u o,aSp (CI D) L kx e3 (iN (l.length:Int)) (iN (Q:Int)) v x0 x1 (aA n) G=kx x0 x1 (aA n) h'∧BegI h h' n i m gm u o (fN b (l.drop Q)):=by
 have k2:=k.k2;intro d
 induction d with
 |zero=>
  intro Q e3 G mn X b hi hn s sx _;obtain⟨e3,rfl⟩:=pS e3 (by omega);have hd:decide ((Q:Int)<(l.length:Int))=false:=kO (by omega);refine⟨G,mn,X,?_,by rw[pZ (by omega)];exact s⟩;simp only[aSp,bGu,zZ,hd,qS]
 |succ d ih=>
  intro Q e3 G mn X b hi hn s sx P;obtain⟨e3,rfl⟩:=pS e3 (by omega);have hd:decide ((Q:Int)<(l.length:Int))=true:=kN (by omega);obtain⟨w,hm⟩:∃w,l[Q]?=some w:=⟨_,kZ (by omega)⟩;obtain⟨y3,qq,ei,lm⟩:=aVm k sx hm;obtain⟨n1,n2,n3,n4,n5⟩:=s.names;obtain⟨U,y⟩:=eX (G.push (.cells TaI.Z30L (some 0)));have eb:A.box 4 TaI.Z30 G=some (aA G.next,U):=by rw[y];rfl
  have g1:U.get G.next=some (.cells TaI.Z30L (some 0)):=by rw[y,H.get_push,kM rfl]
  obtain⟨r,B⟩:=eX (U.put G.next (.cells (aG w) (some 0)));have e2:A.store 4 (aA G.next) (.agg ⟨aG w⟩) U=some r:=by rw[qU,g1,B];rfl
  have x2:Ext G r:=by rw[B,y];exact Ext.put (Ext.push G _) _ _ (kQ _)
  have u3:r.next=G.next+1:=by rw[B,y];rfl
  have M:r.get G.next=some (.cells (aG w) (some 0)):=by rw[B,H.get_put,kM rfl]
  have s2:=s.but x2;have l4:=ld k2 s2.cell 4 rfl;have lt:=ld k2 M 0 rfl;have k3:A.load true 4 (aA G.next) r=some (.agg ⟨aG w⟩):=by rw[aI,M];rfl
  have N:=aX (n:=4) (zs:=TaI.Z30L) (v:=.agg ⟨aG w⟩) (vs:=aG w) r rfl rfl rfl;obtain⟨h3,C⟩:=eX (r.push (.cells (aG w) (some 4)));obtain⟨q,hq⟩:=eX (r.next);rw[←C,←hq]at N;have x3:Ext r h3:=C▸Ext.push r _;have v3:h3.next=r.next+1:=by rw[C];rfl
  have g3:h3.get q=some (.cells (aG w) (some 4)):=by rw[C,hq,H.get_push,kM rfl]
  have K:=s2.but x3;obtain⟨vv,b3⟩:=eX (Value.slice (some ⟨q,0,none⟩) 1 3);rw[←b3]at N;obtain⟨h4,u4,m4,a4⟩:=aPy K.past w.topic vv;have kn:(b.past.map (·.1)).Nodup:=by have:=s.past.nodup;rwa [List.map_map]at this
  obtain⟨o,E⟩:∃o:Bs→kA,o=fun t=>if t=w.topic then vv else X t:=⟨_,rfl⟩
  obtain⟨u,O⟩:∃u:Bs→Nat,u=fun t=>if t=w.topic then q else mn t:=⟨_,rfl⟩
  have J:=jZ (a:=[w]) (f:=X) (g:=o) (c:=w.topic) (fun d hd=>by rw[E];simp only[kL hd]) kn;rw[show o w.topic=vv by rw[E];exact kM rfl]at J;rw[J]at m4;have j3:h4.get n=some (.cells [str [],.bool false,.bool false,.pointer none,aV i,aV m,aV gm,str [],.bool false] (some 0)):=by rw[a4.2 _ (by omega)];exact K.cell
  have l5:=ld k2 j3 5 rfl;have i3:h4.get G.next=some (.cells (aG w) (some 0)):=by rw[a4.2 _ (by omega),x3.get _ (by omega)];exact M
  have l3:=ld k2 i3 0 rfl;have f3:A.zI TaI.Z103L []=some fU:=rfl;obtain⟨h5,u5,m5,a5⟩:=aPy (K.still.congr (a4.2 m (by omega))) w.topic fU;rw[nA]at m5;have t3:h5.next=h3.next:=by rw[a5.1,a4.1]
  have Y:∀j,j≠i→j≠m→h5.get j=h3.get j:=fun j U r=>by rw[a5.2 _ r,a4.2 _ U]
  have p3:Ext h h5:=⟨by have:=K.ext.next;omega,fun j V=>by rw[Y j (by omega) (by omega)];exact K.ext.get j V⟩;have w2:A.z prog .add 3 (iN (Q:Int)) (iN 1)=some (iN ((Q+1:Nat):Int)):=by rw[bC,aQ (by omega)]
  have s5:BegI h h5 n i m gm u o {b with past:=aM b.past w.topic [w],still:=lH b.still w.topic}:=by
   refine⟨p3,by rw[s.eq],m4.congr (a5.2 i (by omega)),m5,K.got.congr (Y _ (by omega) (by omega)),by rw[Y _ (by omega) (by omega)];exact K.cell,fun t W p=>?_,fun t t' W d3 p x I=>?_,⟨n1,n2,n3,n4,by omega⟩,fun t W p=>?_⟩
   ·simp only[aC]at p;by_cases e:t=w.topic
    ·rw[kM e.symm]at p;cases p;rw[E,O];simp only[e,mE];rw[b3];refine⟨⟨?_,q,3,rfl,.inr rfl,by omega,?_⟩,rfl,by omega,by omega⟩
     ·intro e I;simp at I;rw[I];rfl
     ·rw[Y _ (by omega) (by omega),g3];simp
    ·rw[kL (mV e)]at p;rw[E,O];simp only[e,mD];obtain⟨a1,a2,a3,q3⟩:=K.msgs t W p;exact⟨a1.but (S:=fun _=>False) (by omega) fun Q hi=>by rw[a2]at hi;cases hi;exact Y _ (by omega) (by omega),a2,a3,by omega⟩
   ·simp only[aC]at p x;rw[O]at I;by_cases e:t=w.topic<;>by_cases R:t'=w.topic
    ·rw[e,R]
    ·rw[kL (mV R)]at x;simp only[e,mE,R,mD]at I;have:=(s2.msgs t' d3 x).2.2.2;omega
    ·rw[kL (mV e)]at p;simp only[R,mE,e,mD]at I;have:=(s2.msgs t W p).2.2.2;omega
    ·rw[kL (mV e)]at p;rw[kL (mV R)]at x;simp only[e,mD,R]at I;exact s.inj t t' W d3 p x I
   ·simp only[aC]at p;split at p
    ·cases p;rfl
    ·exact s.ones t W p
  obtain⟨h',m3,o3,e,s'⟩:=ih (Q+1) e3 h5 u o _ (by omega) (by omega) s5 (sx.extBut (S:=fun j=>j=i∨j=m) ⟨by omega,fun j V hn=>by rw[Y j (fun e=>hn (.inl e)) (fun e=>hn (.inr e)),x3.get j (by omega),x2.get j V]⟩ fun j V e=>e.elim (P j V).1 (P j V).2) P;refine⟨h',m3,o3,?_,?_⟩
  ·simp only[aSp,bGu,bRs,cGt,cGs,bQc,zZ,hd,qS,ei,lm,eb,e2,l4,lt,k3,N,u4,l5,l3,f3,u5,w2,e,sR]
  ·rw[show l.drop Q=w::l.drop (Q+1)from aU hm];exact s'
def T17 (r:Rep h j N p n)(hB:Ext h j)(d3:KeysOk (2^40) p.kept)(_hno:aE p.subs I=none):
 ∃h' m,CI D 24 [aA (N .chk),iN I] j=some (aA (m (.sb I)),h')∧m .chk=N .chk∧Rep h h' m {p with subs:=aM p.subs I (cJ p)} n∧Ext h h'∧FrameR j N p h' m {p with subs:=aM p.subs I (cJ p)}:=by
 have k2:=k.k2;obtain⟨o,M⟩:=eX (j.push (.map [] 0));obtain⟨q,O⟩:=eX (o.push (.map [] 0));obtain⟨h3,P⟩:=eX (q.push (.map [] 0));have n1:o.next=j.next+1:=by rw[M];rfl
 have n2:q.next=o.next+1:=by rw[O];rfl
 have n3:h3.next=q.next+1:=by rw[P];rfl
 have e1:A.zL j=some (aV j.next,o):=by rw[M];rfl
 have e2:A.zL o=some (aV o.next,q):=by rw[O];rfl
 have e3:A.zL q=some (aV q.next,h3):=by rw[P];rfl
 have x1:Ext j o:=by rw[M];exact Ext.push j _
 have x2:Ext o q:=by rw[O];exact Ext.push o _
 have x3:Ext q h3:=by rw[P];exact Ext.push q _
 obtain⟨cs,W⟩:=eX ([str [],.bool false,.bool false,.pointer none,aV j.next,aV o.next,aV q.next,str [],.bool false]);have e4:A.zI TaI.Z100L [(4,1,aV j.next),(5,1,aV o.next),(6,1,aV q.next)]=some (.agg ⟨cs⟩):=by rw[W];rfl
 obtain⟨h4,Q⟩:=eX (h3.push (.cells cs (some 0)));have e5:A.box 9 (.agg ⟨cs⟩) h3=some (aA h3.next,h4):=by rw[Q,W];rfl
 have V:Ext h3 h4:=by rw[Q];exact Ext.push h3 _
 have n4:h4.next=h3.next+1:=by rw[Q];rfl
 have b3:=x1.trans (x2.trans (x3.trans V));have m1:MapR o j.next cC ([]:kC (Bs×kA)):=by rw[M];exact MapR.made j cC
 have m2:MapR q o.next cC ([]:kC (Bs×kA)):=by rw[O];exact MapR.made o cC
 have m3:MapR h3 q.next cC ([]:kC (Bs×kA)):=by rw[P];exact MapR.made q cC
 have s4:BegI j h4 h3.next j.next o.next q.next (fun _=>0) (fun _=>eJ) {}:={
  ext:=b3
  eq:=rfl
  past:=m1.congr (by rw[V.get _ (by omega),x3.get _ (by omega),x2.get _ (by omega)])
  still:=m2.congr (by rw[V.get _ (by omega),x3.get _ (by omega)])
  got:=m3.congr (by rw[V.get _ (by omega)])
  cell:=by rw[Q,H.get_push,kM rfl,W]
  msgs:=fun t B R=>by cases R
  inj:=fun t t' B X R=>by cases R
  names:=by omega
  ones:=fun t B R=>by cases R}
 have r4:=r.ext hB.next b3;have k3:=hB.trans b3;have c0:=ld k2 (r4.ok .chk) 0 rfl;obtain⟨h5,v,j3,sv,x5,p3,fv⟩:=T25 k r4 k3 d3;have s5:=s4.but x5;have ln:A.zE v=some (iN ((gP p).length:Int)):=by have:=sv.len.1;rwa [pO]at this
 obtain⟨h6,mn,mv,e6,s⟩:=cMo k (x0:=aA (N .chk)) (x1:=iN I) (l:=gP p) (v:=v) p3 (fun x0 x1 x5 j=>bGt j x0 x1 x5 fun V j=>some (V,j)) (L:=(gP p).length+1) (gP p).length 0 ((gP p).length+1) h5 _ _ _ (by omega) (by omega) s5 sv fun i3 hj=>by have:=fv i3 hj;omega
 rw[mI]at s;have o3:fN {} (gP p)=cJ p:=rfl;rw[o3]at s;obtain⟨b,hb⟩:=eX (cJ p);rw[←hb]at s⊢;have r6:=r.ext hB.next s.ext;have c2:=ld k2 (r6.ok .chk) 2 rfl;obtain⟨h7,u7,m7,a7⟩:=cEi (r6.ok .subs) I (aA h3.next);have g3:=r.lt .subs trivial;obtain⟨m,a⟩:∃m,m=nmO N I (fO h3.next 0 0 j.next o.next q.next mn):=⟨_,rfl⟩;have q1:m (.sb I)=h3.next:=by rw[a,aCl (.sb I) (show I=I from rfl)];rfl
 have q2:m (.past I)=j.next:=by rw[a,aCl (.past I) (show I=I from rfl)];rfl
 have q3:m (.still I)=o.next:=by rw[a,aCl (.still I) (show I=I from rfl)];rfl
 have q4:m (.got I)=q.next:=by rw[a,aCl (.got I) (show I=I from rfl)];rfl
 have q5:∀t,m (.msgs I t)=mn t:=fun t=>by rw[a,aCl (.msgs I t) (show I=I from rfl)];rfl
 have w:aE (aM p.subs I b) I=some b:=by rw[aC,kM rfl]
 have K:b.done=false:=sX Sb.done s.eq;have Y:∀i3,i3≠N .subs→h7.get i3=h6.get i3:=a7.2;have n7:h7.next=h6.next:=a7.1;have J:∀C,atO I C→live {p with subs:=aM p.subs I b} m C→C=.sb I∨C=.past I∨C=.still I∨C=.got I∨∃t B,C=.msgs I t∧aE b.past t=some B:=fun C u z=>by
  rcases nC u with rfl|rfl|rfl|rfl|rfl|rfl|⟨t,rfl⟩
  ·simp
  ·obtain⟨x,U,G⟩:=z;rw[w]at U;cases U;rw[K]at G;cases G
  ·obtain⟨⟨x,U,G⟩,_⟩:=z;rw[w]at U;cases U;rw[K]at G;cases G
  ·simp
  ·simp
  ·simp
  ·obtain⟨x,B,U,hm⟩:=z;rw[w]at U;cases U;exact .inr (.inr (.inr (.inr ⟨t,B,rfl,hm⟩)))
 have nn:=s.names;have E:∀C,atO I C→live {p with subs:=aM p.subs I b} m C→j.next≤m C∧m C<h7.next:=fun C u z=>by
  rcases J C u z with rfl|rfl|rfl|rfl|⟨t,B,rfl,hm⟩
  ·rw[q1];omega
  ·rw[q2];omega
  ·rw[q3];omega
  ·rw[q4];omega
  ·rw[q5];obtain⟨_,_,a3,a4⟩:=s.msgs t B hm;omega
 refine⟨h7,m,?_,by rw[a];exact aBh _ id,?_,a7.ext (hB.trans s.ext) g3.1,fun i3 hj hn=>by rw[Y i3 fun e=>hn .subs trivial e.symm];exact s.ext.get i3 hj,wK (fun d K=>by rw[aC,kL (mV K)]) (fun C u=>by rw[a];exact aBh C u) (fun C u z=>.inr (E C u z).1),by omega⟩
 ·rw[q1];refine cDl ((gP p).length+1) _ _ j (k2.no 24 _ _ (by decide)) ?_;have e6:aSp (CI D) _ (fun x0 x1 x5 j=>bGt j x0 x1 x5 fun V j=>some (V,j)) _ (iN ((gP p).length:Int)) (iN 0) v (aA (N .chk)) (iN I) (aA h3.next) h5=_:=e6;simp only[F24,bKf,cGv,bSo,cGu,qS,e1,e2,e3,e4,e5,sR,c0,j3,ln,e6];simp only[bGt,qS,c2,u7]
 ·refine r.sub1 hB.next (by omega) (fun d K=>by rw[aC,kL (mV K)]) (fun C u=>by rw[a];exact aBh C u) True (fun C z u R=>?_) (fun j=>dC trivial j) (fun _=>?_) (fun y hy=>?_) (fun C u z=>.inr ?_) (fun C C' u l3 z s3 _ he=>?_)
  ·rw[Y _ fun e=>R trivial (r.inj _ _ z trivial e)];exact s.ext.get _ (r.lt C z).2
  ·have:=jZ (a:=b) (f:=fun d=>aA (N (.sb d))) (g:=fun d=>aA (m (.sb d))) (c:=I) (fun d K=>by rw[a,aBh (.sb d) K]) r.keysU;rw[q1]at this;rw[←this];exact m7
  ·rw[w]at hy;cases hy;refine⟨?_,fun j=>dC (K.symm.trans j) (by simp),⟨mv,?_,fun t B R=>?_⟩,?_,?_⟩
   ·rw[q1,Y _ (by omega),s.cell];simp only[vG,q2,q3,q4,K,show b.client=[]from sX Sb.client s.eq,show b.open_=false from sX Sb.open_ s.eq,show b.last=[]from sX Sb.last s.eq,show b.some_=false from sX Sb.some_ s.eq,pP,mD]
   ·rw[q2];exact s.past.congr (Y _ (by omega))
   ·obtain⟨a1,a2,a3,a4⟩:=s.msgs t B R;exact⟨a1.but (S:=fun _=>False) (by omega) fun i hi=>by rw[a2]at hi;cases hi;exact Y _ (by omega),by rw[q5];exact a2⟩
   ·rw[q3];exact s.still.congr (Y _ (by omega))
   ·rw[q4,show b.got=[]from sX Sb.got s.eq];exact s.got.congr (Y _ (by omega))
  ·exact E C u z
  ·rcases J C u z with rfl|rfl|rfl|rfl|⟨t,B,rfl,hm⟩<;>rcases J C' l3 s3 with rfl|rfl|rfl|rfl|⟨t',X,rfl,f3⟩<;>simp only[q1,q2,q3,q4,q5]at he
   any_goals rfl
   any_goals omega
   any_goals (obtain⟨_,_,a3,a4⟩:=s.msgs t B hm;omega)
   any_goals (obtain⟨_,_,a3,a4⟩:=s.msgs t' X f3;omega)
   rw[s.inj t t' B X hm f3 he]
end
structure InvS (K:Nat)(s:St):Prop where
 opn:Inv s
 past:∀o b t ms,aE s.subs o=some b→aE b.past t=some ms→ms.length≤K
 kept:KeysOk K s.kept
 seats:s.seats.length≤K
def bLj (a b:kC kG):(decide (a<b)||decide (a=b))=decide (a≤b):=by
 rw[mR];simp only[tI,pW];exact List.le_iff_lt_or_eq.symm
def aBi (a b:kC kG):Op.bytesLess a b=decide (a<b):=by
 induction a generalizing b with
 |nil=>cases b<;>simp[Op.bytesLess]
 |cons x a i=>
  cases b with
  |nil=>simp[Op.bytesLess]
  |cons y b=>
   rw[Op.bytesLess,i b,mR];simp only[tI,pA,pW,beq_iff_eq,List.cons_lt_cons_iff]
def cMq (a b:kC kG):A.z prog .leq 9 (str a) (str b)=some (.bool (decide (a≤b))):=by
 show some (Value.bool (Op.bytesLess a b||a==b))=_;rw[aBi,eqB,bLj]
def bEs (m k:Msg):A.z prog .eql 30 (.agg ⟨aG m⟩) (.agg ⟨aG k⟩)=some (.bool (decide (m=k))):=by
 obtain⟨a,b,c,d⟩:=m;obtain⟨i,j,f,g⟩:=k;have e:A.z prog .eql 30 (.agg ⟨[.string ⟨⟨a⟩⟩,.string ⟨⟨b⟩⟩,iU (c:Int),.bool d]⟩) (.agg ⟨[.string ⟨⟨i⟩⟩,.string ⟨⟨j⟩⟩,iU (f:Int),.bool g]⟩)=
  (match(bif (a==i)then bif (b==j)then bif ((c:Int)==(f:Int))then bif (d==g)then some true else some false else some false else some false else some false)with|some r=>some (.bool r)|none=>none):=by kernel_rfl
 refine e.trans ?_;rw[eqB,eqB];have s:decide ((⟨a,b,c,d⟩:Msg)=⟨i,j,f,g⟩)=(decide (a=i)&&(decide (b=j)&&(decide (c=f)&&decide (d=g)))):=by
  by_cases l:a=i<;>by_cases n:b=j<;>by_cases h3:c=f<;>by_cases o:d=g<;>simp[l,n,h3,o]
 have p:((c:Int)==(f:Int))=decide (c=f):=by
  by_cases h:c=f
  ·subst h;simp
  ·rw[kO h,mY];omega
 have q:(d==g)=decide (d=g):=by cases d<;>cases g<;>rfl
 rw[s,p,q];cases decide (a=i)<;>cases decide (b=j)<;>cases decide (c=f)<;>cases decide (d=g)<;>rfl
section
variable {D:CF}{Z:H}{fil nam:Bs→Bool}(k:K3 D Z fil nam tak)
include k
def T33 {q:Nat}{j:cD}(o:h.get n=some (.cells (bU e v j) (some 0)))(z:h.get i=some (.cells [iU (q:Int)] (some 0)))(s:n<h.next)(C:i<h.next)(m:Msg):
 ∃p,CI D 51 [.agg ⟨aG m⟩,aA n,aA i] h=some (.bool (decide (j.msg=cK m q true)),p)∧Ext h p:=by
 have r:=k.k2;obtain⟨a,b⟩:=eX (h.push (.cells (aG m) (some 0)));have w:A.box 4 (.agg ⟨aG m⟩) h=some (aA h.next,a):=by rw[b];rfl
 have x:Ext h a:=by rw[b];exact Ext.push h _
 have y:a.get h.next=some (.cells (aG m) (some 0)):=by rw[b,H.get_push,kM rfl]
 have B:A.load true 4 (aA h.next) a=some (.agg ⟨aG m⟩):=by rw[aI,y];rfl
 have f:A.load true 4 (.pointer (some ⟨n,28,none⟩)) a=some (.agg ⟨aG j.msg⟩):=by rw[aI,x.get _ s,o];rfl
 have g:A.load false 1 (aA i) a=some (iU (q:Int)):=by rw[qK,x.get _ C,z];rfl
 obtain⟨d,c,t⟩:=T31 r (h:=a) m q true;have l:A.load true 4 (.pointer (some ⟨n,28,none⟩)) d=some (.agg ⟨aG j.msg⟩):=by rw[aI,t.get _ (by have:=x.next;omega),x.get _ s,o];rfl
 have u:AM.chk (bnd (A.load true 4 (.pointer (some ⟨n,28,none⟩)) d) fun v=>some v) (.agg ⟨aG j.msg⟩)=true:=eG (by rw[l];rfl) (aIn j.msg);refine⟨d,cCs 0 _ _ _ h (r.no 51 _ _ (by decide)) ?_,x.trans t⟩;simp only[F51,bTr,w,qS,sR,f,B,g,c,u,dB,bEs]
def cMe {q:Nat}(O:K.length≤2^40)(o:Pk.K1 (kA×H))(p:Pk.K0 (kA×H)):
 ∀(d b m:Nat) (h:H),b+d=K.length→d<m→h.get n=some (.cells (bU e v J) (some 0))→h.get i=some (.cells [iU (q:Int)] (some 0))→n<h.next→i<h.next→SliceE 4 h x (K.map aG)→
  ∃f,Ext h f∧((((K.drop b).any fun m=>decide (J.msg=cK m q true))=false∧aHv (CI D) L o p m (iN (K.length:Int)) (iN (b:Int)) x (.func (.func 51) ⟨[]⟩ ⟨[aA n,aA i]⟩) h=p f)∨
   (((K.drop b).any fun m=>decide (J.msg=cK m q true))=true∧∃j:Nat,aHv (CI D) L o p m (iN (K.length:Int)) (iN (b:Int)) x (.func (.func 51) ⟨[]⟩ ⟨[aA n,aA i]⟩) h=o (iN (j:Int)) f)):=by
 intro d
 induction d with
 |zero=>
  intro b m h M N _ _ _ _ _;obtain⟨m,rfl⟩:=pS m (by omega);have g:decide ((b:Int)<(K.length:Int))=false:=kO (by omega);refine⟨h,Ext.refl h,.inl ⟨by rw[pZ (by omega)];rfl,?_⟩⟩;simp only[aHv,aVz,zZ,g,qS]
 |succ d P=>
  intro b m h M N w B t u I;obtain⟨m,rfl⟩:=pS m (by omega);have g:decide ((b:Int)<(K.length:Int))=true:=kN (by omega);obtain⟨y,G⟩:∃y,K[b]?=some y:=⟨_,kZ (by omega)⟩;obtain⟨Q,S,l,s⟩:=aVm k I G;obtain⟨C,a,c⟩:=T33 k w B t u y;have a:callM prog (CI D) (.func (.func 51) ⟨[]⟩ ⟨[aA n,aA i]⟩) [.agg ⟨aG y⟩] h=_:=a;have w2:A.z prog .add 3 (iN (b:Int)) (iN 1)=some (iN ((b+1:Nat):Int)):=by rw[bC,aQ (by omega)]
  rw[show K.drop b=y::K.drop (b+1)from aU G,dP]
  cases E:decide (J.msg=cK y q true)with
  |true=>
   rw[E]at a;refine⟨C,c,.inr ⟨rfl,b,?_⟩⟩;simp only[aHv,aVz,zZ,g,qS,l,s,a]
  |false=>
   rw[E]at a;obtain⟨f,R,r⟩:=P (b+1) m C (by omega) (by omega) (by rw[c.get _ t];exact w) (by rw[c.get _ u];exact B) (kT t c.next) (kT u c.next) (I.ext c);refine⟨f,c.trans R,?_⟩;rw[mZ];rcases r with⟨r1,r2⟩|⟨r1,j,r2⟩
   ·exact .inl ⟨r1,by simp only[aHv,aVz,zZ,g,qS,l,s,a,w2,r2]⟩
   ·exact .inr ⟨r1,j,by simp only[aHv,aVz,zZ,g,qS,l,s,a,w2,r2]⟩
def T34 {q:Nat}{y:cD}(d:K.length≤2^40)(o:h.get n=some (.cells (bU e v y) (some 0)))(p:h.get i=some (.cells [iU (q:Int)] (some 0)))(t:n<h.next)(u:i<h.next)(s:SliceE 4 h x (K.map aG)):
 ∃c,CI D 52 [x,.func (.func 51) ⟨[]⟩ ⟨[aA n,aA i]⟩] h=some (.bool (K.any fun m=>decide (y.msg=cK m q true)),c)∧Ext h c:=by
 have f:=k.k2;have l:A.zE x=some (iN (K.length:Int)):=by have:=s.len.1;rwa [pO]at this
 obtain⟨c,w,r⟩:=cMe k (L:=K.length+1) d (fun a h=>some (a,h)) (fun h=>bAz h fun a h=>some (a,h)) K.length 0 (K.length+1) h (by omega) (by omega) o p t u s;rw[mI]at r;refine⟨c,cCr 0 _ _ h (f.no 52 _ _ (by decide)) ?_,w⟩;rcases r with⟨r1,r2⟩|⟨r1,j,r2⟩
 ·have r2:aHv (CI D) _ (fun a h=>some (a,h)) (fun h=>bAz h fun a h=>some (a,h)) _ (iN (K.length:Int)) (iN 0) x _ h=_:=r2;have b:CI D 73 [x,.func (.func 51) ⟨[]⟩ ⟨[aA n,aA i]⟩] h=some (iN (-1),c):=bEy (K.length+1) _ _ h (f.no 73 _ _ (by decide)) (by
   simp only[F73,bDu,bOh,bIj,bOg,l,qS,r2];simp only[bAz])
  rw[r1];simp only[F52,bJu,b,qS,bF];rfl
 ·have r2:aHv (CI D) _ (fun a h=>some (a,h)) (fun h=>bAz h fun a h=>some (a,h)) _ (iN (K.length:Int)) (iN 0) x _ h=_:=r2;have b:CI D 73 [x,.func (.func 51) ⟨[]⟩ ⟨[aA n,aA i]⟩] h=some (iN (j:Int),c):=bEy (K.length+1) _ _ h (f.no 73 _ _ (by decide)) (by
   simp only[F73,bDu,bOh,bIj,bOg,l,qS,r2])
  rw[r1];have g:decide ((0:Int)≤(j:Int))=true:=kN (by omega);simp only[F52,bJu,b,qS,bF,g]
def T22 (hT:HasT Z h)(p3:3≤h.next)(r:Rep h j N p n)(hB:Ext h j)(q3:InvS i p)(hK:i≤2^40)(e:Nat→kA)(v:kA)(c:cD):
 ∃h' v',CI D 29 [aA (N .chk),eF e v c] j=some (v',h')∧iE h (N .chk) n j (eQ tak p c) v' h':=by
 have o:=k.k2;obtain⟨U,X⟩:=eX (j.push (.cells (bU e v c) (some 0)));have e1:A.box 35 (eF e v c) j=some (aA j.next,U):=by rw[X];rfl
 have x1:Ext j U:=by rw[X];exact Ext.push j _
 have n1:U.next=j.next+1:=by rw[X];rfl
 have g1:U.get j.next=some (.cells (bU e v c) (some 0)):=by rw[X,H.get_push,kM rfl]
 have r1:=r.ext hB.next x1;have o3:=hB.trans x1;have c2:=ld o (r1.ok .chk) 2 rfl;have G:=ld o g1 1 rfl;have i3:=ld o g1 3 rfl;have Q:=ld o g1 28 rfl;have s:=aRh r1 c.op;have q:=fun L v' h'=>cDk L (aA (N .chk)) (eF e v c) j (r:=(v',h')) (o.no 29 _ _ (by decide));have w:∀{y:H},Ext j y→eQ tak p c=(false,p)→iE h (N .chk) n j (eQ tak p c) (.bool false) y:=fun x he=>⟨by rw[he],⟨N,rfl,by rw[he];exact r.ext hB.next x⟩,hB.trans x,x.next⟩
 cases d:aE p.subs c.op with
 |none=>
  rw[d]at s;have n0:A.z prog .eql 63 (.pointer none) (.pointer none)=some (.bool true):=by kernel_rfl
  refine⟨U,.bool false,q 0 _ _ ?_,w x1 (by simp only[eQ,d])⟩;simp only[F29,aNa,aRx,aTb,aRw,aRv,e1,qS,sR,c2,G,show TaI.Z63=.pointer none from rfl,s,dV,jJ,n0]
 |some b=>
  rw[d]at s;have n0:=aCt (t:=63) (by kernel_rfl) (N (.sb c.op));have gb:=r1.ok (.sb c.op) b d;have b2:=ld o gb 2 rfl;have b0:=ld o gb 0 rfl;have b8:=ld o gb 8 rfl;have b7:=ld o gb 7 rfl;have B:A.z prog .neq 9 (str c.client) (str b.client)=_:=gZ c.client b.client;have S:=cMq c.msg.topic b.last;have first:(b.open_=false∨c.client≠b.client∨(b.some_=true∧c.msg.topic≤b.last))→∃h' v',CI D 29 [aA (N .chk),eF e v c] j=some (v',h')∧iE h (N .chk) n j (eQ tak p c) v' h':=fun K=>by
   refine⟨U,.bool false,q 0 _ _ ?_,w x1 (by simp only[eQ,d,kM K])⟩
   cases ho:b.open_ with
   |false=>
    rw[ho]at b2;simp only[F29,aNa,aRx,aTb,aRw,aRv,e1,qS,sR,c2,G,show TaI.Z63=.pointer none from rfl,s,mA,jJ,n0,b2]
   |true=>
    rw[ho]at b2;by_cases M:c.client=b.client
    ·rw[kN M]at B;have hs:b.some_=true∧c.msg.topic≤b.last:=by
      rcases K with j|j|j
      ·rw[ho]at j;cases j
      ·exact dC M j
      ·exact j
     rw[hs.1]at b8;rw[kN hs.2]at S;simp only[F29,aNa,aRx,aTb,aRw,aRv,e1,qS,sR,sS,c2,G,show TaI.Z63=.pointer none from rfl,s,mA,jJ,n0,b2,i3,b0,B,b8,Q,b7,S]
    ·rw[kO M]at B;simp only[F29,aNa,aRx,aTb,aRw,aRv,e1,qS,sR,c2,G,show TaI.Z63=.pointer none from rfl,s,mA,jJ,n0,b2,i3,b0,B]
  by_cases K:(b.open_=false∨c.client≠b.client∨(b.some_=true∧c.msg.topic≤b.last))
  ·exact first K
  have ho:b.open_=true:=by cases j:b.open_ with|true=>rfl|false=>exact dC (.inl j) K
  have M:c.client=b.client:=Classical.byContradiction fun j=>K (.inr (.inl j));have b4:¬(b.some_=true∧c.msg.topic≤b.last):=fun j=>K (.inr (.inr j));rw[ho]at b2;rw[kN M]at B;have hd:=q3.opn c.op b d ho;have b3:A.load false 1 (.pointer (some ⟨N (.sb c.op),3,none⟩)) U=some (aA (N (.flst c.op))):=ld o gb 3 (by simp[vG,hd]);obtain⟨z3,vv,lr,_⟩:=r1.ok (.flst c.op) b d hd;obtain⟨y,l3,x2⟩:=T32 o (hT.ext o.tab p3 o3) (kR p3 o3.next) z3 lr c.msg.topic;obtain⟨a,g⟩:=eX (cN tak b.filters c.msg.topic);rw[←g]at l3;obtain⟨h3,Y⟩:=eX (y.push (.cells TaI.Z5L (some 0)));have e3:A.box 1 TaI.Z5 y=some (aA y.next,h3):=by rw[Y];rfl
  have g3:h3.get y.next=some (.cells TaI.Z5L (some 0)):=by rw[Y,H.get_push,kM rfl]
  obtain⟨R,a3⟩:=eX (h3.put y.next (.cells [iU (a.1:Int)] (some 0)));have e4:A.store 1 (aA y.next) (iU (a.1:Int)) h3=some R:=by rw[qU,g3,a3];rfl
  have g4:R.get y.next=some (.cells [iU (a.1:Int)] (some 0)):=by rw[a3,H.get_put,kM rfl]
  have j4:Ext y R:=by rw[a3,Y];exact Ext.put (Ext.push y _) _ _ (kQ _)
  have n4:R.next=y.next+1:=by rw[a3,Y];rfl
  have s3:=x2.trans j4;have x4:=x1.trans s3;have m4:=x2.next;have r4:=r.ext hB.next x4;have J:R.get j.next=some (.cells (bU e v c) (some 0)):=by rw[s3.get _ (by omega)];exact g1
  have P:=ld o J 34 rfl;have O:=ld o J 30 rfl;have k3:=ld o J 28 rfl;have u3:=r4.ok (.sb c.op) b d;have f4:=ld o u3 4 rfl;have t0:A.u 0 (.tuple ⟨[iU (a.1:Int),.bool a.2]⟩)=some (iU (a.1:Int)):=rfl;have t1:A.u 1 (.tuple ⟨[iU (a.1:Int),.bool a.2]⟩)=some (.bool a.2):=rfl;have f:∀L,F29 (CI D) L (aA (N .chk)) (eF e v c) j=aXn (CI D) R (aA j.next) (aA (N (.sb c.op))) (.bool a.2) (.func (.func 51) ⟨[]⟩ ⟨[aA j.next,aA y.next]⟩) (fun x4 j=>some (x4,j)) (fun x3 x5 j=>bPm j x3 x5 fun x5 j=>bPl j x5 fun x4 j=>some (x4,j)):=fun L=>by
   cases hs:b.some_ with
   |false=>
    rw[hs]at b8;simp only[F29,aNa,aRx,aTb,aRw,aRv,bPn,e1,qS,sR,sS,c2,G,show TaI.Z63=.pointer none from rfl,s,mA,jJ,n0,b2,i3,b0,B,b8,b3,Q,l3,t0,t1,e3,e4]
   |true=>
    rw[hs]at b8;have hle:¬c.msg.topic≤b.last:=fun j=>b4 ⟨hs,j⟩;rw[kO hle]at S;simp only[F29,aNa,aRx,aTb,aRw,aRv,bPn,e1,qS,sR,sS,c2,G,show TaI.Z63=.pointer none from rfl,s,mA,jJ,n0,b2,i3,b0,B,b8,Q,b7,S,b3,l3,t0,t1,e3,e4]
  cases W:a.2 with
  |false=>
   rw[W]at f;refine⟨R,.bool false,q 0 _ _ ?_,w x4 ?_⟩
   ·rw[f];simp only[aXn,bBu,bBt,qS]
   ·simp only[eQ,d,kL K,←g,W,true_or,mE]
  |true=>
   rw[W]at f;by_cases hq:c.qos=c.msg.qos
   case neg=>
    have dq:decide ((c.qos:Int)=(c.msg.qos:Int))=false:=kO (by omega);refine⟨R,.bool false,q 0 _ _ ?_,w x4 ?_⟩
    ·rw[f];simp only[aXn,bBu,bBt,qS,P,sS,O,bA,dq]
    ·simp only[eQ,d,kL K,←g,kM (show a.2=false∨c.qos≠c.msg.qos∨_ from .inr (.inl hq))]
   have dq:decide ((c.qos:Int)=(c.msg.qos:Int))=true:=kN (by omega);obtain⟨mv,mp,a4⟩:=r4.ok (.past c.op) b d;have lk:=aEk mp TaI.Z90 false c.msg.topic;rw[lE (fun t (_:kC Msg)=>mv t)]at lk;obtain⟨ms,E⟩:=eX ((aE b.past c.msg.topic).getD []);obtain⟨x0,lk,sx,hl⟩:∃x0,A.zJ true TaI.Z90 false (str c.msg.topic) (aV (N (.past c.op))) R=some x0∧SliceE 4 R x0 (ms.map aG)∧ms.length≤2^40:=by
    cases hp:aE b.past c.msg.topic with
    |none=>
     rw[hp]at lk E;exact⟨eJ,lk,by rw[E];exact⟨by simp,.inl ⟨rfl,rfl⟩⟩,by rw[E];simp⟩
    |some l=>
     rw[hp]at lk E;exact⟨mv c.msg.topic,lk,by rw[E];exact(a4 _ _ hp).1.slice,by rw[E];exact kR (q3.past _ _ _ _ d hp) hK⟩
   obtain⟨h5,I,x5⟩:=T34 k (q:=a.1) hl J g4 (by omega) (by omega) sx;have j3:=x4.trans x5;rw[E]at I
   cases V:((aE b.past c.msg.topic).getD []).any fun m=>decide (c.msg=cK m a.1 true)with
   |false=>
    rw[V]at I;refine⟨h5,.bool false,q 0 _ _ ?_,w j3 ?_⟩
    ·rw[f];simp only[aXn,bBu,bBt,qS,P,sS,O,bA,dq,f4,k3,lk,I]
    ·simp only[eQ,d,kL K,←g,V,or_true,mE]
   |true=>
    rw[V]at I;have r5:=r.ext hB.next j3;have m3:=hB.trans j3;have y3:h5.get j.next=some (.cells (bU e v c) (some 0)):=by rw[x5.get _ (by omega)];exact J
    have d4:=ld o y3 28 rfl;have v3:=r5.ok (.sb c.op) b d;have l4:=r5.lt (.sb c.op) ⟨b,d⟩;have k4:=r5.lt (.got c.op) ⟨b,d⟩;obtain⟨h6,d3⟩:∃h6,h6=h5.put (N (.sb c.op)) (.cells (vG N c.op {b with last:=c.msg.topic}) (some 0)):=⟨_,rfl⟩;have e6:A.store 1 (.pointer (some ⟨N (.sb c.op),7,none⟩)) (str c.msg.topic) h5=some h6:=by rw[qU,v3,d3];rfl
    have g6:h6.get (N (.sb c.op))=some (.cells (vG N c.op {b with last:=c.msg.topic}) (some 0)):=by rw[d3,H.get_put,kM rfl]
    obtain⟨h7,f3⟩:∃h7,h7=h6.put (N (.sb c.op)) (.cells (vG N c.op {b with last:=c.msg.topic,some_:=true}) (some 0)):=⟨_,rfl⟩;have e7:A.store 1 (.pointer (some ⟨N (.sb c.op),8,none⟩)) (.bool true) h6=some h7:=by rw[qU,g6,f3];rfl
    have g7:h7.get (N (.sb c.op))=some (.cells (vG N c.op {b with last:=c.msg.topic,some_:=true}) (some 0)):=by rw[f3,H.get_put,kM rfl]
    have f6:=ld o g7 6 rfl;have f7:=ld o g7 7 rfl;have ne:N (.got c.op)≠N (.sb c.op):=fun e=>by have:=r5.inj (.got c.op) (.sb c.op) ⟨b,d⟩ ⟨b,d⟩ e;cases this
    have o7:∀n3,n3≠N (.sb c.op)→h7.get n3=h5.get n3:=fun n3 hj=>by rw[f3,H.get_put,kL hj,d3,H.get_put,kL hj]
    have t3:A.zI TaI.Z103L []=some fU:=rfl;obtain⟨h8,i4,m8,a8⟩:=aPy ((r5.ok (.got c.op) b d).congr (o7 _ ne)) c.msg.topic fU;rw[nA]at m8;have n8:h8.next=h5.next:=by rw[a8.1,f3,d3];rfl
    have o8:∀n3,n3≠N (.sb c.op)→n3≠N (.got c.op)→h8.get n3=h5.get n3:=fun n3 U y=>by rw[a8.2 _ y,o7 _ U]
    have sv:eQ tak p c=(true,{p with subs:=aM p.subs c.op {b with last:=c.msg.topic,some_:=true,got:=lH b.got c.msg.topic}}):=by
     have:¬(a.2=false∨c.qos≠c.msg.qos∨(((aE b.past c.msg.topic).getD []).any fun m=>decide (c.msg=cK m a.1 true))=false):=by
      rintro(j|j|j)
      ·rw[W]at j;cases j
      ·exact j hq
      ·rw[V]at j;cases j
     simp only[eQ,d,kL K,←g,kL this]
    refine⟨h8,.bool true,q 0 _ _ ?_,by rw[sv],⟨N,rfl,?_⟩,⟨by rw[n8];exact m3.next,fun n3 hj=>by rw[o8 n3 (by omega) (by omega)];exact m3.get n3 hj⟩,by rw[n8];exact j3.next⟩
    ·rw[f];simp only[aXn,bBu,bBt,bPm,bPl,qS,P,sS,sR,O,bA,dq,f4,k3,lk,I,d4,e6,e7,f6,f7,t3,i4]
    ·rw[sv];refine r5.sub m3.next d (by rw[n8];exact kQ _) (fun C=>C=.sb c.op∨C=.got c.op) (fun C j=>j) (fun C hl hn=>o8 _ (fun e=>hn (.inl (r5.inj _ _ hl ⟨b,d⟩ e))) fun e=>hn (.inr (r5.inj _ _ hl ⟨b,d⟩ e))) ⟨rfl,rfl,rfl,rfl⟩ (fun j=>dC (.inl rfl) j) (fun j=>dC (.inr rfl) j) (fun _=>?_) (fun _=>m8);rw[a8.2 _ (mV ne),g7];rfl
end
def eE {Y X:Type}[DecidableEq Y](f:Y×X→X)(o:Y):∀l:kC (Y×X),aE (l.map fun x=>(x.1,f x)) o=(aE l o).map fun p=>f (o,p)
 |[]=>rfl
 |(k,a)::r=>by
  simp only[mH,aE];split
  ·rename_i e;subst e;rfl
  ·exact eE f o r
def wM {Y X:Type}[DecidableEq Y]{f g:Y×X→X}{o:Y}{v:X}:∀{l:kC (Y×X)},(l.map (·.1)).Nodup→(∃x∈l,x.1=o)→(∀x∈l,x.1≠o→f x=g x)→(∀x∈l,x.1=o→g x=v)→aM (l.map fun x=>(x.1,f x)) o v=l.map fun x=>(x.1,g x)
 |[],_,h,_,_=>by obtain⟨_,h,_⟩:=h;cases h
 |(k,a)::r,hn,b,h1,h2=>by
  simp only[mH,tW]at hn;simp only[mH,aM];by_cases e:k=o
  ·rw[kM e,h2 (k,a) mO e];congr 1;exact List.map_congr_left fun x b=>by rw[h1 x (mL _ b) fun d=>hn.1 (by rw[e,←d];exact mN (f:=(·.1)) b)]
  ·rw[kL e,h1 (k,a) mO e];congr 1;refine wM hn.2 ?_ (fun x b=>h1 x (mL _ b)) fun x b=>h2 x (mL _ b);obtain⟨x,b,c⟩:=b;rcases sI.1 b with rfl|b
   ·exact dC c e
   ·exact⟨x,b,c⟩
def stp (tak:Bs→Bs→Bool)(s:St)(c:Bs)(sk:kC Int):St:={s with pubs:=s.pubs.map fun x=>(x.1,if x.1∈sk then fJ tak s c x.2 else x.2)}
def aZe (tak:Bs→Bs→Bool)(s:St)(c:Bs):stp tak s c []=s:=by
 unfold stp;have:(s.pubs.map fun x=>(x.1,if x.1∈([]:kC Int)then fJ tak s c x.2 else x.2))=s.pubs:=by
  conv=>rhs;rw[←List.map_id s.pubs]
  exact List.map_congr_left fun x _=>by simp
 rw[this]
def aZf {s:kC Int}{b:Pub}(a:aE p.pubs o=some b)(h:o∉s):aE (stp tak p c s).pubs o=some b:=by
 have:=eE (fun x:Int×Pub=>if x.1∈s then fJ tak p c x.2 else x.2) o p.pubs
 rw[a]at this;exact this.trans (by simp[h])
def aTr {i:Pub}(a:(p.pubs.map (·.1)).Nodup)(b:aE p.pubs o=some i):{stp tak p c sk with pubs:=aM (stp tak p c sk).pubs o (fJ tak p c i)}=stp tak p c (sk++[o]):=by
 have:=wM (f:=fun x:Int×Pub=>if x.1∈sk then fJ tak p c x.2 else x.2) (g:=fun x:Int×Pub=>if x.1∈sk++[o]then fJ tak p c x.2 else x.2) (o:=o) (v:=fJ tak p c i) a ⟨(o,i),aBq b,rfl⟩ (fun x d h=>by simp[h]) (fun x d e=>by
  obtain⟨k,y⟩:=x;simp only at e;subst e;have:=dZ a d;rw[b]at this;cases this;simp)
 simp only[stp,this]
def aNv (h:∀x∈p.pubs,x.1∈sk):stp t p B sk={p with pubs:=p.pubs.map fun x=>(x.1,fJ t p B x.2)}:=by
 unfold stp;have:(p.pubs.map fun x=>(x.1,if x.1∈sk then fJ t p B x.2 else x.2))=p.pubs.map fun x=>(x.1,fJ t p B x.2):=List.map_congr_left fun x a=>by rw[kM (h x a)]
 rw[this]
def aIf {s:kC Int}(C:Col):live (stp t p B s) N C↔live p N C:=by
 have:∀o,(∃x,aE (stp t p B s).pubs o=some x)↔∃x,aE p.pubs o=some x:=fun o=>by
  have:=eE (fun x:Int×Pub=>if x.1∈s then fJ t p B x.2 else x.2) o p.pubs
  have e:aE (stp t p B s).pubs o=_:=this;rw[e];cases aE p.pubs o<;>simp
 cases C<;>first|exact Iff.rfl|exact this _
section
variable {D:CF}{Y:H}{fil nam:Bs→Bool}(Z:K3 D Y fil nam tak){B:H}{a:Nat}{dm:Pw.Dm}{rl:Pw.Rl}
include Z
def bUy (hT:HasT Y B)(p3:3≤B.next)(r:Rep B h N p a)(hB:Ext B h){d:cD}(s3:∀C,live p N C→N C≠n)(b4:n<i)(y3:h.next≤i)(kx:Pk.K3 Unit)(k1:∀j,Rep B j N {p with pubs:=p.pubs.map fun S=>(S.1,fJ tak p d.client S.2)} a→Ext B j→j.get n=some (.cells (bU e v d) (some 0))→h.next≤j.next→i<j.next→kx (aA (N .chk)) (aA n) x j=some ()){l:Nat}{k:Nat}(hm:p.pubs.length<k)(i0:ItK j i (N .pubs) rF (p.pubs.map fun S=>(S.1,aA (N (.pub S.1)))) [])(x0:Ext h j)(g0:j.get n=some (.cells (bU e v d) (some 0)))(q3:i<j.next):
 aXj (CI D) l dm rl kx k (aA i) (aA (N .chk)) (aA n) x j=some ():=by
 have V:=Z.k2;have t3:=(r.lt .pubs trivial);have z:∀C,live p N C→N C≠i:=fun C hC e=>by have:=(r.lt C hC).2;omega
 refine nM (W:=fun d (_:Unit) u3=>aXj (CI D) l dm rl kx d (aA i) (aA (N .chk)) (aA n) x u3) (I:=fun b _ j=>Rep B j N (stp tak p d.client b) a∧Ext B j∧j.get n=some (.cells (bU e v d) (some 0))∧i<j.next∧h.next≤j.next) (by omega) (fun d p u3 J=>by simp only[aXj,bPz];exact J) ?_ ?_ p.pubs.length [] () j k List.nodup_nil (by simp) (by simp) hm i0 ⟨by rw[aZe];exact r.ext hB.next x0,hB.trans x0,g0,q3,x0.next⟩
 ·intro e4 b _ j i2 a4 y hy Q h3 U i3 e3 next
  obtain⟨r2,E,K,u,g3⟩:=i2;simp only[mW]at hy;obtain⟨⟨o,R⟩,f3,rfl⟩:=hy;have P:=dZ r.keysP f3;have Q:o∉b:=Q;have w:=aZf (tak:=tak) (c:=d.client) P Q;have lv:∀C,live (stp tak p d.client b) N C↔live p N C:=aIf;have e3:A.zT (aA i) h3=some (.tuple ⟨[iN o,aA (N (.pub o))]⟩):=e3;have r3:Rep B h3 N (stp tak p d.client b) a:=r2.frame E.next (by rw[U.1];exact kQ _) fun C hC=>U.2 _ (z C ((lv C).1 hC));have q:Ext B h3:=U.ext E (by have:=r.lt .pubs trivial;omega);have b3:h3.get n=some (.cells (bU e v d) (some 0)):=by rw[U.2 _ (by omega)];exact K
  have c0:=ld V (r3.ok .chk) 0 rfl;have k3:=ld V b3 3 rfl;have gp:=r3.ok (.pub o) R w;have p1:=ld V gp 1 rfl;obtain⟨h4,m,X⟩:=T27 V hT p3 q r3 d.client R.msg.topic;obtain⟨g,t⟩:=eX (cB tak p d.client R.msg.topic);rw[show cB tak (stp tak p d.client b) d.client R.msg.topic=g from t.symm]at m;have d4:=X.next;have j3:i<h3.next:=by rw[U.1];exact u
  have r4:=r3.ext q.next X;have M:=q.trans X;have L:h4.get n=some (.cells (bU e v d) (some 0)):=by rw[X.get _ (by omega)];exact b3
  have m3:h.next≤h4.next:=by have:=U.1;omega
  have J:fJ tak p d.client R=if g.2 then R else{R with holds:=R.holds.erase d.client}:=by rw[t];rfl
  have s:=aTr (tak:=tak) (c:=d.client) (sk:=b) r.keysP P;have i4:ItK h4 i (N .pubs) rF (p.pubs.map fun S=>(S.1,aA (N (.pub S.1)))) (b++[o]):=i3.congr (X.get _ j3) (X.get _ (by have:=(r3.lt .pubs trivial).2;omega))
  cases d3:g.2 with
  |true=>
   rw[d3]at m J;simp only[mE]at J;rw[J,iL w]at s;have nx:=next () h4 ⟨by rw[←show stp tak p d.client b=stp tak p d.client (b++[o])from s];exact r4,M,L,by omega,m3⟩ i4
   simp only[aNc,aAb,aCc,qS,bGs,bGr,bGq,e3,c0,k3,p1,sR,sS,m];exact nx
  |false=>
   rw[d3]at m J;simp only[pP,mD]at J;rw[J]at s;have o3:=r4.ok (.pub o) R w;have p7:=ld V o3 7 rfl;have l3:=ld V L 3 rfl;have lh:=r.lt (.holds o) ⟨R,P⟩;obtain⟨h5,u5,m5,G⟩:=bKk (r4.ok (.holds o) R w) d.client;rw[wR]at m5;have O:n≠N (.holds o):=fun e=>s3 (.holds o) ⟨R,P⟩ e.symm;have r5:Rep B h5 N (stp tak p d.client (b++[o])) a:=by
    rw[←s];exact r4.pub M.next w (by rw[G.1];exact kQ _) (fun C=>C=.holds o) (fun C u3=>.inr (.inl u3)) (fun C hl O=>G.2 _ fun e=>O (r4.inj _ _ hl ((lv _).2 ⟨R,P⟩) e)) (fun _=>⟨rfl,rfl,rfl,rfl⟩) (fun u3=>dC rfl u3) (fun _=>rfl) (fun e=>by cases e) (fun _=>m5) (fun e=>by cases e)
   have nx:=next () h5 ⟨r5,G.ext M lh.1,by rw[G.2 _ O];exact L,by rw[G.1];omega,by rw[G.1];exact m3⟩ (i4.congr (G.2 _ fun e=>z (.holds o) ⟨R,P⟩ e.symm) (G.2 _ fun e=>by have:=r.inj .pubs (.holds o) trivial ⟨R,P⟩ e;cases this))
   simp only[aNc,aAb,aCc,qS,bGs,bGr,bGq,e3,c0,k3,p1,sR,sS,m,p7,l3,u5];exact nx
 ·intro e4 b _ j i2 n3 v3 z3;obtain⟨r2,E,K,u,g3⟩:=i2;simp only[aYa,qS];refine k1 j ?_ E K g3 u;rw[aNv fun S hx=>n3 (S.1,aA (N (.pub S.1))) (mN (f:=fun S:Int×Pub=>(S.1,aA (N (.pub S.1)))) hx)]at r2;exact r2
end
def nmF (n:Col→Nat)(o:Int)(r:Nat):Col→Nat:=fun C=>if C=.frow o then r else n C
def aZp (C:Col)(h:C≠.frow I):nmF N I n C=N C:=kL h
def bLb (n:Col→Nat)(o:Int)(r:Nat):nmF n o r (.frow o)=r:=kM rfl
def Rep.frow {B h j:H}{N:Col→Nat}{p:St}{n:Nat}(r:Rep B h N p n)(Q:Ext B h){o:Int}{b:Sb}(c:aE p.subs o=some b)(U:b.done=true){v:kA}(lr:ListR h (N (.flst o)) v b.filters)(G:∀i,sid v=some i→i=N (.frow o)){R:Row}(lt:ListTo h (N (.flst o)) v j R)(Y:R.length≤16):
 ∃I,I .chk=N .chk∧I (.sb o)=N (.sb o)∧Rep B j I {p with subs:=aM p.subs o {b with filters:=R}} n∧Ext B j∧h.next≤j.next:=by
 obtain⟨v',M,L,J⟩:=lt;obtain⟨g,a⟩:=eX ((sid v').getD (N (.flst o)));have f:∀C,C≠.frow o→nmF N o g C=N C:=aZp;have at_:=bLb N o g;have lf:live p N (.flst o):=⟨b,c,U⟩;have lv:∀i,sid v=some i→live p N (.frow o):=fun i D=>⟨⟨b,c,U⟩,fun e=>lr.ne (by rw[D,G i D,e])⟩;have l:∀W,(W=N (.flst o)∨sid v=some W)→∃C,live p N C∧(C=.flst o∨C=.frow o)∧N C=W:=fun W E=>by
  rcases E with rfl|E
  ·exact⟨.flst o,lf,.inl rfl,rfl⟩
  ·exact⟨.frow o,lv W E,.inr rfl,(G W E).symm⟩
 have keep:∀C,live p N C→C≠.flst o→C≠.frow o→j.get (N C)=h.get (N C):=fun C s m q=>J.get _ (r.lt C s).2 fun e=>by
  obtain⟨C',K,P,g3⟩:=l _ e;have:=r.inj C' C K s g3;subst this;exact P.elim m q
 have hg:aE (aM p.subs o {b with filters:=R}) o=some {b with filters:=R}:=by rw[aC,kM rfl]
 have u:∀C,atO o C→live {p with subs:=aM p.subs o {b with filters:=R}} (nmF N o g) C→(C≠.frow o∧live p N C)∨(C=.frow o∧g≠N (.flst o)):=fun C w s=>by
  rcases nC w with rfl|rfl|rfl|rfl|rfl|rfl|⟨t,rfl⟩
  ·exact .inl ⟨by simp,b,c⟩
  ·exact .inl ⟨by simp,lf⟩
  ·exact .inr ⟨rfl,fun e=>s.2 (by rw[at_,f _ (by simp),e])⟩
  ·exact .inl ⟨by simp,b,c⟩
  ·exact .inl ⟨by simp,b,c⟩
  ·exact .inl ⟨by simp,b,c⟩
  ·obtain⟨x,X,hx,hm⟩:=s;rw[hg]at hx;cases hx;exact .inl ⟨by simp,b,X,c,hm⟩
 have z:g≠N (.flst o)→(live p N (.frow o)∧g=N (.frow o))∨(h.next≤g∧g<j.next):=fun b3=>by
  cases V:sid v' with
  |none=>rw[V]at a;exact dC a b3
  |some i=>
   rw[V]at a;have a:g=i:=a;rcases L i V with m|m
   ·exact .inl ⟨lv i m,a.trans (G i m)⟩
   ·exact .inr ⟨by rw[a];exact m,by rw[a];exact M.row.lt i V⟩
 refine⟨nmF N o g,f _ (by simp),f _ (by simp),?_,⟨kR Q.next J.next,fun W E=>?_⟩,J.next⟩
 ·refine r.sub1 Q.next J.next (fun d U=>by rw[aC,kL (mV U)]) (fun C w=>f C fun e=>w (by rw[e];exact rfl)) False (fun C s w _=>keep C s (fun e=>w (by rw[e];exact rfl)) fun e=>w (by rw[e];exact rfl)) (fun _=>⟨eS c,f _ (by simp)⟩) (fun h=>h.elim) (fun y hy=>?_) (fun C w s=>?_) (fun C C' w Z s a3 d3 he=>?_)
  ·rw[hg]at hy;cases hy;have e1:nmF N o g (.sb o)=N (.sb o):=f _ (by simp);have e2:nmF N o g (.flst o)=N (.flst o):=f _ (by simp);have e3:nmF N o g (.past o)=N (.past o):=f _ (by simp);have e4:nmF N o g (.still o)=N (.still o):=f _ (by simp);have e5:nmF N o g (.got o)=N (.got o):=f _ (by simp);have k1:=keep (.sb o) ⟨b,c⟩ (by simp) (by simp);have k2:=keep (.past o) ⟨b,c⟩ (by simp) (by simp);have k:=keep (.still o) ⟨b,c⟩ (by simp) (by simp);have k4:=keep (.got o) ⟨b,c⟩ (by simp) (by simp);refine⟨?_,fun _=>?_,?_,?_,?_⟩
   ·rw[e1,k1,r.ok (.sb o) b c];simp only[vG,e2,e3,e4,e5]
   ·rw[e2,at_];exact⟨Y,v',M,fun i D=>by rw[a,D];rfl⟩
   ·obtain⟨mv,m1,m2⟩:=r.ok (.past o) b c;refine⟨mv,by rw[e3];exact m1.congr k2,fun t X ht=>?_⟩;obtain⟨K,P⟩:=m2 t X ht;have e6:nmF N o g (.msgs o t)=N (.msgs o t):=f _ (by simp);exact⟨K.but (S:=fun _=>False) J.next fun i D=>by rw[P]at D;cases D;exact keep (.msgs o t) ⟨b,X,c,ht⟩ (by simp) (by simp),by rw[e6];exact P⟩
   ·rw[e4];exact(r.ok (.still o) b c).congr k
   ·rw[e5];exact(r.ok (.got o) b c).congr k4
  ·rcases u C w s with⟨m,q⟩|⟨rfl,q⟩
   ·exact .inl ⟨q,f C m⟩
   ·rw[at_];exact z q
  ·have O:∀C,C≠.frow o→live p N C→nmF N o g C<h.next:=fun C m q=>by rw[f C m];exact(r.lt C q).2
   rcases u C w s with⟨m,q⟩|⟨rfl,q⟩
   ·have:=O C m q;omega
   ·rcases u C' Z a3 with⟨m,q⟩|⟨rfl,q⟩
    ·have:=O C' m q;omega
    ·rfl
 ·rw[J.get W (kT E Q.next) fun e=>?_]
  ·exact Q.get W E
  ·obtain⟨C',K,_,g3⟩:=l _ e;have:=(r.lt C' K).1;omega
def aCz (f:Bs→Bool):∀(l r:Row),(jE f r l).1.length=l.length
 |[],r=>rfl
 |x::l,r=>by simp[jE,aCz f l]
def xE (f:Bs→Bool):∀(l r:Row),(∀y∈l,y.2<256)→∀c∈(jE f r l).1,c<256
 |[],r,_,c,h=>by simp[jE]at h
 |x::l,r,hs,c,h=>by
  simp only[jE,sI]at h;rcases h with rfl|h
  ·exact aAl f x.1 (hs x (by simp))
  ·exact xE f l _ (fun y a=>hs y (by simp[a])) c h
section
variable {D:CF}{Z:H}{fil nam:Bs→Bool}(k:K3 D Z fil nam tak){B:H}{a:Nat}{dm:Pw.Dm}{rl:Pw.Rl}
include k
def bUx (hT:HasT Z B)(I:3≤B.next){n:cD}(no:NoteOk B v n){e:kC Nat}(hc:e.length=n.subs.length)(X:∀c∈e,c<256)(kx:Pk.K0 Unit){p q:Nat}(j:b0.done=true)(k1:∀N M,M .chk=pc→Rep B N M {s0 with subs:=aM s0.subs o {b0 with filters:=(n.subs.zip e).foldl (fun r x=>if x.2<128 then(iZ fil r x.1.1 x.1.2).2 else r) f0}} a→Ext B N→p≤N.next→kx N=some ()):
 ∀(d i m:Nat) (h:H) (w:Col→Nat) (f:Row),i+d=n.subs.length→d<m→Rep B h w {s0 with subs:=aM s0.subs o {b0 with filters:=f}} a→Ext B h→w .chk=pc→p≤h.next→w (.sb o)=q→
  ((n.subs.zip e).drop i).foldl (fun r x=>if x.2<128 then(iZ fil r x.1.1 x.1.2).2 else r) f=(n.subs.zip e).foldl (fun r x=>if x.2<128 then(iZ fil r x.1.1 x.1.2).2 else r) f0→
  aQs (CI D) L dm rl kx m (iN (n.subs.length:Int)) (iN (i:Int)) (aA q) (str (e.map UInt8.ofNat)) v h=some ():=by
 have K:=k.k2;intro d
 induction d with
 |zero=>
  intro i m h w f hi hm r G s hp Q u;obtain⟨m,rfl⟩:=pS m (by omega);have O:decide ((i:Int)<(n.subs.length:Int))=false:=kO (by omega);rw[pZ (by rw[List.length_zip,hc];omega)]at u;simp only[aQs,bCb,zZ,O,qS];refine k1 h w s ?_ G hp;rw[←u];exact r
 |succ d ih=>
  intro i m h w f hi hm r G s hp Q u;obtain⟨m,rfl⟩:=pS m (by omega);have O:decide ((i:Int)<(n.subs.length:Int))=true:=kN (by omega);obtain⟨y,hy⟩:∃y,n.subs[i]?=some y:=⟨_,kZ (by omega)⟩;obtain⟨c,C⟩:∃c,e[i]?=some c:=⟨_,kZ (by omega)⟩;have W:=X c (sY C);have hz:(n.subs.zip e)[i]?=some (y,c):=List.getElem?_zip_eq_some.2 ⟨hy,C⟩;have a3:=no.small y (sY hy);obtain⟨f3,qq,ei,l2⟩:=wC K (no.subs.ext G) hy;obtain⟨h1,h2,e1,e2,l0,l1,S,lt⟩:=rQ K (h:=h) y;have g:=G.trans S;have r2:=r.ext G.next S;have R:=ixS (l:=e.map UInt8.ofNat) (i:=i) (b:=UInt8.ofNat c) (by rw[pL,C];rfl);have uc:((UInt8.ofNat c).toNat:Int)=(c:Int):=by rw[UInt8.toNat_ofNat',Nat.mod_eq_of_lt W]
  have R:A.zD (str (e.map UInt8.ofNat)) (iN (i:Int))=some (iU (c:Int)):=by rw[R,←uc]
  have P:aE (aM s0.subs o {b0 with filters:=f}) o=some {b0 with filters:=f}:=by rw[aC,kM rfl]
  have w2:A.z prog .add 3 (iN (i:Int)) (iN 1)=some (iN ((i+1:Nat):Int)):=by rw[bC,aQ (by have:=no.len;omega)]
  rw[aU hz,dN]at u;have sl:A.load false 1 (.pointer (some ⟨q,3,none⟩)) h2=some (aA (w (.flst o))):=by
   rw[←Q];exact ld K (r2.ok (.sb o) _ P) 3 (by simp[vG,j])
  by_cases t:c<128
  ·have U:decide ((c:Int)<128)=true:=kN (by omega);rw[kM t]at u;obtain⟨E,vv,lr,Y⟩:=r2.ok (.flst o) _ P j;obtain⟨h3,V,b3⟩:=T29 K (hT.ext K.tab I g) (kR I g.next) E lr (by have:=(r2.lt (.flst o) ⟨_,P,j⟩).1;omega) y.1 a3;obtain⟨d3,g1,g3,r3,J,e3⟩:=r2.frow g P j lr Y b3 (aIk fil y.1 y.2 E);simp only[rX]at r3;have nx:=ih (i+1) m h3 d3 (iZ fil f y.1 y.2).2 (by omega) (by omega) r3 J (g1.trans s) (by have:=S.next;omega) (g3.trans Q) u;simp only[aQs,bCb,bGn,bGm,zZ,O,qS,ei,l2,show TaW.Z57=TaI.Z57 from rfl,e1,e2,R,U,sl,sR,l0,l1,V,w2];exact nx
  ·have U:decide ((c:Int)<128)=false:=kO (by omega);rw[kL t]at u;have nx:=ih (i+1) m h2 w f (by omega) (by omega) r2 g s (by have:=S.next;omega) Q u;simp only[aQs,bCb,bGn,bGm,zZ,O,qS,ei,l2,show TaW.Z57=TaI.Z57 from rfl,e1,e2,R,U,w2];exact nx
def aVb (hT:HasT Z B)(l3:3≤B.next)(no:NoteOk B v R){o:kC Nat}(hc:o.length=R.subs.length)(p3:∀c∈o,c<256)(r:Rep B h N s a)(hB:Ext B h)(l:aE s.subs I=some b)(g3:h.get n=some (.cells (bU e v R) (some 0)))(t3:n<h.next)(v3:∀C,live s N C→N C≠n)(kr:Pk.K1 Unit)(k0:b.done=true→kr (.bool true) h=some ())(k1:b.done=false→∀Y Q,Q .chk=N .chk→Rep B Y Q {s with subs:=aM s.subs I {b with done:=true,open_:=true,client:=R.client,filters:=(R.subs.zip o).foldl (fun r x=>if x.2<128 then(iZ fil r x.1.1 x.1.2).2 else r) []}} a→Ext B Y→h.next≤Y.next→kr (.bool true) Y=some ())(hL:R.subs.length<i):
 bGo (CI D) h (aA n) (str (o.map UInt8.ofNat)) (aA (N (.sb I))) kr (fun n y3 x5 h=>bDl (CI D) i dm rl h n x5 y3 fun h=>bCa h kr)=some ():=by
 have k2:=k.k2;have gb:=r.ok (.sb I) b l;have b1:=ld k2 gb 1 rfl
 cases V:b.done with
 |true=>
  rw[V]at b1;simp only[bGo,qS,b1,sR];exact k0 V
 |false=>
  rw[V]at b1;have a4:=r.lt (.sb I) ⟨b,l⟩;have X:n≠N (.sb I):=fun e=>v3 (.sb I) ⟨b,l⟩ e.symm;obtain⟨w,z⟩:=eX (h.put (N (.sb I)) (.cells [str b.client,.bool true,.bool b.open_,.pointer none,aV (N (.past I)),aV (N (.still I)),aV (N (.got I)),str b.last,.bool b.some_] (some 0)));have e1:A.store 1 (.pointer (some ⟨N (.sb I),1,none⟩)) (.bool true) h=some w:=by rw[qU,gb,z];simp only[vG,V,pP,mD];rfl
  have g1:w.get (N (.sb I))=some (.cells [str b.client,.bool true,.bool b.open_,.pointer none,aV (N (.past I)),aV (N (.still I)),aV (N (.got I)),str b.last,.bool b.some_] (some 0)):=by rw[z,H.get_put,kM rfl]
  obtain⟨u,E⟩:=eX (w.put (N (.sb I)) (.cells [str b.client,.bool true,.bool true,.pointer none,aV (N (.past I)),aV (N (.still I)),aV (N (.got I)),str b.last,.bool b.some_] (some 0)));have e2:A.store 1 (.pointer (some ⟨N (.sb I),2,none⟩)) (.bool true) w=some u:=by rw[qU,g1,E];rfl
  have g2:u.get (N (.sb I))=some (.cells [str b.client,.bool true,.bool true,.pointer none,aV (N (.past I)),aV (N (.still I)),aV (N (.got I)),str b.last,.bool b.some_] (some 0)):=by rw[E,H.get_put,kM rfl]
  have i3:u.get n=some (.cells (bU e v R) (some 0)):=by rw[E,H.get_put,kL X,z,H.get_put,kL X];exact g3
  have u3:=ld k2 i3 3 rfl;obtain⟨h3,P⟩:=eX (u.put (N (.sb I)) (.cells [str R.client,.bool true,.bool true,.pointer none,aV (N (.past I)),aV (N (.still I)),aV (N (.got I)),str b.last,.bool b.some_] (some 0)));have e3:A.store 1 (.pointer (some ⟨N (.sb I),0,none⟩)) (str R.client) u=some h3:=by rw[qU,g2,P];rfl
  have j3:h3.get (N (.sb I))=some (.cells [str R.client,.bool true,.bool true,.pointer none,aV (N (.past I)),aV (N (.still I)),aV (N (.got I)),str b.last,.bool b.some_] (some 0)):=by rw[P,H.get_put,kM rfl]
  have n3:h3.next=h.next:=by rw[P,E,z];rfl
  obtain⟨h4,a3,lr,x4⟩:=T28 k2 (h:=h3);obtain⟨q,hq⟩:=eX (h3.next);rw[←hq]at a3 lr;have g4:h4.get (N (.sb I))=some (.cells [str R.client,.bool true,.bool true,.pointer none,aV (N (.past I)),aV (N (.still I)),aV (N (.got I)),str b.last,.bool b.some_] (some 0)):=by rw[x4.get _ (by omega)];exact j3
  obtain⟨L,G⟩:=eX (h4.put (N (.sb I)) (.cells [str R.client,.bool true,.bool true,aA q,aV (N (.past I)),aV (N (.still I)),aV (N (.got I)),str b.last,.bool b.some_] (some 0)));have e5:A.store 1 (.pointer (some ⟨N (.sb I),3,none⟩)) (aA q) h4=some L:=by rw[qU,g4,G];rfl
  have g5:L.get (N (.sb I))=some (.cells [str R.client,.bool true,.bool true,aA q,aV (N (.past I)),aV (N (.still I)),aV (N (.got I)),str b.last,.bool b.some_] (some 0)):=by rw[G,H.get_put,kM rfl]
  have n5:L.next=h4.next:=by rw[G];rfl
  have lq:=lr.lt;have o5:∀j,j<h.next→j≠N (.sb I)→L.get j=h.get j:=fun j hj hn=>by
   rw[G,H.get_put,kL hn,x4.get _ (by omega),P,H.get_put,kL hn,E,H.get_put,kL hn,z,H.get_put,kL hn]
  have m3:Ext B L:=⟨by have:=hB.next;omega,fun j hj=>by rw[o5 j (by have:=hB.next;omega) (by omega)];exact hB.get j hj⟩;have k3:L.get n=some (.cells (bU e v R) (some 0)):=by rw[o5 _ t3 X];exact g3
  have b3:=ld k2 k3 26 rfl;have ln:A.zE v=some (iN (R.subs.length:Int)):=by have:=(no.subs.ext hB).len.1;rwa [aW,pO]at this
  obtain⟨O,f⟩:∃O:Sb,O={b with done:=true,open_:=true,client:=R.client,filters:=[]}:=⟨_,rfl⟩;have q3:O.done=true:=by rw[f]
  have hg:aE (aM s.subs I O) I=some O:=by rw[aC,kM rfl]
  obtain⟨m,W⟩:∃m:Col→Nat,m=fun C=>if C=.flst I∨C=.frow I then q else N C:=⟨_,rfl⟩
  have g:∀C,C≠.flst I→C≠.frow I→m C=N C:=fun C w u=>by rw[W];exact kL fun e=>e.elim w u
  have q1:m (.flst I)=q:=by rw[W];exact kM (.inl rfl)
  have q2:m (.frow I)=q:=by rw[W];exact kM (.inr rfl)
  have f1:m (.sb I)=N (.sb I):=g _ (by simp) (by simp);have f2:m (.past I)=N (.past I):=g _ (by simp) (by simp);have f3:m (.still I)=N (.still I):=g _ (by simp) (by simp);have f4:m (.got I)=N (.got I):=g _ (by simp) (by simp);have keep:∀C,live s N C→C≠.sb I→L.get (N C)=h.get (N C):=fun C J hn=>o5 _ (r.lt C J).2 fun e=>hn (r.inj _ _ J ⟨b,l⟩ e);have K:∀C,atO I C→live {s with subs:=aM s.subs I O} m C→(C=.flst I)∨(C≠.flst I∧C≠.frow I∧live s N C):=fun C M J=>by
   rcases nC M with rfl|rfl|rfl|rfl|rfl|rfl|⟨t,rfl⟩
   ·exact .inr ⟨by simp,by simp,b,l⟩
   ·exact .inl rfl
   ·exact dC (q2.trans q1.symm) J.2
   ·exact .inr ⟨by simp,by simp,b,l⟩
   ·exact .inr ⟨by simp,by simp,b,l⟩
   ·exact .inr ⟨by simp,by simp,b,l⟩
   ·obtain⟨x,ms,hx,hm⟩:=J;rw[hg]at hx;cases hx;rw[f]at hm;exact .inr ⟨by simp,by simp,b,ms,l,hm⟩
  have r5:Rep B L m {s with subs:=aM s.subs I O} a:=by
   refine r.sub1 hB.next (by omega) (fun d V=>by rw[aC,kL (mV V)]) (fun C M=>g C (fun e=>M (by rw[e];exact rfl)) fun e=>M (by rw[e];exact rfl)) False (fun C J M _=>keep C J fun e=>M (by rw[e];exact rfl)) (fun _=>⟨eS l,f1⟩) (fun h=>h.elim) (fun y hy=>?_) (fun C M J=>?_) (fun C C' M o3 J s3 z3 he=>?_)
   ·rw[hg]at hy;cases hy;refine⟨?_,fun _=>?_,?_,?_,?_⟩
    ·rw[f1,g5,f];simp only[vG,q1,f2,f3,f4,mE]
    ·rw[q1,q2,f];refine⟨by simp,eJ,⟨?_,by omega,.inl ⟨rfl,rfl⟩,by simp[sid]⟩,by simp[sid]⟩;rw[G,H.get_put,kL (by omega)];exact lr.get
    ·rw[f];obtain⟨mv,m1,m2⟩:=r.ok (.past I) b l;refine⟨mv,by rw[f2];exact m1.congr (keep (.past I) ⟨b,l⟩ (by simp)),fun t ms ht=>?_⟩;obtain⟨a1,a2⟩:=m2 t ms ht;exact⟨a1.but (S:=fun _=>False) (by omega) fun b4 hi=>by rw[a2]at hi;cases hi;exact keep (.msgs I t) ⟨b,ms,l,ht⟩ (by simp),by rw[g (.msgs I t) (by simp) (by simp)];exact a2⟩
    ·rw[f3,f];exact(r.ok (.still I) b l).congr (keep (.still I) ⟨b,l⟩ (by simp))
    ·rw[f4,f];exact(r.ok (.got I) b l).congr (keep (.got I) ⟨b,l⟩ (by simp))
   ·rcases K C M J with rfl|⟨w,u,h3⟩
    ·rw[q1];exact .inr ⟨by omega,by omega⟩
    ·exact .inl ⟨h3,g C w u⟩
   ·have d3:∀C,C≠.flst I→C≠.frow I→live s N C→m C<h.next:=fun C w u h3=>by rw[g C w u];exact(r.lt C h3).2
    rcases K C M J with rfl|⟨w,u,h3⟩
    ·rcases K C' o3 s3 with rfl|⟨w,u,h3⟩
     ·rfl
     ·have:=d3 C' w u h3;omega
    ·have:=d3 C w u h3;omega
  have U:=bUx k (dm:=dm) (rl:=rl) hT l3 no hc p3 (fun h=>bCa h kr) (p:=h.next) (pc:=N .chk) (q:=N (.sb I)) (o:=I) (L:=i) (s0:=s) (b0:=O) (f0:=[]) q3 (fun Y Q c1 c2 c3 c4=>by
   simp only[bCa];refine k1 V Y Q c1 ?_ c3 c4;rw[f]at c2;exact c2) R.subs.length 0 i L m [] (by omega) hL (by rw[f]at r5⊢;exact r5) m3 (g _ (by simp) (by simp)) (by omega) f1 rfl
  have U:aQs (CI D) i dm rl (fun h=>bCa h kr) i (iN (R.subs.length:Int)) (iN 0) (aA (N (.sb I))) (str (o.map UInt8.ofNat)) v L=some ():=U;simp only[bGo,bDl,cGq,qS,b1,sR,sS,e1,e2,u3,e3,a3,e5,b3,ln];exact U
omit k in
def aFe {n:cD}(d:n.kind=2)(b:n.ptype=8)(s:∀y∈n.subs,y.2<256){o:kC Nat}(h:(bT fil nam p n).1=some o):o.length=n.subs.length∧∀c∈o,c<256:=by
 unfold bT at h;rw[kL (by omega),kL (by omega),kL (by omega)]at h;split at h
 ·cases h
 ·split at h
  ·cases h
  ·simp only[kP]at h;subst h;exact⟨aCz fil _ _,xE fil _ _ s⟩
def W18 (ok:RelOK prog 3 TaZ.isR dm rl)(hT:HasT Z B)(q:3≤B.next)(r:Rep B h N s a)(hB:Ext B h)(e:Nat→kA)(v:kA)(g:cD)(no:NoteOk B v g)(hk:g.kind=2)(j3:InvS n (bT fil nam s g).2)(hK:n≤2^40):
 ∃L,fK prog (CI D) TaZ.isR dm rl L 3 25 [aA (N .chk),eF e v g] h (iE B (N .chk) a h (nG fil nam tak s g)):=by
 have k2:=k.k2;obtain⟨P,E⟩:=eX (h.push (.cells (bU e v g) (some 0)));have e1:A.box 35 (eF e v g) h=some (aA h.next,P):=by rw[E];rfl
 have x1:Ext h P:=by rw[E];exact Ext.push h _
 have n1:P.next=h.next+1:=by rw[E];rfl
 have g1:P.get h.next=some (.cells (bU e v g) (some 0)):=by rw[E,H.get_push,kM rfl]
 have r1:=r.ext hB.next x1;have t3:=hB.trans x1;have c0:=ld k2 (r1.ok .chk) 0 rfl;have k3:A.load true 35 (aA h.next) P=some (eF e v g):=by rw[aI,g1];rfl
 obtain⟨h2,m,j,f,U,r2,b3,f2⟩:=T26 k2 hT q r1 t3 e v g no;obtain⟨J,g3⟩:=eX ((bT fil nam s g).2);obtain⟨p,S⟩:=eX ((bT fil nam s g).1);rw[←g3]at r2 f2 j3;rw[←S]at f;have Q:bT fil nam s g=(p,J):=by rw[S,g3]
 have m3:∀C,live s N C→N C≠h.next:=fun C o e=>by have:=(r.lt C o).2;omega
 have g2:h2.get h.next=some (.cells (bU e v g) (some 0)):=by rw[f2.1 _ (by omega) m3];exact g1
 have n3:∀C,live J m C→m C≠h.next:=fun C o e=>by
  rcases f2.2.1 C o with⟨C0,w1,w2⟩|w
  ·exact m3 C0 w1 (w2.trans e)
  ·omega
 have z3:=f2.2.2;have K:A.u 0 (.tuple ⟨[str ((p.getD []).map UInt8.ofNat),.bool j,.bool p.isSome]⟩)=some (str ((p.getD []).map UInt8.ofNat)):=rfl;have M:A.u 1 (.tuple ⟨[str ((p.getD []).map UInt8.ofNat),.bool j,.bool p.isSome]⟩)=some (.bool j):=rfl;have O:A.u 2 (.tuple ⟨[str ((p.getD []).map UInt8.ofNat),.bool j,.bool p.isSome]⟩)=some (.bool p.isSome):=rfl
 cases hz:p with
 |none=>
  have d:nG fil nam tak s g=(false,J):=by unfold nG;rw[Q,hz]
  rw[hz]at f K M O;have f:CI D 44 [aA (N .mdl),eF e v g] P=some (.tuple ⟨[str (([]:kC Nat).map UInt8.ofNat),.bool j,.bool false]⟩,h2):=f;have K:A.u 0 (.tuple ⟨[str (([]:kC Nat).map UInt8.ofNat),.bool j,.bool false]⟩)=some (str (([]:kC Nat).map UInt8.ofNat)):=K;have M:A.u 1 (.tuple ⟨[str (([]:kC Nat).map UInt8.ofNat),.bool j,.bool false]⟩)=some (.bool j):=M;have O:A.u 2 (.tuple ⟨[str (([]:kC Nat).map UInt8.ofNat),.bool j,.bool false]⟩)=some (.bool false):=O;refine⟨0,cKd ok _ _ h ?_⟩;simp only[F25,bEb,bQb,bQa,e1,qS,sR,c0,k3,f,K,M,O];rw[d];exact okU_iff.2 ⟨rfl,⟨m,U,r2⟩,b3,by omega⟩
 |some c=>
  rw[hz]at f K M O;have f:CI D 44 [aA (N .mdl),eF e v g] P=some (.tuple ⟨[str (c.map UInt8.ofNat),.bool j,.bool true]⟩,h2):=f;have K:A.u 0 (.tuple ⟨[str (c.map UInt8.ofNat),.bool j,.bool true]⟩)=some (str (c.map UInt8.ofNat)):=K;have M:A.u 1 (.tuple ⟨[str (c.map UInt8.ofNat),.bool j,.bool true]⟩)=some (.bool j):=M;have O:A.u 2 (.tuple ⟨[str (c.map UInt8.ofNat),.bool j,.bool true]⟩)=some (.bool true):=O;obtain⟨i,l⟩:∃i:St,i={J with pubs:=J.pubs.map fun x=>(x.1,fJ tak J g.client x.2)}:=⟨_,rfl⟩;have v3:∀C,live i m C→live J m C:=fun C o=>by
   rw[l,←aNv (sk:=J.pubs.map (·.1)) fun x hx=>mN hx]at o;exact(aIf C).1 o
  have c1:=ld k2 (r2.ok .chk) 1 rfl;rw[U]at c1;have u3:=r2.lt .pubs trivial;obtain⟨bi,er,ei⟩:=nK (r2.ok .pubs) u3.2;refine⟨J.pubs.length+g.subs.length+1,cKd ok _ _ h ?_⟩;simp only[F25,bEb,bQb,bQa,bIq,cGr,e1,qS,sR,c0,k3,f,K,M,O,c1,er];rw[←U];refine bUy k hT q r2 b3 n3 (by omega) (kQ _) _ (fun h4 r4 y g4 a4 y3=>?_) (by omega) ei (Ext.push h2 bi) (by rw[(Ext.push h2 bi).get _ (by omega)];exact g2) (mQ _);rw[←l]at r4;have a3:∀C,live i m C→m C≠h.next:=fun C o=>n3 C (v3 C o);have W:=ld k2 g4 4 rfl;have l3:=ld k2 g4 1 rfl;by_cases h8:g.ptype=8
  case neg=>
   have d8:decide ((g.ptype:Int)=8)=false:=kO (by omega);have d:nG fil nam tak s g=(true,i):=by
    unfold nG;rw[Q,hz];simp only[kM h8,←l]
   simp only[bGp,qS,W,sS,bA,d8];rw[d];exact okU_iff.2 ⟨rfl,⟨m,rfl,r4⟩,y,by omega⟩
  have d8:decide ((g.ptype:Int)=8)=true:=kN (by omega);have p3:¬g.ptype≠8:=fun e=>e h8;obtain⟨e3,f3⟩:=aFe hk h8 no.small (by rw[←S,hz]:(bT fil nam s g).1=some c);have c2:=ld k2 (r4.ok .chk) 2 rfl;have I:=aRh r4 g.op;have d:nG fil nam tak s g=(let b:=(aE i.subs g.op).getD (cJ i)
   let s:=if(aE i.subs g.op).isSome then i else{i with subs:=aM i.subs g.op b}
   if b.done then(true,s)
   else(true,{s with subs:=aM s.subs g.op {b with done:=true,open_:=true,client:=g.client,filters:=(g.subs.zip c).foldl (fun r x=>if x.2<128 then(iZ fil r x.1.1 x.1.2).2 else r) []}})):=by
   unfold nG;rw[Q,hz,l];simp only[kL p3]
  have kl:KeysOk (2^40) i.kept:=by rw[l];exact j3.kept.up hK
  cases G:aE i.subs g.op with
  |some b=>
   rw[G]at I d;simp only[pQ,dW,mE]at d;have V:A.z prog .eql 63 (aA (m (.sb g.op))) (.pointer none)=some (.bool false):=aCt (t:=63) (by kernel_rfl) _;simp only[bGp,bPy,qS,W,sS,sR,bA,d8,c2,l3,show TaW.Z63=.pointer none from rfl,I,mA,jJ,V];refine aVb k hT q no e3 f3 r4 y G g4 (by omega) a3 _ (fun R=>?_) (fun R h' X q1 q2 q3 q4=>?_) (by omega)
   ·rw[R]at d;simp only[mE]at d;rw[d];exact okU_iff.2 ⟨rfl,⟨m,rfl,r4⟩,y,by omega⟩
   ·rw[R]at d;simp only[pP,mD]at d;rw[d];exact okU_iff.2 ⟨rfl,⟨X,q1,q2⟩,q3,by omega⟩
  |none=>
   rw[G]at I d;simp only[tH,dX,pP,mD]at d;have V:A.z prog .eql 63 (.pointer none) (.pointer none)=some (.bool true):=by kernel_rfl
   obtain⟨h5,Y,o3,k5,r5,d3,f5⟩:=T17 k r4 y kl G;have i3:aE (aM i.subs g.op (cJ i)) g.op=some (cJ i):=by rw[aC,kM rfl]
   have g5:h5.get h.next=some (.cells (bU e v g) (some 0)):=by rw[f5.1 _ (by omega) a3];exact g4
   have x3:∀C,live {i with subs:=aM i.subs g.op (cJ i)} Y C→Y C≠h.next:=fun C o e=>by
    rcases f5.2.1 C o with⟨C0,w1,w2⟩|w
    ·exact a3 C0 w1 (w2.trans e)
    ·omega
   have b4:=f5.2.2;simp only[bGp,bPy,qS,W,sS,sR,bA,d8,c2,l3,show TaW.Z63=.pointer none from rfl,I,dV,jJ,V,o3];refine aVb k hT q no e3 f3 r5 d3 i3 g5 (by omega) x3 _ (fun R=>?_) (fun R h' X q1 q2 q3 q4=>?_) (by omega)
   ·rw[R]at d;simp only[mE]at d;rw[d];exact okU_iff.2 ⟨rfl,⟨Y,k5,r5⟩,d3,by omega⟩
   ·rw[R]at d;simp only[pP,mD]at d;rw[d];exact okU_iff.2 ⟨rfl,⟨X,q1.trans (k5),q2⟩,q3,by omega⟩
end
def eN {bs:Nat}{es E:kC (kC kA)}(J:GrowV n h v es)(s:SliceE n h x E)(f:E≠[])(M:0<n)(p:(es.length+E.length)*bs≤2^47)(r:es.length+E.length≤2^47):
 ∃a,A.zF n bs v x h=some (.slice (some ⟨h.next,0,none⟩) (es.length+E.length) (2*(es.length+E.length)),a)∧
  GrowV n a (.slice (some ⟨h.next,0,none⟩) (es.length+E.length) (2*(es.length+E.length))) (es++E)∧a.next=h.next+1∧ExtBut (fun i=>sid v=some i) h a:=by
 have t:∀{a:H},Vec n a (.slice (some ⟨h.next,0,none⟩) (es.length+E.length) (2*(es.length+E.length))) (es++E)→GrowV n a (.slice (some ⟨h.next,0,none⟩) (es.length+E.length) (2*(es.length+E.length))) (es++E):=fun w=>by
  refine⟨w.1,?_⟩;rcases w.2 with⟨e,_⟩|⟨q,e,o,g⟩
  ·cases e
  ·exact⟨q,_,e,.inl rfl,o,g⟩
 obtain⟨j,q,c,rfl,K,o,g⟩:=J;rcases K with rfl|rfl
 ·obtain⟨a,e,O,N,P⟩:=iH (bs:=bs) (v:=.slice (some ⟨q,0,none⟩) es.length (2*es.length)) ⟨j,.inr ⟨q,rfl,o,g⟩⟩ s f M p r;exact⟨a,e,t O,N,P⟩
 ·obtain⟨_,l⟩:=s.len;have m:=s.elems;have u:0<E.length:=List.length_pos_iff.2 f;have y:Nat.beq E.length 0=false:=by rw[T.beq_dec];simp;omega
  have b:∀e∈es++E,e.length=n:=fun e d=>by
   rcases mP.1 d with d|d
   ·exact j e d
   ·exact s.1 e d
  have L:es.flatten.length=es.length*n:=cF j;refine⟨h.push (.cells (es.flatten++E.flatten) (some n)),?_,⟨b,h.next,_,by rw[kX],.inl (by rw[kX]),by simp,by rw[H.get_push,kM rfl,List.flatten_append]⟩,rfl,(Ext.push _ _).but⟩;simp only[A.zF,m,l,y,g];have B:Nat.ble (es.length+E.length) ((2*es.length+1) / 2)=false:=by
   cases k:Nat.ble (es.length+E.length) ((2*es.length+1) / 2)with
   |false=>rfl
   |true=>have:=ble_iff.1 k;omega
  have C:Nat.ble ((es.length+E.length)*bs) (2^47)=true:=ble_iff.2 p;have D:Nat.ble (es.length+E.length) (2^47)=true:=ble_iff.2 r;have G:Nat.ble (0+es.length*n) es.flatten.length=true:=ble_iff.2 (by omega);have I:Nat.beq ((2*es.length+1)%2) 1=true:=beq_iff.2 (by omega);have z:(es.flatten.drop 0).take (es.length*n)=es.flatten:=by rw[mI,sA (by omega)]
  rw[B,C,D,G,I,z];rfl
section
variable {D:CF}{Y:H}{fil nam:Bs→Bool}(Z:K3 D Y fil nam tak){B:H}{a:Nat}{dm:Pw.Dm}{rl:Pw.Rl}
include Z
def bLc (r:Rep B h N p a)(hB:Ext B h)(k:aE p.subs I=some b)(Q:b.done=false)(gm:h.get i=some (.cells (aG m) (some 0)))(p4:i<h.next)(x3:∀C,live p N C→N C≠i)(t3:∀t O,aE b.past t=some O→O.length≤2^40):
 ∃M,A.zY true (str m.topic) (aV (N (.still I))) h=some M∧∃h' u,(∀(j3:kA) (kn:Pk.K2 Unit),bBz M (aA i) (aA (N (.sb I))) j3 kn=kn (aA i) j3 h')∧(∀C,(∀I t,C≠.msgs I t)→u C=N C)∧h'.get (N .subs)=h.get (N .subs)∧
  Rep B h' u {p with subs:=aM p.subs I (cU m b)} a∧Ext B h'∧FrameR h N p h' u {p with subs:=aM p.subs I (cU m b)}:=by
 have k2:=Z.k2;obtain⟨M,u4,m4,a4⟩:=bKk (r.ok (.still I) b k) m.topic;rw[wR]at m4;have lst:=r.lt (.still I) ⟨b,k⟩;have j4:=fun C s (e:N C=N (.still I))=>r.inj C (.still I) s ⟨b,k⟩ e;have o3:Ext B M:=a4.ext hB lst.1;have e3:M.get i=some (.cells (aG m) (some 0)):=by rw[a4.2 _ fun e=>x3 (.still I) ⟨b,k⟩ e.symm];exact gm
 have l1:=ld k2 e3 1 rfl;have l0:=ld k2 e3 0 rfl;have ep:A.z prog .neq 9 (str m.payload) (.string ⟨⟨[]⟩⟩)=_:=gZ m.payload [];have o:∀C,live p N C→C≠.still I→M.get (N C)=h.get (N C):=fun C s hn=>a4.2 _ fun e=>hn (j4 C s e);refine⟨M,u4,?_⟩;by_cases hp:m.payload=[]
 ·rw[kN hp]at ep;have hm:cU m b={b with still:=b.still.erase m.topic}:=by unfold cU;rw[Q];simp[hp]
  rw[hm];have hg:aE (aM p.subs I {b with still:=b.still.erase m.topic}) I=some {b with still:=b.still.erase m.topic}:=by rw[aC,kM rfl]
  have G:∀C,atO I C→live {p with subs:=aM p.subs I {b with still:=b.still.erase m.topic}} N C→live p N C:=fun C E s=>by
   rcases nC E with rfl|rfl|rfl|rfl|rfl|rfl|⟨t,rfl⟩
   ·exact⟨b,k⟩
   ·obtain⟨x,R,X⟩:=s;rw[hg]at R;cases R;exact dC (Q.symm.trans X) (by simp)
   ·obtain⟨⟨x,R,X⟩,_⟩:=s;rw[hg]at R;cases R;exact dC (Q.symm.trans X) (by simp)
   ·exact⟨b,k⟩
   ·exact⟨b,k⟩
   ·exact⟨b,k⟩
   ·obtain⟨x,O,R,hm⟩:=s;rw[hg]at R;cases R;exact⟨b,O,k,hm⟩
  refine⟨M,N,fun j3 kn=>?_,fun _ _=>rfl,o .subs trivial (by simp),?_,o3,?_⟩
  ·simp only[bBz,qS,l1,ep]
  ·refine r.sub1 hB.next (by rw[a4.1];exact kQ _) (fun d Q=>by rw[aC,kL (mV Q)]) (fun _ _=>rfl) False (fun C s E _=>o C s fun e=>E (by rw[e];exact rfl)) (fun _=>⟨eS k,rfl⟩) (fun h=>h.elim) (fun y hy=>?_) (fun C E s=>.inl ⟨G C E s,rfl⟩) (fun C C' E p3 s s3 i4 he=>?_)
   ·rw[hg]at hy;cases hy;refine⟨?_,fun h=>dC (Q.symm.trans h) (by simp),?_,m4,?_⟩
    ·rw[o (.sb I) ⟨b,k⟩ (by simp),r.ok (.sb I) b k];rfl
    ·obtain⟨mv,m1,m2⟩:=r.ok (.past I) b k;refine⟨mv,m1.congr (o (.past I) ⟨b,k⟩ (by simp)),fun t O ht=>?_⟩;obtain⟨a1,a2⟩:=m2 t O ht;exact⟨a1.but (S:=fun _=>False) (by rw[a4.1];exact kQ _) fun z3 U=>by rw[a2]at U;cases U;exact o (.msgs I t) ⟨b,O,k,ht⟩ (by simp),a2⟩
    ·exact(r.ok (.got I) b k).congr (o (.got I) ⟨b,k⟩ (by simp))
   ·have:=(r.lt C (G C E s)).2;omega
  ·exact⟨fun j hj hn=>a4.2 j fun e=>hn (.still I) ⟨b,k⟩ e.symm,wK (fun d Q=>by rw[aC,kL (mV Q)]) (fun _ _=>rfl) (fun C E s=>.inl ⟨G C E s,rfl⟩),by rw[a4.1];exact kQ _⟩
 ·rw[kO hp]at ep;obtain⟨mv,m1,m2⟩:=r.ok (.past I) b k;obtain⟨O,W⟩:=eX ((aE b.past m.topic).getD []);have hm:cU m b={b with still:=b.still.erase m.topic,past:=aM b.past m.topic (O++[m])}:=by unfold cU;rw[Q,W];simp[hp]
  rw[hm];obtain⟨b',P⟩:∃b',b'={b with still:=b.still.erase m.topic,past:=aM b.past m.topic (O++[m])}:=⟨_,rfl⟩;rw[←P];have g3:b'.done=false:=by rw[P];exact Q
  have hg:aE (aM p.subs I b') I=some b':=by rw[aC,kM rfl]
  have t4:=r.lt (.past I) ⟨b,k⟩;have v4:=r.lt (.sb I) ⟨b,k⟩;have k4:MapR M (N (.past I)) cC (b.past.map fun x=>(x.1,mv x.1)):=m1.congr (o (.past I) ⟨b,k⟩ (by simp));have m3:=o (.sb I) ⟨b,k⟩ (by simp);rw[r.ok (.sb I) b k]at m3;have s4:=ld k2 m3 4 rfl;have lk:=aEk k4 TaW.Z90 false m.topic;rw[lE (fun t (_:kC Msg)=>mv t)]at lk;have lm:A.load true 4 (aA i) M=some (.agg ⟨aG m⟩):=by rw[aI,e3];rfl
  have q3:=aX (n:=4) (zs:=TaW.Z30L) (v:=.agg ⟨aG m⟩) (vs:=aG m) M rfl rfl rfl;have sx:=fQ (h:=M) (n:=4) (vs:=aG m) rfl;obtain⟨h5,l3⟩:=eX (M.push (.cells (aG m) (some 4)));rw[←l3]at q3 sx;have x5:Ext M h5:=l3▸Ext.push M _;have n4:=a4.1;have n5:h5.next=h.next+1:=by rw[l3];show M.next+1=_;rw[n4]
  obtain⟨q,hq⟩:=eX (h5.next);obtain⟨x0,lk,V,w,ew,gw,sw,n6,x6,d3⟩:∃x0,A.zJ true TaW.Z90 false (str m.topic) (aV (N (.past I))) M=some x0∧∃V w,A.zF 4 40 x0 (.slice (some ⟨M.next,0,none⟩) 1 3) h5=some (w,V)∧GrowV 4 V w ((O++[m]).map aG)∧sid w=some q∧V.next=h5.next+1∧ExtBut (fun z3=>sid x0=some z3) h5 V∧∀z3,sid x0=some z3→live p N (.msgs I m.topic)∧z3=N (.msgs I m.topic):=by
   cases L:aE b.past m.topic with
   |none=>
    rw[L]at lk W;subst W;obtain⟨V,e6,v6,n6,x6⟩:=iH (bs:=40) (Vec.nil 4 h5) sx (by simp) (by omega) (by simp) (by simp);refine⟨eJ,lk,V,_,e6,⟨v6.1,?_⟩,by rw[hq];rfl,n6,x6,fun z3 U=>by simp[sid]at U⟩;rcases v6.2 with⟨e,_⟩|⟨q',e,hq',hg'⟩
    ·cases e
    ·exact⟨q',_,e,.inl rfl,hq',hg'⟩
   |some l=>
    rw[L]at lk W;have W:O=l:=W;subst W;obtain⟨gv,gs⟩:=m2 _ _ L;have s:=t3 _ _ L;have g4:GrowV 4 h5 (mv m.topic) (O.map aG):=gv.but (S:=fun _=>False) (by omega) fun z3 U=>by
     rw[gs]at U;cases U;have q4:=r.lt (.msgs I m.topic) ⟨b,O,k,L⟩;rw[x5.get _ (by omega)];exact o (.msgs I m.topic) ⟨b,O,k,L⟩ (by simp)
    obtain⟨V,e6,v6,n6,x6⟩:=eN (bs:=40) g4 sx (by simp) (by omega) (by simp;omega) (by simp;omega);refine⟨mv m.topic,lk,V,_,e6,by rw[rJ];exact v6,by rw[hq];rfl,n6,x6,fun z3 U=>?_⟩;rw[gs]at U;cases U;exact⟨⟨b,O,k,L⟩,rfl⟩
  have a3:∀C,live p N C→C≠.still I→C≠.msgs I m.topic→V.get (N C)=h.get (N C):=fun C s h1 h2=>by
   rw[x6.get _ (by have:=(r.lt C s).2;omega) fun e=>h2 ?_,x5.get _ (by have:=(r.lt C s).2;omega)]
   ·exact o C s h1
   ·obtain⟨w1,w2⟩:=d3 _ e;exact r.inj _ _ s w1 w2
  have e4:V.get i=some (.cells (aG m) (some 0)):=by
   rw[x6.get _ (by omega) fun e=>?_,x5.get _ (by omega)]
   ·exact e3
   ·obtain⟨w1,w2⟩:=d3 _ e;exact x3 _ w1 w2.symm
  have n3:=a3 (.sb I) ⟨b,k⟩ (by simp) (by simp);rw[r.ok (.sb I) b k]at n3;have b4:AM.chk (bnd (A.load false 1 (.pointer (some ⟨i,0,none⟩)) V) fun v=>some v) (str m.topic)=true:=eG (by rw[ld k2 e4 0 rfl];rfl) (by simp[AM.same]);have d4:AM.chk (bnd (A.load false 1 (.pointer (some ⟨N (.sb I),4,none⟩)) V) fun v=>some v) (aV (N (.past I)))=true:=eG (by rw[ld k2 n3 4 rfl];rfl) (by simp[AM.same]);have l4:MapR V (N (.past I)) cC (b.past.map fun x=>(x.1,mv x.1)):=m1.congr (a3 (.past I) ⟨b,k⟩ (by simp) (by simp));obtain⟨h7,u7,m7,a7⟩:=aPy l4 m.topic w;have kn:(b.past.map (·.1)).Nodup:=by have:=m1.nodup;rwa [List.map_map]at this
  obtain⟨b3,i3⟩:∃b3:Bs→kA,b3=fun t=>if t=m.topic then w else mv t:=⟨_,rfl⟩
  have k3:=jZ (a:=O++[m]) (f:=mv) (g:=b3) (c:=m.topic) (fun d Q=>by rw[i3];simp only[kL Q]) kn;rw[show b3 m.topic=w by rw[i3];exact kM rfl]at k3;rw[k3]at m7;have n7:h7.next=V.next:=a7.1;obtain⟨u,u3⟩:∃u:Col→Nat,u=fun C=>if C=.msgs I m.topic then q else N C:=⟨_,rfl⟩
  have J:∀C,C≠.msgs I m.topic→u C=N C:=fun C E=>by rw[u3];exact kL E
  have at_:u (.msgs I m.topic)=q:=by rw[u3];exact kM rfl
  have K:∀C,live p N C→C≠.still I→C≠.msgs I m.topic→C≠.past I→h7.get (N C)=h.get (N C):=fun C s h1 h2 h3=>by
   rw[a7.2 _ fun e=>h3 (r.inj _ _ s ⟨b,k⟩ e)];exact a3 C s h1 h2
  have v3:∀t,t≠m.topic→aE b'.past t=aE b.past t:=fun t ht=>by rw[P];simp only[aC,kL (mV ht)]
  have L:aE b'.past m.topic=some (O++[m]):=by rw[P];simp only[aC,kM]
  have G:∀C,atO I C→live {p with subs:=aM p.subs I b'} u C→C=.msgs I m.topic∨(C≠.msgs I m.topic∧live p N C):=fun C E s=>by
   rcases nC E with rfl|rfl|rfl|rfl|rfl|rfl|⟨t,rfl⟩
   ·exact .inr ⟨by simp,b,k⟩
   ·obtain⟨x,R,X⟩:=s;rw[hg]at R;cases R;exact dC (g3.symm.trans X) (by simp)
   ·obtain⟨⟨x,R,X⟩,_⟩:=s;rw[hg]at R;cases R;exact dC (g3.symm.trans X) (by simp)
   ·exact .inr ⟨by simp,b,k⟩
   ·exact .inr ⟨by simp,b,k⟩
   ·exact .inr ⟨by simp,b,k⟩
   ·by_cases ht:t=m.topic
    ·subst ht;exact .inl rfl
    ·obtain⟨x,l,R,hm⟩:=s;rw[hg]at R;cases R;rw[v3 t ht]at hm;exact .inr ⟨by simp[ht],b,l,k,hm⟩
  refine⟨h7,u,fun j3 kn=>?_,fun C E=>J C (E I m.topic),K .subs trivial (by simp) (by simp) (by simp),?_,?_,?_⟩
  ·simp only[bBz,qS,l1,ep,s4,sR,l0,lk,lm,q3,ew,b4,d4,dB,u7]
  ·refine r.sub1 hB.next (by omega) (fun d Q=>by rw[aC,kL (mV Q)]) (fun C E=>J C fun e=>E (by rw[e];exact rfl)) False (fun C s E _=>K C s (fun e=>E (by rw[e];exact rfl)) (fun e=>E (by rw[e];exact rfl)) fun e=>E (by rw[e];exact rfl)) (fun _=>⟨eS k,J _ (by simp)⟩) (fun h=>h.elim) (fun y hy=>?_) (fun C E s=>?_) (fun C C' E p3 s s3 i4 he=>?_)
   ·rw[hg]at hy;cases hy;have f1:u (.sb I)=N (.sb I):=J _ (by simp);have f2:u (.past I)=N (.past I):=J _ (by simp);have f3:u (.still I)=N (.still I):=J _ (by simp);have f4:u (.got I)=N (.got I):=J _ (by simp);refine⟨?_,fun h=>dC (g3.symm.trans h) (by simp),⟨b3,?_,fun t l ht=>?_⟩,?_,?_⟩
    ·rw[f1,K (.sb I) ⟨b,k⟩ (by simp) (by simp) (by simp),r.ok (.sb I) b k];simp only[vG,f2,f3,f4,Q,g3,pP,mD];rw[P]
    ·rw[f2,P];exact m7
    ·by_cases e:t=m.topic
     ·subst e;rw[L]at ht;cases ht;rw[i3];simp only[mE];refine⟨gw.but (S:=fun _=>False) (by omega) fun z3 U=>?_,by rw[at_];exact sw⟩;rw[sw]at U;cases U;exact a7.2 _ (by omega)
     ·rw[v3 t e]at ht;rw[i3];simp only[e,mD];obtain⟨a1,a2⟩:=m2 t l ht;refine⟨a1.but (S:=fun _=>False) (by omega) fun z3 U=>?_,by rw[J _ (by simp[e])];exact a2⟩;rw[a2]at U;cases U;exact K (.msgs I t) ⟨b,l,k,ht⟩ (by simp) (by simp[e]) (by simp)
    ·rw[f3,P];refine m4.congr ?_;rw[a7.2 _ (fun e=>by have:=r.inj (.still I) (.past I) ⟨b,k⟩ ⟨b,k⟩ e;cases this),x6.get _ (by omega) fun e=>?_,x5.get _ (by omega)];obtain⟨w1,w2⟩:=d3 _ e;have:=r.inj (.still I) (.msgs I m.topic) ⟨b,k⟩ w1 w2;cases this
    ·rw[f4,P];exact(r.ok (.got I) b k).congr (K (.got I) ⟨b,k⟩ (by simp) (by simp) (by simp))
   ·rcases G C E s with rfl|⟨h1,h2⟩
    ·rw[at_];exact .inr ⟨by omega,by omega⟩
    ·exact .inl ⟨h2,J C h1⟩
   ·have y3:∀C,C≠.msgs I m.topic→live p N C→u C<h.next:=fun C h1 h2=>by rw[J C h1];exact(r.lt C h2).2
    rcases G C E s with rfl|⟨h1,h2⟩
    ·rcases G C' p3 s3 with rfl|⟨h1,h2⟩
     ·rfl
     ·have:=y3 C' h1 h2;omega
    ·have:=y3 C h1 h2;omega
  ·refine⟨by have:=hB.next;omega,fun j hj=>?_⟩;have o4:j<h.next:=by have:=hB.next;omega
   rw[a7.2 _ (by omega),x6.get _ (by omega) fun e=>?_,x5.get _ (by omega)]
   ·exact o3.get j hj
   ·obtain⟨w1,w2⟩:=d3 _ e;have:=(r.lt _ w1).1;omega
  ·refine⟨fun j hj hn=>?_,wK (fun d Q=>by rw[aC,kL (mV Q)]) (fun C E=>J C fun e=>E (by rw[e];exact rfl)) (fun C E s=>?_),by omega⟩
   ·rw[a7.2 _ fun e=>hn (.past I) ⟨b,k⟩ e.symm,x6.get _ (by omega) fun e=>?_,x5.get _ (by omega),a4.2 _ fun e=>hn (.still I) ⟨b,k⟩ e.symm];obtain⟨w1,w2⟩:=d3 _ e;exact hn _ w1 w2.symm
   ·rcases G C E s with rfl|⟨h1,h2⟩
    ·rw[at_];exact .inr (by omega)
    ·exact .inl ⟨h2,J C h1⟩
def stu (s:St)(m:Msg)(sk:kC Int):St:={s with subs:=s.subs.map fun x=>(x.1,if x.1∈sk then cU m x.2 else x.2)}
omit Z in
def aNs (s:St)(m:Msg):stu s m []=s:=by
 unfold stu;have:(s.subs.map fun x=>(x.1,if x.1∈([]:kC Int)then cU m x.2 else x.2))=s.subs:=by
  conv=>rhs;rw[←List.map_id s.subs]
  exact List.map_congr_left fun x _=>by simp
 rw[this]
omit Z in
def aZb (h:aE p.subs o=some b)(c:o∉sk):aE (stu p m sk).subs o=some b:=by
 have:=eE (fun x:Int×Sb=>if x.1∈sk then cU m x.2 else x.2) o p.subs
 rw[h]at this;exact this.trans (by simp[c])
omit Z in
def aTq (d:(p.subs.map (·.1)).Nodup)(c:aE p.subs o=some b):{stu p m sk with subs:=aM (stu p m sk).subs o (cU m b)}=stu p m (sk++[o]):=by
 have:=wM (f:=fun x:Int×Sb=>if x.1∈sk then cU m x.2 else x.2) (g:=fun x:Int×Sb=>if x.1∈sk++[o]then cU m x.2 else x.2) (o:=o) (v:=cU m b) d ⟨(o,b),aBq c,rfl⟩ (fun x i h=>by simp[h]) (fun x i e=>by
  obtain⟨k,y⟩:=x;simp only at e;subst e;have:=dZ d i;rw[c]at this;cases this;simp)
 simp only[stu,this]
omit Z in
def aZc {s:kC Int}(h:∀x∈p.subs,x.1∈s):stu p m s={p with subs:=p.subs.map fun x=>(x.1,cU m x.2)}:=by
 unfold stu;have:(p.subs.map fun x=>(x.1,if x.1∈s then cU m x.2 else x.2))=p.subs.map fun x=>(x.1,cU m x.2):=List.map_congr_left fun x b=>by rw[kM (h x b)]
 rw[this]
def cMn (r:Rep B h N p a)(hB:Ext B h){mb:Nat}(p3:h.next≤mb)(o3:mb<n)(O:∀o b t U,aE p.subs o=some b→aE b.past t=some U→U.length≤2^40)(kx:Pk.K0 Unit)(k1:∀j c,c .chk=N .chk→Rep B j c {p with subs:=p.subs.map fun x=>(x.1,cU m x.2)} a→Ext B j→h.next≤j.next→kx j=some ()){l:Nat}(hk:p.subs.length<l)(i0:ItK j n (N .subs) rF (p.subs.map fun x=>(x.1,aA (N (.sb x.1)))) [])(x0:Ext h j)(g0:j.get mb=some (.cells (aG m) (some 0)))(d3:n<j.next):
 aSo (CI D) i dm rl kx l (aA mb) (aA n) j=some ():=by
 have k2:=Z.k2;have f3:=(r.lt .subs trivial);refine nM (W:=fun s3 (_:Unit) q3=>aSo (CI D) i dm rl kx s3 (aA mb) (aA n) q3) (I:=fun k _ j=>∃c,(∀C,(∀o t,C≠.msgs o t)→c C=N C)∧Rep B j c (stu p m k) a∧Ext B j∧j.get mb=some (.cells (aG m) (some 0))∧n<j.next∧(∀C,live (stu p m k) c C→c C≠mb∧c C≠n)∧h.next≤j.next) (by omega) (fun s3 p q3 hh=>by simp only[aSo,bPv];exact hh) ?_ ?_ p.subs.length [] () j l List.nodup_nil (by simp) (by simp) hk i0
  ⟨N,fun _ _=>rfl,by rw[aNs];exact r.ext hB.next x0,hB.trans x0,g0,d3,fun C d=>by rw[aNs]at d;have:=(r.lt C d).2;omega,x0.next⟩
 ·intro l k _ j i2 m3 y hy z h3 G i3 R next
  obtain⟨c,w1,r2,e,K,M,E,Q⟩:=i2;simp only[mW]at hy;obtain⟨⟨o,b⟩,P,rfl⟩:=hy;have w:=dZ r.keysU P;have z:o∉k:=z;have u:=aZb (m:=m) w z;have R:A.zT (aA n) h3=some (.tuple ⟨[iN o,aA (N (.sb o))]⟩):=R;have r3:Rep B h3 c (stu p m k) a:=r2.frame e.next (by rw[G.1];exact kQ _) fun C d=>G.2 _ (E C d).2;have q:Ext B h3:=G.ext e (by omega);have g:h3.get mb=some (.cells (aG m) (some 0)):=by rw[G.2 _ (by omega)];exact K
  have n3:=G.1;have q1:c (.sb o)=N (.sb o):=w1 _ (by simp);have q2:c .subs=N .subs:=w1 _ (by simp);have gs:=r3.ok (.sb o) b u;rw[q1]at gs;have V:=ld k2 gs 1 rfl;have s5:=ld k2 gs 5 rfl;have m0:=ld k2 g 0 rfl;have s:=aTq (m:=m) (sk:=k) r.keysU w
  cases S:b.done with
  |true=>
   rw[S]at V;have hm:cU m b=b:=by unfold cU;rw[S];rfl
   rw[hm,iL u]at s;have s:stu p m k=stu p m (k++[o]):=s;have nx:=next () h3 ⟨c,w1,by rw[←s];exact r3,q,g,by omega,by rw[←s];exact E,by omega⟩ i3
   simp only[aNc,aAb,qS,bGl,R,V,sR];exact nx
  |false=>
   rw[S]at V;obtain⟨h4,u4,h',g3,ec,w2,L,r5,b3,J⟩:=bLc Z r3 q u S g (by omega) (fun C d=>(E C d).1) (fun t U ht=>O o b t U w ht);rw[q1]at ec;have s:{stu p m k with subs:=aM (stu p m k).subs o (cU m b)}=stu p m (k++[o]):=s;rw[s]at r5 J;have l3:=J.2.2;have nx:=next () h' ⟨g3,fun C d=>(w2 C d).trans (w1 C d),r5,b3,by rw[J.1 _ (by omega) fun C d=>(E C d).1];exact g,by omega,fun C d=>by
    rcases J.2.1 C d with⟨C0,v1,v2⟩|v
    ·rw[←v2];exact E C0 v1
    ·omega,by omega⟩ (i3.congr (J.1 _ (by omega) fun C d=>(E C d).2) (by rw[←q2];exact L))
   simp only[aNc,aAb,qS,bGl,R,V,sR,s5,m0,u4,ec];exact nx
 ·intro l k _ j i2 X j3 k3;obtain⟨c,w1,r2,e,K,M,E,Q⟩:=i2;simp only[aYa,qS];rw[aZc fun x hx=>X (x.1,aA (N (.sb x.1))) (mN (f:=fun x:Int×Sb=>(x.1,aA (N (.sb x.1)))) hx)]at r2;exact k1 j c (w1 _ (by simp)) r2 e Q
def W19 (ok:RelOK prog 3 TaZ.isR dm rl)(hT:HasT Y B)(V:3≤B.next)(r:Rep B h N s a)(hB:Ext B h)(e:Nat→kA)(v:kA)(f:cD)(no:NoteOk B v f)(K:InvS n (bT fil nam s f).2)(hK:n≤2^40):
 ∃L,fK prog (CI D) TaZ.isR dm rl L 3 26 [aA (N .chk),eF e v f] h (iE B (N .chk) a h (jH fil nam s f)):=by
 have W:=Z.k2;obtain⟨g,i⟩:=eX (h.push (.cells (bU e v f) (some 0)));have e1:A.box 35 (eF e v f) h=some (aA h.next,g):=by rw[i];rfl
 have x1:Ext h g:=by rw[i];exact Ext.push h _
 have n1:g.next=h.next+1:=by rw[i];rfl
 have g1:g.get h.next=some (.cells (bU e v f) (some 0)):=by rw[i,H.get_push,kM rfl]
 have r1:=r.ext hB.next x1;have U:=hB.trans x1;have c0:=ld W (r1.ok .chk) 0 rfl;have M:A.load true 35 (aA h.next) g=some (eF e v f):=by rw[aI,g1];rfl
 obtain⟨c,b3,bb,d,E,r2,w,S⟩:=T26 W hT V r1 U e v f no;obtain⟨O,J⟩:=eX ((bT fil nam s f).2);obtain⟨oc,I⟩:=eX ((bT fil nam s f).1);rw[←J]at r2 S K;rw[←I]at d;have G:bT fil nam s f=(oc,O):=by rw[I,J]
 have a3:∀C,live s N C→N C≠h.next:=fun C hC e=>by have:=(r.lt C hC).2;omega
 have g2:c.get h.next=some (.cells (bU e v f) (some 0)):=by rw[S.1 _ (by omega) a3];exact g1
 have f3:=S.2.2;have t0:∀(x y z:kA),A.u 0 (.tuple ⟨[x,y,z]⟩)=some x:=fun _ _ _=>rfl;have t1:∀(x y z:kA),A.u 1 (.tuple ⟨[x,y,z]⟩)=some y:=fun _ _ _=>rfl;have t2:∀(x y z:kA),A.u 2 (.tuple ⟨[x,y,z]⟩)=some z:=fun _ _ _=>rfl
 cases Q:oc with
 |none=>
  have R:jH fil nam s f=(false,O):=by unfold jH;rw[G,Q]
  rw[Q]at d;have d:CI D 44 [aA (N .mdl),eF e v f] g=some (.tuple ⟨[str (([]:kC Nat).map UInt8.ofNat),.bool bb,.bool false]⟩,c):=d;refine⟨0,cKc ok _ _ h ?_⟩;simp only[F26,bEa,bPx,bPw,e1,qS,sR,c0,M,d,t0,t1,t2];rw[R];exact okU_iff.2 ⟨rfl,⟨b3,E,r2⟩,w,by omega⟩
 |some q=>
  have R:jH fil nam s f=(true,{O with subs:=O.subs.map fun x=>(x.1,cU {f.msg with retain:=true} x.2)}):=by unfold jH;rw[G,Q]
  rw[Q]at d;have d:CI D 44 [aA (N .mdl),eF e v f] g=some (.tuple ⟨[str (q.map UInt8.ofNat),.bool bb,.bool true]⟩,c):=d;have X:A.load true 4 (.pointer (some ⟨h.next,28,none⟩)) c=some (.agg ⟨aG f.msg⟩):=by rw[aI,g2];rfl
  obtain⟨h3,j⟩:=eX (c.push (.cells TaW.Z30L (some 0)));have e3:A.box 4 TaW.Z30 c=some (aA c.next,h3):=by rw[j];rfl
  have g3:h3.get c.next=some (.cells TaW.Z30L (some 0)):=by rw[j,H.get_push,kM rfl]
  obtain⟨P,k⟩:=eX (h3.put c.next (.cells (aG f.msg) (some 0)));have e4:A.store 4 (aA c.next) (.agg ⟨aG f.msg⟩) h3=some P:=by rw[qU,g3,k];rfl
  have g4:P.get c.next=some (.cells (aG f.msg) (some 0)):=by rw[k,H.get_put,kM rfl]
  obtain⟨p,l⟩:∃p,p=P.put c.next (.cells (aG {f.msg with retain:=true}) (some 0)):=⟨_,rfl⟩;have e5:A.store 1 (.pointer (some ⟨c.next,3,none⟩)) (.bool true) P=some p:=by rw[qU,g4,l];rfl
  have g5:p.get c.next=some (.cells (aG {f.msg with retain:=true}) (some 0)):=by rw[l,H.get_put,kM rfl]
  have x5:Ext c p:=by rw[l,k,j];exact((Ext.push c _).put _ _ (kQ _)).put _ _ (kQ _)
  have n5:p.next=c.next+1:=by rw[l,k,j];rfl
  have r5:=r2.ext w.next x5;have c2:=ld W (r5.ok .chk) 2 rfl;rw[E]at c2;obtain⟨bi,er,ei⟩:=nK (r5.ok .subs) (r5.lt .subs trivial).2;refine⟨O.subs.length+1,cKc ok _ _ h ?_⟩;simp only[F26,bEa,bPx,bPw,cGp,bIm,cGo,e1,qS,sR,c0,M,d,t0,t1,t2,X,e3,e4,e5,c2,er];refine cMn Z r2 w (mb:=c.next) (m:={f.msg with retain:=true}) (kQ _) (by omega) (fun o b t ms g c=>kR (K.past o b t ms g c) hK) _ (fun h6 d3 w1 w2 w3 w4=>?_) (mQ _) ei (x5.trans (Ext.push p bi)) (by rw[(Ext.push p bi).get _ (by omega)];exact g5) (mQ _);simp only[cGn];rw[R];exact okU_iff.2 ⟨rfl,⟨d3,w1.trans E,w2⟩,w3,by omega⟩
end
def bR (l:kC (Bs×Bs)):kC (kC kA):=l.map fun x=>[str x.1,str x.2]
def aPh (l:kC (Bs×Bs)):(bR l).length=l.length:=by simp[bR]
structure K4 (D:CF)(T0:H)(fil nam:Bs→Bool)(tak:Bs→Bs→Bool):Prop where
 k3:K3 D T0 fil nam tak
 sf:∀h v (es:kC (Bs×Bs)),Vec 2 h v (bR es)→es.length≤2^41→∃h' u,D 68 [v,.func (.func 69) ⟨[]⟩ ⟨[]⟩] h=some (u,h')∧SliceE 2 h' v (bR (es.mergeSort hle))∧ExtBut (fun i=>sid v=some i) h h'
def yU (c:Bs)(r:Row):kC (Bs×Bs):=r.map fun y=>(y.1,c)
def eP (s:St)(k:kC Bs):kC (Bs×Bs):=k.flatMap fun c=>match aE s.seats c with|some x=>yU c x.row|none=>[]
def aPg {sk:kC Bs}(k:(s.seats.map (·.1)).Nodup)(g:sk.Nodup)(h:∀x∈s.seats,x.1∈sk)(a:∀c∈sk,c∈s.seats.map (·.1)):(eP s sk).mergeSort hle=lQ s:=by
 have p:sk.Perm (s.seats.map (·.1)):=(List.perm_ext_iff_of_nodup g k).2 fun c=>⟨a c,fun f=>by
  obtain⟨x,b,rfl⟩:=mW.1 f;exact h x b⟩
 refine aLf ?_;have e:(eP s sk).Perm (eP s (s.seats.map (·.1))):=p.flatMap_right _;refine e.trans (List.Perm.of_eq ?_);unfold eP;rw[List.flatMap_map];have:∀x∈s.seats,(match aE s.seats x.1 with|some d=>yU x.1 d.row|none=>[])=x.2.row.map fun y=>(y.1,x.1):=fun x b=>by
  obtain⟨c,y⟩:=x;rw[dZ k b];rfl
 rw[List.flatMap_def,List.flatMap_def];exact sX List.flatten (List.map_congr_left this)
def aMf (s:St)(h:H)(v:kA)(a:H):Prop:=SliceE 2 a v (bR (lQ s))∧Ext h a∧(lQ s).length≤2^41∧∀i,sid v=some i→h.next≤i
section
variable {D:CF}{T0:H}{fil nam:Bs→Bool}(Z:K4 D T0 fil nam tak){B:H}{a:Nat}{dm:Pw.Dm}{rl:Pw.Rl}
include Z
def bUu (O:row.length≤16)(R:Pk.K2 Unit)(s:∀i,sid x24=some i→i<h0.next∧sid x30≠some i)(M:es0.length≤2^40)(k1:∀u x,Vec 2 u x (bR (es0++yU c row))→ExtBut (fun j=>sid x30=some j) h0 u→(∀j,sid x=some j→sid x30=some j∨h0.next≤j)→R it x u=some ()):
 ∀(d i m:Nat) (h:H) (x:kA),i+d=row.length→d<m→SliceE 2 h x24 (aW row)→Vec 2 h x (bR (es0++yU c (row.take i)))→ExtBut (fun j=>sid x30=some j) h0 h→(∀j,sid x=some j→sid x30=some j∨h0.next≤j)→
  aSh (CI D) L dm rl R m (iN (row.length:Int)) (iN (i:Int)) (str c) x24 it x h=some ():=by
 have Q:=Z.k3.k2;intro d
 induction d with
 |zero=>
  intro i m h x hi hm G q r p;obtain⟨m,rfl⟩:=pS m (by omega);have C:decide ((i:Int)<(row.length:Int))=false:=kO (by omega);rw[sA (by omega)]at q;simp only[aSh,bFu,zZ,C,qS];exact k1 h x q r p
 |succ d ih=>
  intro i m h x hi hm G q r p;obtain⟨m,rfl⟩:=pS m (by omega);have C:decide ((i:Int)<(row.length:Int))=true:=kN (by omega);obtain⟨y,P⟩:∃y,row[i]?=some y:=⟨_,kZ (by omega)⟩;obtain⟨d3,qq,X,l2⟩:=wC Q G P;obtain⟨g,k,V,W,l0,l1,J,lt⟩:=rQ Q (h:=h) y;have t:A.zI TaW.Z111L [(0,1,str y.1),(1,1,str c)]=some (.agg ⟨[str y.1,str c]⟩):=rfl;have l:=aX (n:=2) (zs:=TaW.Z111L) (v:=.agg ⟨[str y.1,str c]⟩) (vs:=[str y.1,str c]) k rfl rfl rfl;have S:=fQ (h:=k) (n:=2) (vs:=[str y.1,str c]) rfl;obtain⟨h3,o⟩:=eX (k.push (.cells [str y.1,str c] (some 2)));rw[←o]at l S;have b:Ext k h3:=o▸Ext.push k _;have v3:=(q.ext J).ext b;have hle:(bR (es0++yU c (row.take i))).length≤2^40+16:=by simp[bR,yU];omega
  obtain⟨Y,K,I,n4,U⟩:=iH (bs:=32) v3 S (by simp) (by omega) (by simp only[List.length_singleton];omega) (by simp only[List.length_singleton];omega);generalize hw:Value.slice (some ⟨h3.next,0,none⟩) ((bR (es0++yU c (row.take i))).length+[[str y.1,str c]].length) (2*((bR (es0++yU c (row.take i))).length+[[str y.1,str c]].length))=w at K I;have E:sid w=some h3.next:=by rw[←hw];rfl
  have w2:A.z prog .add 3 (iN (i:Int)) (iN 1)=some (iN ((i+1:Nat):Int)):=by rw[bC,aQ (by omega)]
  have ev:bR (es0++yU c (row.take i))++[[str y.1,str c]]=bR (es0++yU c (row.take (i+1))):=by
   have:row.take (i+1)=row.take i++[y]:=by rw[List.take_add_one,P];rfl
   rw[this];simp[bR,yU]
  rw[ev]at I;have a3:=b.next;have b3:=r.next;have nx:=ih (i+1) m Y w (by omega) (by omega) (((G.ext J).ext b).extBut U fun j f e=>by
   have:=(s j f).1;rcases p j e with g|g
   ·exact(s j f).2 g
   ·omega) I ⟨by omega,fun j f N=>by
    rw[U.get j (by omega) fun e=>?_,b.get j (by omega),J.get j (by omega)]
    ·exact r.get j f N
    ·rcases p j e with g|g
     ·exact N g
     ·omega⟩ fun j f=>by rw[E]at f;cases f;exact .inr (by omega)
  simp only[aSh,bFu,zZ,C,qS,X,l2,show TaW.Z57=TaI.Z57 from rfl,V,W,sR,l0,t,l,K,w2];exact nx
def W30 (ok:RelOK prog 3 TaZ.isR dm rl)(r:Rep B h N s a)(hB:Ext B h)(u3:s.seats.length≤2^36):∃L,fK prog (CI D) TaZ.isR dm rl L 3 48 [aA (N .mdl)] h (aMf s h):=by
 have k3:=Z.k3;have k2:=k3.k2;have t3:=aCt (t:=42) (by kernel_rfl) (N .mdl);have m0:=ld k2 (r.ok .mdl) 0 rfl;obtain⟨bi,er,ei⟩:=nK (r.ok .seats) (r.lt .seats trivial).2;have d3:=r.lt .seats trivial;have O:∀c x,aE s.seats c=some x→x.row.length≤16:=fun c x E=>(r.ok (.lst c) x E).1;have p:∀d:kC Bs,(eP s d).length≤d.length*16:=fun d=>by
  induction d with
  |nil=>simp[eP]
  |cons c d ih=>
   have:(eP s (c::d)).length=(match aE s.seats c with|some x=>yU c x.row|none=>[]).length+(eP s d).length:=by simp[eP]
   rw[this,kY];have:(match aE s.seats c with|some x=>yU c x.row|none=>[]).length≤16:=by
    cases E:aE s.seats c with
    |none=>simp
    |some x=>have:=O c x E;simpa[yU]using this
   omega
 refine⟨s.seats.length+17,cNw ok _ h ?_⟩;simp only[F48,bJw,cFh,bIs,cFg,t3,qS,sR,m0,er];refine nM (ek:=cC) (it:=h.next) (m:=N .seats) (l:=s.seats.map fun x=>(x.1,aA (N (.seat x.1)))) (σ:=kA) (W:=fun n o C=>aXh (CI D) (s.seats.length+17) dm rl (fun o h=>bFt (CI D) h o fun J C=>okU (aMf s _ J C)) n (aA h.next) o C)
  (I:=fun d o M=>Vec 2 M o (bR (eP s d))∧Ext h M∧h.next<M.next∧(∀j,sid o=some j→h.next<j)∧d.Nodup∧∀c∈d,c∈s.seats.map (·.1)) (by omega) (fun n s h hh=>by simp only[aXh,bOs];exact hh) ?_ ?_ s.seats.length [] _ _ (s.seats.length+17) List.nodup_nil (by simp) (by simp) (by omega) ei
  ⟨Vec.nil 2 _,Ext.push h bi,mQ _,fun j q=>by simp[sid]at q,List.nodup_nil,by simp⟩
 ·intro n d o M i2 a4 y hy Q h3 a3 i3 e3 next
  obtain⟨v2,J,p3,g,v,z⟩:=i2;simp only[mW]at hy;obtain⟨⟨c,x⟩,G,rfl⟩:=hy;have E:=dZ r.keysS G;have Q:c∉d:=Q;have e3:A.zT (aA h.next) h3=some (.tuple ⟨[str c,aA (N (.seat c))]⟩):=e3;have R:Ext h h3:=a3.ext J (kQ _);have n3:=a3.1;have r3:=r.ext hB.next R;have s0:=ld k2 (r3.ok (.seat c) x E) 0 rfl;obtain⟨U,vv,lr,_⟩:=r3.ok (.lst c) x E;obtain⟨h4,w,g3,sw,Y,fw⟩:=cJx k2 U lr;have v3:Vec 2 h3 o (bR (eP s d)):=v2.extBut (S:=fun j=>j=h.next) ⟨by omega,fun j _ hn=>a3.2 j hn⟩ fun j q e=>by have:=g j q;omega
  have v4:=v3.ext Y;have ln:A.zE w=some (iN (x.row.length:Int)):=by have:=sw.len.1;rwa [aW,pO]at this
  have b4:=Y.next;have l3:=v3.slice.sid_lt;have m3:d.length≤s.seats.length:=by have:=aBg d (s.seats.map (·.1)) v z;simpa using this
  have hc:=p d;have P:eP s (d++[c])=eP s d++yU c x.row:=by
   unfold eP;rw[List.flatMap_append];simp[E]
  have j3:=bUu Z (dm:=dm) (rl:=rl) (L:=s.seats.length+17) (row:=x.row) (c:=c) (it:=aA h.next) (x24:=w) (h0:=h4) (x30:=o) U (fun q3 o C=>aXh (CI D) (s.seats.length+17) dm rl (fun o h=>bFt (CI D) h o fun J C=>okU (aMf s _ J C)) n q3 o C) (fun i hi=>by
   have h1:=fw i hi;exact⟨sw.sid_lt i hi,fun e=>by have:=l3 i e;omega⟩) (es0:=eP s d) (by omega) (fun C s3 v' xb o3=>next s3 C ⟨by rw[P];exact v',⟨by have:=xb.next;have:=R.next;omega,fun j q=>by
    rw[xb.get j (by omega) fun e=>by have:=g j e;omega,Y.get j (by omega)];exact R.get j q⟩,by have:=xb.next;omega,fun j q=>by
     rcases o3 j q with h1|h1
     ·exact g j h1
     ·omega,by
      rw[List.nodup_append];exact⟨v,by simp,fun a ha b hb=>by rw[mC.1 hb];exact fun e=>Q (by have e:a=c:=e;rw[←e];exact ha)⟩,fun k V=>by
      rcases mP.1 V with V|V
      ·exact z k V
      ·rw[mC.1 V];exact mN (f:=(·.1)) G⟩ (i3.congr (by rw[xb.get _ (by omega) fun e=>by have:=g _ e;omega,Y.get _ (by omega)]) (by rw[xb.get _ (by omega) fun e=>by have:=g _ e;omega,Y.get _ (by omega)]))) x.row.length 0 (s.seats.length+17) h4 o (by omega) (by omega) sw (by simpa[yU]using v4) ⟨kQ _,fun _ _ _=>rfl⟩ (fun j q=>.inl q)
  simp only[aNc,aAb,aCc,qS,bOr,e3,s0,sR,g3,ln];exact j3
 ·intro n d o M i2 f3 y3 z3;obtain⟨v2,J,p3,g,v,z⟩:=i2;have m3:d.length≤s.seats.length:=by have:=aBg d (s.seats.map (·.1)) v z;simpa using this
  have hc:=p d;have ha:=aPg (s:=s) (sk:=d) r.keysS v (fun x E=>f3 (x.1,aA (N (.seat x.1))) (mN (f:=fun x:Bs×aCd=>(x.1,aA (N (.seat x.1)))) E)) z;obtain⟨h5,u,K,X,b3⟩:=Z.sf M o (eP s d) v2 (by omega);have K:CI D 68 [o,.func (.func 69) ⟨[]⟩ ⟨[]⟩] M=some (u,h5):=iC K;simp only[aYa,qS,bFt,K];rw[ha]at X;refine okU_iff.2 ⟨X,⟨by have:=J.next;have:=b3.next;omega,fun j q=>?_⟩,?_,fun i hi=>by have:=g i hi;omega⟩
  ·rw[b3.get j (by omega) fun e=>by have:=g j e;omega];exact J.get j q
  ·rw[←ha,List.length_mergeSort];omega
end
def tR {isR:kI→Bool}{d:Pw.Dm}{r:Pw.Rl}{D:CF}{i:kI→kC kA→H→kB (kA×H)}(c:Val isR d r i)(f:isR g=true)(j:d g a h){k:kA→H→kB Unit}(l:∀v b,r g a h v b→k v b=some ()):
 aD (lZ D isR i g a h) k=some ():=by
 obtain⟨v,b,e,m⟩:=(c g a h f).1 j;unfold lZ;rw[f,sV,e];exact l v b m
section
variable {D:CF}{Y:H}{fil nam:Bs→Bool}(Z:K4 D Y fil nam tak){B:H}{a:Nat}{dm:Pw.Dm}{rl:Pw.Rl}
include Z
def bAk (x:SliceE 2 h v (bR l)){y:Bs×Bs}(f:l[n]?=some y):∃o q,A.zB 2 v (iN (n:Int))=some (.pointer (some ⟨q,o,none⟩))∧A.load true 2 (.pointer (some ⟨q,o,none⟩)) h=some (.agg ⟨[str y.1,str y.2]⟩):=by
 have _:=Z;have d:(bR l)[n]?=some [str y.1,str y.2]:=by rw[bR,pL,f];rfl
 obtain⟨id,o,cells,own,e,_,g,b,c,i⟩:=x.at d .i64;refine⟨o,id,e,?_⟩;rw[aI,g];simp only[ble_iff.2 b,sV,c]
def aUw (y:Bs×Bs):∃e d,A.box 2 TaW.Z111 h=some (aA h.next,e)∧A.store 2 (aA h.next) (.agg ⟨[str y.1,str y.2]⟩) e=some d∧A.load false 1 (.pointer (some ⟨h.next,1,none⟩)) d=some (str y.2)∧Ext h d∧d.next=h.next+1:=by
 have _:=Z;obtain⟨e,b⟩:=eX (h.push (.cells TaW.Z111L (some 0)));have g:e.get h.next=some (.cells TaW.Z111L (some 0)):=by rw[b,H.get_push,kM rfl]
 obtain⟨d,c⟩:=eX (e.put h.next (.cells [str y.1,str y.2] (some 0)));have f:d.get h.next=some (.cells [str y.1,str y.2] (some 0)):=by rw[c,H.get_put,kM rfl]
 refine⟨e,d,by rw[b];rfl,by rw[qU,g,c];rfl,by rw[qK,f];rfl,?_,by rw[c,b];simp⟩;rw[c,b];exact(Ext.push h _).put _ _ (kQ _)
def cMm (hT:HasT Y B)(b3:3≤B.next)(r:Rep B h N s a)(hB:Ext B h){x3 p hm sm:Nat}(c7:cs[7]?=some (aV hm))(n3:h.next≤x3)(np:h.next≤p)(nh:h.next≤hm)(d1:x3≠hm)(d2:p≠hm)(d3:sm≠hm)(hl:l.length≤2^41)(sv:sid x≠some hm)(kx:Pk.K3 Unit)(C:kC Bs)(k1:∀k,Ext h k→k.get x3=some (.cells (bU e v W) (some 0))→k.get p=some (.cells cs (some 0))→MapR k hm cC (gJ (l.foldl (fun c u=>if(cB tak s u.2 W.msg.topic).2 then lH c u.2 else c) C))→p<k.next→hm<k.next→MapR k sm cC (gJ [])→sm<k.next→kx (aA (N .chk)) (aA x3) (aA p) k=some ()):
 ∀(d i m:Nat) (c:H) (q:kC Bs),i+d=l.length→d<m→Ext h c→c.get x3=some (.cells (bU e v W) (some 0))→c.get p=some (.cells cs (some 0))→MapR c hm cC (gJ q)→x3<c.next→p<c.next→hm<c.next→SliceE 2 c x (bR l)→MapR c sm cC (gJ [])→sm<c.next→
  (l.drop i).foldl (fun c u=>if(cB tak s u.2 W.msg.topic).2 then lH c u.2 else c) q=l.foldl (fun c u=>if(cB tak s u.2 W.msg.topic).2 then lH c u.2 else c) C→
  aSn (CI D) n dm rl kx m (iN (l.length:Int)) (iN (i:Int)) x (aA (N .chk)) (aA x3) (aA p) c=some ():=by
 have P:=Z.k3.k2;intro d
 induction d with
 |zero=>
  intro i m c q hi f3 u M gp U l3 lp lh sx V R f;obtain⟨m,rfl⟩:=pS m (by omega);have O:decide ((i:Int)<(l.length:Int))=false:=kO (by omega);rw[pZ (by omega)]at f;have f:q=_:=f;rw[f]at U;simp only[aSn,bBy,zZ,O,qS];exact k1 c u M gp U lp lh V R
 |succ d ih=>
  intro i m c q hi f3 u M gp U l3 lp lh sx V R f;obtain⟨m,rfl⟩:=pS m (by omega);have O:decide ((i:Int)<(l.length:Int))=true:=kN (by omega);obtain⟨y,hy⟩:∃y,l[i]?=some y:=⟨_,kZ (by omega)⟩;rw[aU hy,dN]at f;obtain⟨o3,qq,ei,l2⟩:=bAk Z sx hy;obtain⟨h1,h2,e1,e2,Q,x2,n2⟩:=aUw Z (h:=c) y;have J:=u.trans x2;have r2:=r.ext hB.next J;have c0:=ld P (r2.ok .chk) 0 rfl;have a3:h2.get x3=some (.cells (bU e v W) (some 0)):=by rw[x2.get _ l3];exact M
  have G:=ld P a3 28 rfl;obtain⟨h3,g,L⟩:=T27 P hT b3 (hB.trans J) r2 y.2 W.msg.topic;have b:=x2.trans L;have m3:=b.next;have K:=u.trans b;have w:h3.get x3=some (.cells (bU e v W) (some 0)):=by rw[b.get _ l3];exact M
  have o:h3.get p=some (.cells cs (some 0)):=by rw[b.get _ lp];exact gp
  have E:=U.congr (b.get _ lh);have I:=sx.ext b;have w2:A.z prog .add 3 (iN (i:Int)) (iN 1)=some (iN ((i+1:Nat):Int)):=by rw[bC,aQ (by omega)]
  have e3:c.next<h2.next:=by omega
  have i3:A.load false 1 (.pointer (some ⟨c.next,1,none⟩)) h3=some (str y.2):=by
   rw[qK]at Q⊢;rw[L.get _ e3];exact Q
  cases hb:(cB tak s y.2 W.msg.topic).2 with
  |false=>
   rw[hb]at g f;simp only[pP,mD]at f;have nx:=ih (i+1) m h3 q (by omega) (by omega) K w o E (by omega) (by omega) (by omega) I (V.congr (b.get _ R)) (by omega) f;simp only[aSn,bBy,aXl,bPu,bPt,bPs,bGj,zZ,O,qS,ei,l2,e1,e2,c0,Q,G,g,aCc,aAb,sR,sS,w2];exact nx
  |true=>
   rw[hb]at g f;simp only[mE]at f;have p7:=ld P o 7 c7;have X:A.zI TaW.Z103L []=some fU:=rfl;obtain⟨h4,u4,m4,t⟩:=aPy E y.2 fU;rw[nA]at m4;have j3:Ext h h4:=t.ext K nh;have n4:=t.1;have nx:=ih (i+1) m h4 (lH q y.2) (by omega) (by omega) j3 (by rw[t.2 _ d1];exact w) (by rw[t.2 _ d2];exact o) m4 (by omega) (by omega) (by omega) (I.extBut (S:=fun j=>j=hm) ⟨by omega,fun j _ hn=>t.2 j hn⟩ fun j hj e=>sv (by rw[hj,e])) (V.congr (by rw[t.2 _ d3,b.get _ R])) (by omega) f;simp only[aSn,bBy,aXl,bPu,bPt,bPs,bGj,zZ,O,qS,ei,l2,e1,e2,c0,Q,G,g,aCc,aAb,sR,sS,p7,i3,X,u4,w2];exact nx
def nmP (n:Col→Nat)(o:Int)(p h s:Nat):Col→Nat
 | .pub q=>if q=o then p else n (.pub q)
 | .holds q=>if q=o then h else n (.holds q)
 | .serve q=>if q=o then s else n (.serve q)
 |C=>n C
omit Z in
def aZo {l:Nat}(C:Col)(h:¬atP I C):nmP N I n i l C=N C:=by
 cases C<;>first|rfl|exact kL h
omit Z in
def bLa (n:Col→Nat)(o:Int)(p h s:Nat):nmP n o p h s (.pub o)=p∧nmP n o p h s (.holds o)=h∧nmP n o p h s (.serve o)=s:=⟨kM rfl,kM rfl,kM rfl⟩
omit Z in
def wY (h:atP I C):C=.pub I∨C=.holds I∨C=.serve I:=by
 cases C<;>simp only[atP]at h<;>subst h<;>simp
def W20 (ok:RelOK prog 3 TaZ.isR dm rl)(hT:HasT Y B)(p3:3≤B.next)(r:Rep B h N s a)(k:Ext B h)(e:Nat→kA)(v:kA)(n:cD)(t3:∀R,Rep B R N s a→Ext B R→dm 48 [aA (N .mdl)] R)(u3:∀R v W,rl 48 [aA (N .mdl)] R v W→aMf s R v W):
 ∃L,fK prog (CI D) TaZ.isR dm rl L 3 27 [aA (N .chk),eF e v n] h (iE B (N .chk) a h (iA tak s a n)):=by
 have I:=Z.k3.k2;obtain⟨i,m⟩:=eX (h.push (.cells (bU e v n) (some 0)));have e1:A.box 35 (eF e v n) h=some (aA h.next,i):=by rw[m];rfl
 have x1:Ext h i:=by rw[m];exact Ext.push h _
 have n1:i.next=h.next+1:=by rw[m];rfl
 have g1:i.get h.next=some (.cells (bU e v n) (some 0)):=by rw[m,H.get_push,kM rfl]
 have r1:=r.ext k.next x1;have K:=ld I g1 1 rfl;have d4:=ld I g1 3 rfl;have c1:=ld I (r1.ok .chk) 1 rfl;have c3:=ld I (r1.ok .chk) 3 rfl;have y3:A.load true 4 (.pointer (some ⟨h.next,28,none⟩)) i=some (.agg ⟨aG n.msg⟩):=by rw[aI,g1];rfl
 have w:=aYt r1 n.op;have G:∀(b:H),Ext h b→iA tak s a n=(false,s)→okU (iE B (N .chk) a h (iA tak s a n) (.bool false) b)=some ():=fun b x he=>okU_iff.2 ⟨by rw[he],⟨N,rfl,by rw[he];exact r.ext k.next x⟩,k.trans x,x.next⟩;by_cases ho:n.op<1
 ·refine⟨0,bUd ok _ _ h ?_⟩;simp only[F27,aXx,bGk,e1,qS,K,zZ,kN ho];exact G i x1 (by simp only[iA,kM (show n.op<1∨(aE s.pubs n.op).isSome=true from .inl ho)])
 have X:=kO ho
 cases hp:aE s.pubs n.op with
 |some p0=>
  rw[hp]at w;have J:A.z prog .neq 65 (aA (N (.pub n.op))) (.pointer none)=some (.bool true):=bKi (t:=65) (by kernel_rfl) _;refine⟨0,bUd ok _ _ h ?_⟩;simp only[F27,aXx,bGk,e1,qS,sR,K,zZ,X,c1,show TaW.Z65=.pointer none from rfl,w,mA,jJ,J];exact G i x1 (by simp only[iA,hp,dW,or_true,mE])
 |none=>
  rw[hp]at w;have J:A.z prog .neq 65 (.pointer none) (.pointer none)=some (.bool false):=by kernel_rfl
  have j3:iA tak s a n=(true,{s with pubs:=aM s.pubs n.op ⟨n.client,n.msg,a,true,(lQ s).foldl (fun h x=>if(cB tak s x.2 n.msg.topic).2 then lH h x.2 else h) [],[]⟩}):=by
   have:¬(n.op<1∨(none:kB Pub).isSome=true):=by simp[ho]
   simp only[iA,hp,kL this]
  obtain⟨b,o⟩:=eX (i.push (.map [] 0));obtain⟨h3,q⟩:=eX (b.push (.map [] 0));have n2:b.next=i.next+1:=by rw[o];rfl
  have n3:h3.next=b.next+1:=by rw[q];rfl
  have e2:A.zL i=some (aV i.next,b):=by rw[o];rfl
  have e3:A.zL b=some (aV b.next,h3):=by rw[q];rfl
  have x2:Ext i b:=by rw[o];exact Ext.push i _
  have x3:Ext b h3:=by rw[q];exact Ext.push b _
  obtain⟨Q,l⟩:=eX ([str n.client,str n.msg.topic,str n.msg.payload,iU (n.msg.qos:Int),.bool n.msg.retain,iN (a:Int),.bool true,aV i.next,aV b.next]);have e4:A.zI TaW.Z105L [(0,1,str n.client),(1,4,.agg ⟨aG n.msg⟩),(5,1,iN (a:Int)),(6,1,.bool true),(7,1,aV i.next),(8,1,aV b.next)]=some (.agg ⟨Q⟩):=by rw[l];rfl
  obtain⟨E,u⟩:=eX (h3.push (.cells Q (some 0)));have e5:A.box 9 (.agg ⟨Q⟩) h3=some (aA h3.next,E):=by rw[u,l];rfl
  have x4:Ext h3 E:=by rw[u];exact Ext.push h3 _
  have n4:E.next=h3.next+1:=by rw[u];rfl
  have d3:=x2.trans (x3.trans x4);have M:=x1.trans d3;have m2:MapR b i.next cC ([]:kC (Bs×kA)):=by rw[o];exact MapR.made i cC
  have m3:MapR h3 b.next cC ([]:kC (Bs×kA)):=by rw[q];exact MapR.made b cC
  have a4:MapR E i.next cC (gJ []):=m2.congr (by rw[x4.get _ (by omega),x3.get _ (by omega)]);have b4:MapR E b.next cC (gJ []):=m3.congr (by rw[x4.get _ (by omega)]);have o3:E.get h3.next=some (.cells Q (some 0)):=by rw[u,H.get_push,kM rfl]
  have l3:E.get h.next=some (.cells (bU e v n) (some 0)):=by rw[d3.get _ (by omega)];exact g1
  have r4:=r.ext k.next M;have q3:=k.trans M;have c0:=ld I (r4.ok .chk) 0 rfl;refine⟨(lQ s).length+1,bUd ok _ _ h ?_⟩;simp only[F27,aXx,bGk,cGm,bIv,cGl,e1,qS,sR,K,zZ,X,c1,show TaW.Z65=.pointer none from rfl,w,dV,jJ,J,d4,y3,c3,e2,e3,e4,e5,yW];refine okU_iff.2 fun φ v3=>?_;simp only[c0,qS];refine tR v3 rfl (t3 E r4 q3) fun vl h5 hR=>?_;obtain⟨s5,V,U,fr⟩:=u3 _ _ _ hR;have ln:A.zE vl=some (iN ((lQ s).length:Int)):=by have:=s5.len.1;rwa [aPh]at this
  simp only[ln,qS];have i4:=V.next;refine cMm Z hT p3 r k (x3:=h.next) (p:=h3.next) (hm:=i.next) (sm:=b.next) (cs:=Q) (by rw[l];rfl) (by omega) (by omega) (by omega) (by omega) (by omega) (by omega) U (fun e=>by have:=fr _ e;omega) _ [] (fun h6 O g3 gp mh lp lh ms ls=>?_) (lQ s).length 0 _ h5 [] (by omega) (mQ _) (M.trans V) (by rw[V.get _ (by omega)];exact l3) (by rw[V.get _ (by omega)];exact o3) (a4.congr (V.get _ (by omega))) (by omega) (by omega) (by omega) s5 (b4.congr (V.get _ (by omega))) (by omega) rfl;have r6:=r.ext k.next O;have i3:=ld I (r6.ok .chk) 1 rfl;have b3:=ld I g3 1 rfl;obtain⟨h7,u7,m7,a7⟩:=cEi (r6.ok .pubs) n.op (aA h3.next);have z3:=r.lt .pubs trivial;have n7:=a7.1;obtain⟨P,hP⟩:∃P:Pub,P=⟨n.client,n.msg,a,true,(lQ s).foldl (fun h x=>if(cB tak s x.2 n.msg.topic).2 then lH h x.2 else h) [],[]⟩:=⟨_,rfl⟩
  obtain⟨a1,a2,a3⟩:=bLa N n.op h3.next i.next b.next;have hg:aE (aM s.pubs n.op P) n.op=some P:=by rw[aC,kM rfl]
  have o7:∀j,j≠N .pubs→h7.get j=h6.get j:=a7.2;have f3:∀C,atP n.op C→h.next≤nmP N n.op h3.next i.next b.next C∧nmP N n.op h3.next i.next b.next C<h7.next:=fun C S=>by
   rcases wY S with rfl|rfl|rfl
   ·rw[a1];omega
   ·rw[a2];omega
   ·rw[a3];omega
  simp only[cGk,qS,sR,i3,b3,u7];rw[j3,←hP];refine okU_iff.2 ⟨rfl,⟨nmP N n.op h3.next i.next b.next,rfl,?_⟩,a7.ext (k.trans O) z3.1,by omega⟩;refine r.pub1 k.next (by omega) (fun d hd=>by rw[aC,kL (mV hd)]) aZo (fun C U S hn=>?_) ?_ (fun y hy=>?_) (fun C S U=>.inr (f3 C S)) (fun C C' S s3 U g4 f4 he=>?_)
  ·rw[o7 _ fun e=>hn (r.inj _ _ U trivial e)];exact O.get _ (r.lt C U).2
  ·have:=jZ (a:=P) (f:=fun d=>aA (N (.pub d))) (g:=fun d=>aA (nmP N n.op h3.next i.next b.next (.pub d))) (c:=n.op) (fun d hd=>by simp only[nmP,kL hd]) r.keysP;rw[a1]at this;rw[←this];exact m7
  ·rw[hg]at hy;cases hy;rw[a1,a2,a3];refine⟨?_,?_,?_⟩
   ·rw[o7 _ (by omega),gp,l,hP];simp only[aPz,a2,a3]
   ·rw[hP];exact mh.congr (o7 _ (by omega))
   ·rw[hP];exact ms.congr (o7 _ (by omega))
  ·rcases wY S with rfl|rfl|rfl<;>rcases wY s3 with rfl|rfl|rfl<;>simp only[a1,a2,a3]at he
   any_goals rfl
   all_goals omega
end
def aFz:∀f,TaZ.isR f=true→f<Y0∧∃n c,prog.funcs[f]?=some n∧n.body=some c∧n.name≠ "runtime.NumGoroutine" :=by
 have l:([48,25,26,28,30,31,27,16,6].all fun f=>decide (f<Y0)&&(match prog.funcs[f]? with|some n=>n.body.isSome&&!(n.name== "runtime.NumGoroutine")|none=>false))=true:=by kernel_rfl
 intro f d;unfold TaZ.isR at d;obtain⟨g,m,k⟩:=rP.1 d;have:=beq_iff.1 k;subst this;have h:=mB.1 l f m;rw[pA]at h;obtain⟨i,a⟩:=h;refine⟨tE i,?_⟩
 cases b:prog.funcs[f]? with
 |none=>rw[b]at a;cases a
 |some n=>
  rw[b]at a;simp only[pA]at a;obtain⟨c,j⟩:=Option.isSome_iff_exists.1 a.1;exact⟨n,c,rfl,j,fun e=>by rw[e]at a;simp at a⟩
def hdP:kC kA→Nat
 | .pointer (some a)::_=>a.block
 |_=>0
section
variable (fil nam:Bs→Bool)(tak:Bs→Bs→Bool)(B:H)(s:St)(a:Nat)(e:Nat→kA)(v:kA)(n:cD)
def cMz:Pw.Dm:=fun f r h=>f=48∧∃m,Rep B h m s a∧Ext B h∧r=[aA (m .mdl)]
def cLd:Pw.Rl:=fun _ _ h v b=>aMf s h v b
def bEc (f:Nat):Bool×St:=if f=25 then nG fil nam tak s n else if f=26 then jH fil nam s n else if f=27 then iA tak s a n else if f=28 then gV tak s n else if f=30 then eA s n.op else eW tak (eA s n.op).2 n.op
def dmR:Pw.Dm:=fun f r h=>∃m,Ext B h∧(((f=25∧n.kind=2∨f=26∨f=27∨f=28)∧Rep B h m s a∧r=[aA (m .chk),eF e v n])∨(f=30∧Rep B h m s a∧r=[aA (m .chk),jJ ((aE s.pubs n.op).map fun _=>m (.pub n.op))])∨
 (f=31∧Rep B h m (eA s n.op).2 a∧r=[aA (m .chk),jJ ((aE (eA s n.op).2.subs n.op).map fun _=>m (.sb n.op))]))
def rlR:Pw.Rl:=fun f r h v b=>match decide (f=30)with|true=>iE B (hdP r) a h (bEc fil nam tak s a n f) v b∧KeepN h b|false=>iE B (hdP r) a h (bEc fil nam tak s a n f) v b
end
def aBo {fil nam:Bs→Bool}{B:H}{a:Nat}{n:cD}{d:kC kA}(r:rlR fil nam tak B s a n Q d h v j):iE B (hdP d) a h (bEc fil nam tak s a n Q) v j:=by
 unfold rlR at r
 cases b:decide (Q=30)with
 |true=>rw[b]at r;exact r.1
 |false=>rw[b]at r;exact r
section
variable {D:CF}{Y:H}{fil nam:Bs→Bool}(k:K4 D Y fil nam tak){B:H}{a K:Nat}{n:cD}(Z:aO prog 3 (CI D))
include k Z
def cLp (i:s.seats.length≤2^36):RelOK prog 3 TaZ.isR (cMz B s a) (cLd s):=by
 refine RelOK.layer (by kernel_rfl) (by kernel_rfl) Z (RelOK.zero aFz) (fun f b h _ d=>?_) fun f b h v j _ g=>g.2.1.next;obtain⟨rfl,m,r,c,rfl⟩:=d;exact W30 k (RelOK.zero aFz) r c i
def okR (j:HasT Y B)(b:3≤B.next)(q:NoteOk B v n)(w:s.seats.length≤2^36)(c:InvS K s)(i:InvS K (bT fil nam s n).2)(p:K≤2^40):RelOK prog 3 TaZ.isR (dmR B s a e v n) (rlR fil nam tak B s a n):=by
 have o:=cLp k (B:=B) (s:=s) (a:=a) Z w;have x:Inv (eA s n.op).2:=by
  unfold eA;split
  ·exact c.opn
  ·split
   ·exact c.opn
   ·exact c.opn
 refine RelOK.layer (by kernel_rfl) (by kernel_rfl) Z o (fun f g h _ m=>?_) fun f g h v t _ u=>(aBo u).2.2.2;obtain⟨y,d,m⟩:=m;rcases m with⟨hf,r,rfl⟩|⟨rfl,r,rfl⟩|⟨rfl,r,rfl⟩
 ·rcases hf with⟨rfl,hk⟩|rfl|rfl|rfl
  ·exact W18 k.k3 o j b r d e v n q hk i p
  ·exact W19 k.k3 o j b r d e v n q i p
  ·exact W20 k o j b r d e v n (fun t z l=>⟨rfl,y,z,l,rfl⟩) fun _ _ _ h=>h
  ·exact W21 k.k3.k2 o j b r d e v n
 ·exact W23 k.k3.k2 o r d n.op
 ·exact W24 k.k3.k2 o j b r d x n.op
def W15 (hT:HasT Y B)(l3:3≤B.next)(no:NoteOk B v n)(hs:s.seats.length≤2^36)(a3:InvS K s)(m3:InvS K (bT fil nam s n).2)(hK:K≤2^40)(r:Rep B h N s a)(hB:Ext B h):
 ∃L,fK prog (CI D) TaZ.isR (dmR B s a e v n) (rlR fil nam tak B s a n) L 3 16 [aA (N .chk),eF e v n] h (iE B (N .chk) a h (aT fil nam tak s a n)):=by
 have k2:=k.k3.k2;have ok:=okR k (B:=B) (s:=s) (a:=a) (e:=e) Z hT l3 no hs a3 m3 hK;obtain⟨W,R⟩:=eX (h.push (.cells (bU e v n) (some 0)));have w:A.box 35 (eF e v n) h=some (aA h.next,W):=by rw[R];rfl
 have x1:Ext h W:=by rw[R];exact Ext.push h _
 have n1:W.next=h.next+1:=by rw[R];rfl
 have g1:W.get h.next=some (.cells (bU e v n) (some 0)):=by rw[R,H.get_push,kM rfl]
 have r1:=r.ext hB.next x1;have j:=hB.trans x1;have g:=ld k2 g1 0 rfl;have G:=ld k2 g1 1 rfl;have e3:=ld k2 g1 4 rfl;have b3:A.load true 35 (aA h.next) W=some (eF e v n):=by rw[aI,g1];rfl
 have c1:=ld k2 (r1.ok .chk) 1 rfl;have c2:=ld k2 (r1.ok .chk) 2 rfl;have E:=aYt r1 n.op;have U:=aRh r1 n.op;refine⟨0,cNx ok _ _ h ?_⟩;have o:∀f,TaZ.isR f=true→dmR B s a e v n f [aA (N .chk),eF e v n] W→aT fil nam tak s a n=bEc fil nam tak s a n f→
  yW TaZ.isR (dmR B s a e v n) (rlR fil nam tak B s a n) (CI D) (fun C=>bnd (A.load true 35 (aA h.next) W) fun b=>aD (C f [aA (N .chk),b] W) fun c d=>aF c fun e=>okU (iE B (N .chk) a h (aT fil nam tak s a n) (.bool e) d))=some ():=fun f hf hd he=>by
  refine okU_iff.2 fun φ S=>?_;simp only[b3,qS];refine tR S hf hd fun v' h' hR=>?_;obtain⟨hv,J,q2,q3⟩:=aBo hR;subst hv;simp only[qS];rw[he];exact okU_iff.2 ⟨rfl,J,q2,by omega⟩
 by_cases x:n.kind=1
 ·have u:decide ((n.kind:Int)=1)=true:=kN (by omega);by_cases h8:n.ptype=8
  ·have P:decide ((n.ptype:Int)=8)=true:=kN (by omega)
   cases hb:aE s.subs n.op with
   |some b=>
    rw[hb]at U;have f3:=aCt (t:=63) (by kernel_rfl) (N (.sb n.op));have q:aT fil nam tak s a n=(true,s):=by unfold aT;rw[kM x];simp[hb]
    simp only[F16,aAh,aCq,aAg,aCp,aCo,bHf,bCm,w,qS,sR,sS,g,zQ,u,e3,P,c2,G,show TaW.Z63=.pointer none from rfl,U,mA,jJ,f3];rw[q];exact okU_iff.2 ⟨rfl,⟨N,rfl,r1⟩,j,x1.next⟩
   |none=>
    rw[hb]at U;have f3:A.z prog .eql 63 (.pointer none) (.pointer none)=some (.bool true):=by kernel_rfl
    have q:aT fil nam tak s a n=(true,{s with subs:=aM s.subs n.op (cJ s)}):=by unfold aT;rw[kM x];simp[hb,h8]
    obtain⟨h2,I,s3,J,r2,Q,f2⟩:=T17 k.k3 r1 j (a3.kept.up hK) hb;simp only[F16,aAh,aCq,aAg,aCp,aCo,bHf,bCm,w,qS,sR,sS,g,zQ,u,e3,P,c2,G,show TaW.Z63=.pointer none from rfl,U,dV,jJ,f3,s3];rw[q];exact okU_iff.2 ⟨rfl,⟨I,J,r2⟩,Q,by have:=f2.2.2;omega⟩
  ·have P:decide ((n.ptype:Int)=8)=false:=kO (by omega);have q:aT fil nam tak s a n=(true,s):=by unfold aT;rw[kM x];simp[h8]
   simp only[F16,aAh,aCq,aAg,aCp,aCo,bHf,bCm,w,qS,sR,sS,g,zQ,u,e3,P];rw[q];exact okU_iff.2 ⟨rfl,⟨N,rfl,r1⟩,j,x1.next⟩
 have u:decide ((n.kind:Int)=1)=false:=kO (by omega);by_cases l:n.kind=2
 ·have M:decide ((n.kind:Int)=2)=true:=kN (by omega);have i:=o 25 rfl ⟨N,j,.inl ⟨.inl ⟨rfl,l⟩,r1,rfl⟩⟩ (by unfold aT;rw[kL x,kM l];rfl);simp only[F16,aAh,aCq,aAg,aCp,aCo,aKc,cHk,w,qS,sR,g,zQ,u,M];exact i
 have M:decide ((n.kind:Int)=2)=false:=kO (by omega);by_cases X:n.kind=5
 ·have O:decide ((n.kind:Int)=5)=true:=kN (by omega);have i:=o 26 rfl ⟨N,j,.inl ⟨.inr (.inl rfl),r1,rfl⟩⟩ (by unfold aT;rw[kL x,kL l,kM X];rfl);simp only[F16,aAh,aCq,aAg,aCp,aCo,aKc,aMk,cHl,w,qS,sR,g,zQ,u,M,O];exact i
 have O:decide ((n.kind:Int)=5)=false:=kO (by omega);by_cases m:n.kind=4
 ·have V:decide ((n.kind:Int)=4)=true:=kN (by omega);have i:=o 27 rfl ⟨N,j,.inl ⟨.inr (.inr (.inl rfl)),r1,rfl⟩⟩ (by unfold aT;rw[kL x,kL l,kL X,kM m];rfl);simp only[F16,aAh,aCq,aAg,aCp,aCo,aKc,aMk,aQf,cHm,w,qS,sR,g,zQ,u,M,O,V];exact i
 have V:decide ((n.kind:Int)=4)=false:=kO (by omega);by_cases k6:n.kind=6
 ·have d6:decide ((n.kind:Int)=6)=true:=kN (by omega);have i:=o 28 rfl ⟨N,j,.inl ⟨.inr (.inr (.inr rfl)),r1,rfl⟩⟩ (by unfold aT;rw[kL x,kL l,kL X,kL m,kM k6];rfl);simp only[F16,aAh,aCq,aAg,aCp,aCo,aKc,aMk,aQf,aSc,cHn,w,qS,sR,g,zQ,u,M,O,V,d6];exact i
 have d6:decide ((n.kind:Int)=6)=false:=kO (by omega);obtain⟨t3,x3,j3,u3⟩:=T22 k.k3 hT l3 r1 j a3 hK e v n;have y:aT fil nam tak s a n=eQ tak s n→(aF x3 fun e=>okU (iE B (N .chk) a h (aT fil nam tak s a n) (.bool e) t3))=some ():=fun he=>by
  obtain⟨hv,J,q2,q3⟩:=u3;subst hv;simp only[qS];rw[he];exact okU_iff.2 ⟨rfl,J,q2,by omega⟩
 by_cases k7:n.kind=7
 ·have d7:decide ((n.kind:Int)=7)=true:=kN (by omega)
  cases hp:aE s.pubs n.op with
  |some p=>
   rw[hp]at E;have g3:A.z prog .neq 65 (aA (N (.pub n.op))) (.pointer none)=some (.bool true):=bKi (t:=65) (by kernel_rfl) _;have i:=o 28 rfl ⟨N,j,.inl ⟨.inr (.inr (.inr rfl)),r1,rfl⟩⟩ (by unfold aT;rw[kL x,kL l,kL X,kL m,kL k6,kM k7];simp only[hp,dW,mE];rfl);simp only[F16,aAh,aCq,aAg,aCp,aCo,aKc,aMk,aQf,aSc,aWv,bQo,w,qS,sR,g,zQ,u,M,O,V,d6,d7,c1,G,show TaW.Z65=.pointer none from rfl,E,mA,jJ,g3];exact i
  |none=>
   rw[hp]at E;have g3:A.z prog .neq 65 (.pointer none) (.pointer none)=some (.bool false):=by kernel_rfl
   have i:=y (by unfold aT;rw[kL x,kL l,kL X,kL m,kL k6,kM k7];simp only[hp,dX,pP,mD]);simp only[F16,aAh,aCq,aAg,aCp,aCo,aKc,aMk,aQf,aSc,aWv,bQo,w,qS,sR,g,zQ,u,M,O,V,d6,d7,c1,G,show TaW.Z65=.pointer none from rfl,E,dV,jJ,g3,b3,j3];exact i
 have d7:decide ((n.kind:Int)=7)=false:=kO (by omega);by_cases k8:n.kind=8
 ·have P:decide ((n.kind:Int)=8)=true:=kN (by omega);have i:=y (by unfold aT;rw[kL x,kL l,kL X,kL m,kL k6,kL k7,kM k8]);simp only[F16,aAh,aCq,aAg,aCp,aCo,aKc,aMk,aQf,aSc,aWv,bHg,cHo,w,qS,sR,g,zQ,u,M,O,V,d6,d7,P,b3,j3];exact i
 have P:decide ((n.kind:Int)=8)=false:=kO (by omega);by_cases n3:n.kind=3
 case neg=>
  have d3:decide ((n.kind:Int)=3)=false:=kO (by omega);have q:aT fil nam tak s a n=(true,s):=by unfold aT;rw[kL x,kL l,kL X,kL m,kL k6,kL k7,kL k8,kL n3]
  simp only[F16,aAh,aCq,aAg,aCp,aCo,aKc,aMk,aQf,aSc,aWv,bHg,bQp,cHr,bCm,w,qS,sR,g,zQ,u,M,O,V,d6,d7,P,d3];rw[q];exact okU_iff.2 ⟨rfl,⟨N,rfl,r1⟩,j,x1.next⟩
 have d3:decide ((n.kind:Int)=3)=true:=kN (by omega);have q:aT fil nam tak s a n=(if(eA s n.op).1 then eW tak (eA s n.op).2 n.op else eA s n.op):=by unfold aT;rw[kL x,kL l,kL X,kL m,kL k6,kL k7,kL k8,kM n3]
 simp only[F16,aAh,aCq,aAg,aCp,aCo,aKc,aMk,aQf,aSc,aWv,bHg,bQp,cHq,cHp,w,qS,sR,g,zQ,u,M,O,V,d6,d7,P,d3,yW];refine okU_iff.2 fun φ S=>?_;simp only[c1,qS,G,show TaW.Z65=.pointer none from rfl,E];refine tR S rfl ⟨N,j,.inr (.inl ⟨rfl,r1,rfl⟩)⟩ fun v2 h2 hR=>?_;obtain⟨⟨hv,⟨I,J,r2⟩,Q,q3⟩,kp⟩:=hR;subst hv;have J:I .chk=N .chk:=J;have eo:bEc fil nam tak s a n 30=eA s n.op:=rfl;rw[eo]at r2⊢
 cases ht:(eA s n.op).1 with
 |false=>
  rw[ht]at q;simp only[pP,mD]at q;simp only[qS];rw[q];exact okU_iff.2 ⟨by rw[ht],⟨I,J,r2⟩,Q,by omega⟩
 |true=>
  rw[ht]at q;simp only[mE]at q;have i3:=ld k2 (r2.ok .chk) 2 rfl;rw[J]at i3;have p3:A.load false 1 (.pointer (some ⟨h.next,1,none⟩)) h2=some (iN n.op):=ld k2 (kp h.next _ (by omega) rfl g1) 1 rfl;have o3:=aRh r2 n.op;simp only[qS,i3,p3,show TaW.Z63=.pointer none from rfl,o3];refine tR S rfl ⟨I,Q,.inr (.inr ⟨rfl,r2,by rw[J]⟩)⟩ fun v3 h3 hR=>?_;obtain⟨hv,q4,q5,q6⟩:=aBo hR;subst hv;simp only[qS];rw[q];exact okU_iff.2 ⟨rfl,q4,q5,by omega⟩
end
def aBp {Y X:Type}[DecidableEq Y](c:Y)(a:X):∀l:kC (Y×X),(aM l c a).length≤l.length+1
 |[]=>by simp[aM]
 |(k,x)::r=>by
  simp only[aM];split
  ·simp
  ·have:=aBp c a r;simp only[kY];omega
def aBr {Y X:Type}[DecidableEq Y](c:Y):∀l:kC (Y×X),(jA l c).length≤l.length
 |[]=>by simp[jA]
 |(k,x)::r=>by
  simp only[jA];split
  ·simp
  ·have:=aBr c r;simp only[kY];omega
def aIx {Y X:Type}[DecidableEq Y]{c:Y}{a:X}:∀{l:kC (Y×X)} (x:Y×X),x∈aM l c a→x.1=c∨∃y∈l,x.1=y.1
 |[],x,h=>by simp only[aM,mC]at h;exact .inl (by rw[h])
 |(k,b)::r,x,h=>by
  simp only[aM]at h;split at h
  ·rename_i e;rcases sI.1 h with h|h
   ·exact .inl (by rw[h];first|exact e|rfl)
   ·exact .inr ⟨x,mL _ h,rfl⟩
  ·rcases sI.1 h with h|h
   ·exact .inr ⟨_,mO,by rw[h]⟩
   ·rcases aIx x h with e|⟨y,d,e⟩
    ·exact .inl e
    ·exact .inr ⟨y,mL _ d,e⟩
def InvB (K:Nat)(b:Sb):Prop:=(b.open_=true→b.done=true)∧∀t m,aE b.past t=some m→m.length≤K
def InvS.mk' (a:∀o b,aE p.subs o=some b→InvB n b)(c:KeysOk n p.kept)(h3:p.seats.length≤n):InvS n p:=⟨fun o b h=>(a o b h).1,fun o b t m h=>(a o b h).2 t m,c,h3⟩
def InvS.sb (i:InvS n p)(h:aE p.subs o=some b):InvB n b:=⟨i.opn o b h,fun t m=>i.past o b t m h⟩
def InvB.up (c:InvB n b)(h:n≤i):InvB i b:=⟨c.1,fun t m a=>kR (c.2 t m a) h⟩
def InvS.up {n i:Nat}{p:St}(c:InvS n p)(h:n≤i):InvS i p:=.mk' (fun o b a=>(c.sb a).up h) (c.kept.up h) (kR c.seats h)
def InvS.pubs {n:Nat}{s:St}(i:InvS n s)(p:kC (Int×Pub)):InvS n {s with pubs:=p}:=.mk' (fun _ _ h=>i.sb h) i.kept i.seats
def InvS.put (i:InvS n p)(a:InvB n b):InvS n {p with subs:=aM p.subs I b}:=.mk' (fun o c h=>by
 simp only[aC]at h;split at h
 ·cases h;exact a
 ·exact i.sb h) i.kept i.seats
section
variable (fil nam:Bs→Bool)(tak:Bs→Bs→Bool)
def aEg {K:Nat}(i:InvS K s)(n:cD)(t:n.msg.topic.length≤maxLen):InvS (K+1) (bT fil nam s n).2:=by
 have a:=i.up (sF K);have seat:∀(l:kC (Bs×aCd)),l.length≤K+1→InvS (K+1) {s with seats:=l}:=fun l d=>.mk' (fun _ _ b=>a.sb b) a.kept d;have kept:∀(l:kC (Bs×Msg)),KeysOk (K+1) l→InvS (K+1) {s with kept:=l}:=fun l d=>.mk' (fun _ _ b=>a.sb b) d a.seats;have p:∀(c:Bs) (x:aCd),(aM s.seats c x).length≤K+1:=fun c x=>by have:=aBp c x s.seats;have:=i.seats;omega
 unfold bT;split
 ·unfold fH;split
  ·refine kept _ ?_;split
   ·exact⟨by have:=aBr n.msg.topic s.kept;have:=i.kept.1;omega,fun x f=>i.kept.2 x ((vQ s.kept _).subset f)⟩
   ·exact⟨kR (aBp _ _ _) (by have:=i.kept.1;omega),fun x f=>(aIx x f).elim (fun e=>e▸t) fun⟨y,k,e⟩=>e▸i.kept.2 y k⟩
  ·exact a
 ·split
  ·exact a
  ·split
   ·unfold aS;by_cases j:n.conn<1
    ·simp only[kM j];exact a
    ·simp only[kL j]
     cases aE s.seats n.client with
     |none=>exact seat _ (p _ _)
     |some x=>
      simp only;by_cases g:0<x.conn
      ·simp only[kM g];exact a
      ·simp only[kL g];split
       ·rename_i h;split at h<;>(cases h;exact seat _ (p _ _))
       ·exact a
   ·split
    ·exact a
    ·split
     ·exact a
     ·split
      ·exact seat _ (p _ _)
      ·split
       ·exact seat _ (p _ _)
       ·split
        ·refine seat _ ?_;split
         ·have:=aBr n.client s.seats;have:=i.seats;omega
         ·exact p _ _
        ·exact a
def aEz (s:St)(n:cD):((aS s n).getD s).subs=s.subs:=by
 unfold aS;by_cases c:n.conn<1
 ·simp only[kM c];rfl
 ·simp only[kL c]
  cases aE s.seats n.client with
  |none=>rfl
  |some x=>
   simp only;by_cases h:0<x.conn
   ·simp only[kM h];rfl
   ·simp only[kL h];split<;>rfl
def aLr (s:St)(n:cD):(bT fil nam s n).2.subs=s.subs:=by
 have c:=aEz s n;unfold bT;split
 ·unfold fH;split<;>rfl
 ·split
  ·rfl
  ·split
   ·split
    ·rename_i a h;rw[h]at c;exact c
    ·rfl
   ·split
    ·rfl
    ·split
     ·rfl
     ·split
      ·rfl
      ·split
       ·rfl
       ·split<;>rfl
def aBe:∀(l:kC Msg) (b:Sb),b.open_=false→(∀t s,aE b.past t=some s→s.length≤1)→(fN b l).open_=false∧∀t s,aE (fN b l).past t=some s→s.length≤1
 |[],b,h1,h2=>⟨h1,h2⟩
 |m::l,b,h1,h2=>aBe l _ h1 fun t s h=>by
  simp only[aC]at h;split at h
  ·cases h;simp
  ·exact h2 t s h
def aEd (s:St)(K:1≤n):InvB n (cJ s):=by
 obtain⟨b,c⟩:=aBe (gP s) {} rfl (fun t m a=>by cases a);refine⟨fun h=>?_,fun t m a=>kR (c t m a) K⟩;unfold cJ at h;rw[b]at h;cases h
def aUb (i:InvB n b)(K:1≤n+1)(m:Msg):InvB (n+1) (cU m b):=by
 unfold cU;split
 ·exact i.up (sF n)
 ·refine⟨i.1,fun t s h=>?_⟩;simp only at h;split at h
  ·exact Nat.le_succ_of_le (i.2 t s h)
  ·simp only[aC]at h;split at h
   ·cases h
    cases p:aE b.past m.topic with
    |none=>simp
    |some l=>have:=i.2 _ _ p;simp;omega
   ·exact Nat.le_succ_of_le (i.2 t s h)
def aPb (i:InvS n p)(a:Nat)(d:cD)(v:d.msg.topic.length≤maxLen):InvS (n+1) (aT fil nam tak p a d).2:=by
 have c:=i.up (sF n);have g:=aEg fil nam i d v;have f:InvS (n+1) (eQ tak p d).2:=by
  unfold eQ;split
  ·exact c
  ·rename_i b e;split
   ·exact c
   ·split
    ·exact c
    ·exact c.put ⟨(c.sb e).1,(c.sb e).2⟩
 have u:InvS (n+1) (gV tak p d).2:=by
  unfold gV;split
  ·exact c
  ·split
   ·exact c
   ·split
    ·exact c
    ·split
     ·exact c
     ·split
      ·exact c
      ·exact c.pubs _
 have t:InvS (n+1) (eA p d.op).2:=by
  unfold eA;split
  ·exact c
  ·split
   ·exact c.pubs _
   ·exact c
 have l:∀r,InvS (n+1) r→InvS (n+1) (eW tak r d.op).2:=fun r c=>by
  unfold eW;split
  ·exact c
  ·rename_i b e;split
   ·exact c.put ⟨fun h=>(by simp at h),(c.sb e).2⟩
   ·exact c
 unfold aT;split
 ·show InvS (n+1) (if d.ptype=8∧(aE p.subs d.op).isSome=false then{p with subs:=aM p.subs d.op (cJ p)}else p)
  split
  ·exact c.put (aEd p (by omega))
  ·exact c
 ·split
  ·unfold nG;split
   ·rename_i s j;rw[j]at g;exact g
   ·rename_i k s j;rw[j]at g;have q:=g.pubs (s.pubs.map fun x=>(x.1,fJ tak s d.client x.2));simp only;split
    ·exact q
    ·have y:InvB (n+1) ((aE s.subs d.op).getD (cJ {s with pubs:=s.pubs.map fun x=>(x.1,fJ tak s d.client x.2)})):=by
      cases e:aE s.subs d.op with
      |none=>exact aEd _ (by omega)
      |some b=>exact g.sb e
     have w:InvS (n+1) (if(aE s.subs d.op).isSome then{s with pubs:=s.pubs.map fun x=>(x.1,fJ tak s d.client x.2)}else{s with pubs:=s.pubs.map fun x=>(x.1,fJ tak s d.client x.2),subs:=aM s.subs d.op ((aE s.subs d.op).getD (cJ {s with pubs:=s.pubs.map fun x=>(x.1,fJ tak s d.client x.2)}))}):=by
      split
      ·exact q
      ·exact q.put y
     split
     ·exact w
     ·exact w.put ⟨fun _=>rfl,y.2⟩
  ·split
   ·unfold jH;split
    ·rename_i s j;rw[j]at g;exact g
    ·rename_i k s j;have m:InvS (n+1) s:=by rw[j]at g;exact g
     have z:s.subs=p.subs:=by have:=aLr fil nam p d;rw[j]at this;exact this
     refine .mk' (fun o b e=>?_) m.kept m.seats;have e:aE (s.subs.map fun x=>(x.1,cU {d.msg with retain:=true} x.2)) o=some b:=e;rw[eE (fun x:Int×Sb=>cU {d.msg with retain:=true} x.2),z]at e;obtain⟨C,B,rfl⟩:=sZ.1 e;exact aUb (i.sb B) (by omega) _
   ·split
    ·unfold iA;split
     ·exact c
     ·exact c.pubs _
    ·split
     ·exact u
     ·split
      ·split
       ·exact u
       ·exact f
      ·split
       ·exact f
       ·split
        ·show InvS (n+1) (if(eA p d.op).1 then eW tak (eA p d.op).2 d.op else eA p d.op).2
         split
         ·exact l _ t
         ·exact t
        ·exact c
end
abbrev NZ:=(Nat→kA)×kA×cD
variable {z:NZ}{ls:kC NZ}
abbrev nzC (z:NZ):kC kA:=bU z.1 z.2.1 z.2.2
def n00:cD:=⟨0,0,0,[],0,false,[],⟨[],[],0,false⟩,0⟩
def aAa (h:H)(p:Nat):Nat:=match h.get p with
 |some (.cells cs _)=>(match(cs[3]?:kB kA)with|some (Value.int _ i)=>i.toNat|_=>0)
 |_=>0
section
variable (fil nam:Bs→Bool)(tak:Bs→Bs→Bool)(l:kC cD)
def sAt:Nat→St
 |0=>{}
 |i+1=>(aT fil nam tak (sAt i) i (l.getD i n00)).2
def aOe (t:∀n∈l,n.msg.topic.length≤maxLen):∀i,InvS i (sAt fil nam tak l i)
 |0=>.mk' (fun _ _ h=>(by cases h)) ⟨kQ _,fun _ h=>(by cases h)⟩ (kQ _)
 |i+1=>aPb fil nam tak (aOe t i) i _ (by
  rw[List.getD_eq_getElem?_getD]
  cases e:l[i]? with
  |none=>exact sE _
  |some n=>exact t n (sY e))
def cJs (B:H)(s:kC NZ):Pw.Dm:=fun f a h=>f=16∧∃i n z,s[i]?=some z∧Rep B h n (sAt fil nam tak (s.map (·.2.2)) i) i∧Ext B h∧a=[aA (n .chk),.agg ⟨nzC z⟩]
def bFc (B:H)(s:kC NZ):Pw.Rl:=fun _ a h v b=>iE B (hdP a) (aAa h (hdP a)) h (aT fil nam tak (sAt fil nam tak (s.map (·.2.2)) (aAa h (hdP a))) (aAa h (hdP a)) ((s.map (·.2.2)).getD (aAa h (hdP a)) n00)) v b
end
def Rep.place (r:Rep h j N p n)(B:h.next≤j.next)(i:Nat):∃b,A.store 1 (.pointer (some ⟨N .chk,3,none⟩)) (iN (i:Int)) j=some b∧Rep h b N p i∧At (N .chk) j b:=by
 have g:=r.ok .chk;refine⟨j.put (N .chk) (.cells [aA (N .mdl),aV (N .pubs),aV (N .subs),iN (i:Int)] (some 0)),by rw[qU,g];rfl,?_,At.put j _ _⟩;refine r.upd (fun C=>C=.chk) (kQ _) B (fun C j _=>⟨j,rfl⟩) (fun C j _=>.inl ⟨j,rfl⟩) (fun C C' _ _ f k _ _=>by rw[f,k]) (fun C c a=>by rw[H.get_put,kL fun e=>a (r.inj _ _ c trivial e)]) (fun C a=>⟨?_,by cases C<;>simp[oW]⟩) (fun d o t=>⟨fun j=>?_,fun j=>?_,fun j=>?_,fun _=>rfl⟩) (fun C a=>?_)
 ·cases C<;>simp[eR]
 ·cases j
 ·cases j
 ·cases j
 ·subst a;show(j.put (N .chk) _).get (N .chk)=_;rw[H.get_put,kM rfl]
section
variable {D:CF}{Y:H}{fil nam:Bs→Bool}(k:K4 D Y fil nam tak)(Z:aO prog 3 (CI D))
include k Z
def cLq {B:H}(q:HasT Y B)(d:3≤B.next)(u:∀z∈ls,NoteOk B z.2.1 z.2.2)(I:ls.length≤2^30):RelOK prog 3 TaZ.isR (cJs fil nam tak B ls) (bFc fil nam tak B ls):=by
 refine RelOK.layers (by kernel_rfl) (by kernel_rfl) Z aFz (fun f c h _ x=>?_) fun f c h v p _ E=>E.2.2.2;obtain⟨rfl,i,m,z,g,r,w,rfl⟩:=x;have C:=(pX.1 g).1;have b:=aOe fil nam tak (ls.map (·.2.2)) (fun n j=>by obtain⟨z,g,rfl⟩:=mW.1 j;exact(u z g).top) i;have y:aAa h (m .chk)=i:=by unfold aAa;rw[r.ok .chk];rfl
 have j:(ls.map (·.2.2)).getD i n00=z.2.2:=by rw[List.getD_eq_getElem?_getD,pL,g];rfl
 have G:bFc fil nam tak B ls 16 [aA (m .chk),.agg ⟨nzC z⟩] h=iE B (m .chk) i h (aT fil nam tak (sAt fil nam tak (ls.map (·.2.2)) i) i z.2.2):=by
  unfold bFc;funext v p;show iE B (m .chk) (aAa h (m .chk)) h (aT fil nam tak (sAt fil nam tak (ls.map (·.2.2)) (aAa h (m .chk))) (aAa h (m .chk)) ((ls.map (·.2.2)).getD (aAa h (m .chk)) n00)) v p=_;rw[y,j]
 have o:=u z (sY g);have t:=aEg fil nam b z.2.2 o.top;rw[G];exact⟨_,_,okR k (B:=B) (s:=sAt fil nam tak (ls.map (·.2.2)) i) (a:=i) (e:=z.1) (v:=z.2.1) (n:=z.2.2) (K:=i+1) Z q d o (kR b.seats (by omega)) (b.up (sF _)) t (by omega),
  W15 k Z q d o (kR b.seats (by omega)) (b.up (sF _)) t (by omega) r w⟩
def bAj {L:kC NZ}(x:SliceE 35 h v (L.map nzC))(d:L[n]?=some z):∃o q,A.zB 35 v (iN (n:Int))=some (.pointer (some ⟨q,o,none⟩))∧A.load true 35 (.pointer (some ⟨q,o,none⟩)) h=some (.agg ⟨nzC z⟩):=by
 have _:=k;have _:=Z;have c:(L.map nzC)[n]?=some (nzC z):=by rw[pL,d];rfl
 obtain⟨id,o,cells,own,e,_,g,a,b,f⟩:=x.at c .i64;refine⟨o,id,e,?_⟩;rw[aI,g];simp only[ble_iff.2 a,sV,b]
def lp6 {L:kC NZ}(hl:L.length≤2^30)(sx:SliceE 35 h x (L.map nzC))(V:Pk.K2 Unit)(W:Pk.K1 Unit)(k0:∀s i,Ext h s→Ra.check (aT fil nam tak) {} 0 (L.map (·.2.2))=(i,false)→V (iN (i:Int)) (.bool false) s=some ())(k1:∀s,Ext h s→Ra.check (aT fil nam tak) {} 0 (L.map (·.2.2))=(L.length,true)→W v s=some ()):
 ∀(d i m:Nat) (b:H) (o:Col→Nat) (a:Nat),i+d=L.length→d<m→Rep h b o (sAt fil nam tak (L.map (·.2.2)) i) a→Ext h b→o .chk=pc→Ra.check (aT fil nam tak) {} 0 (L.map (·.2.2))=Ra.check (aT fil nam tak) (sAt fil nam tak (L.map (·.2.2)) i) i ((L.map (·.2.2)).drop i)→
  aXg (CI D) n (cJs fil nam tak h L) (bFc fil nam tak h L) V W m (iN (L.length:Int)) (iN (i:Int)) (aA pc) x v b=some ():=by
 intro d
 induction d with
 |zero=>
  intro i m b o a hi hm r B p c;obtain⟨m,rfl⟩:=pS m (by omega);have I:decide ((i:Int)<(L.length:Int))=false:=kO (by omega);simp only[aXg,bFj,zZ,I,qS];refine k1 b B ?_;rw[c,pZ (by simp;omega)];simp only[Ra.check];rw[show i=L.length by omega]
 |succ d ih=>
  intro i m b o a hi hm r B p c;obtain⟨m,rfl⟩:=pS m (by omega);have I:decide ((i:Int)<(L.length:Int))=true:=kN (by omega);obtain⟨z,y⟩:∃z,L[i]?=some z:=⟨_,kZ (by omega)⟩;obtain⟨b3,q,ei,lz⟩:=bAj k Z (sx.ext B) y;obtain⟨u,g⟩:=eX (b.push (.cells TaW.Z35L (some 0)));have e1:A.box 35 TaW.Z35 b=some (aA b.next,u):=by rw[g];rfl
  have g1:u.get b.next=some (.cells TaW.Z35L (some 0)):=by rw[g,H.get_push,kM rfl]
  obtain⟨C,j⟩:=eX (u.put b.next (.cells (nzC z) (some 0)));have e2:A.store 35 (aA b.next) (.agg ⟨nzC z⟩) u=some C:=by rw[qU,g1,j];rfl
  have O:Ext b C:=by rw[j,g];exact(Ext.push b _).put _ _ (kQ _)
  have g2:C.get b.next=some (.cells (nzC z) (some 0)):=by rw[j,H.get_put,kM rfl]
  have r2:=r.ext B.next O;obtain⟨h3,Q,r3,P⟩:=r2.place (kR B.next O.next) i;rw[p]at Q;have lc:=r.lt .chk trivial;have g3:h3.get b.next=some (.cells (nzC z) (some 0)):=by rw[P.2 _ (by omega)];exact g2
  have M:A.load true 35 (aA b.next) h3=some (.agg ⟨nzC z⟩):=by rw[aI,g3];rfl
  have G:Ext h h3:=P.ext (B.trans O) lc.1;have w2:A.z prog .add 3 (iN (i:Int)) (iN 1)=some (iN ((i+1:Nat):Int)):=by rw[bC,aQ (by omega)]
  have U:(L.map (·.2.2)).getD i n00=z.2.2:=by rw[List.getD_eq_getElem?_getD,pL,y];rfl
  have J:(L.map (·.2.2))[i]?=some z.2.2:=by rw[pL,y];rfl
  have f:aAa h3 (o .chk)=i:=by unfold aAa;rw[r3.ok .chk];rfl
  rw[aU J]at c;simp only[Ra.check]at c;simp only[aXg,bFj,zZ,I,qS,ei,lz,e1,e2,sR,Q,yW];refine okU_iff.2 fun φ K=>?_;simp only[M,qS];refine tR K rfl ⟨rfl,i,o,z,y,r3,G,by rw[p]⟩ fun d3 E R=>?_;have R:iE h pc (aAa h3 pc) h3 (aT fil nam tak (sAt fil nam tak (L.map (·.2.2)) (aAa h3 pc)) (aAa h3 pc) ((L.map (·.2.2)).getD (aAa h3 pc) n00)) d3 E:=R;rw[p]at f;rw[f,U]at R;obtain⟨hv,⟨N,q1,r4⟩,t,q3⟩:=R;subst hv
  cases w:(aT fil nam tak (sAt fil nam tak (L.map (·.2.2)) i) i z.2.2).1 with
  |false=>
   simp only[qS];refine k0 E i t ?_;rw[c];split
   ·rename_i X e;rw[e]at w;cases w
   ·rfl
  |true=>
   simp only[qS,w2];have S:sAt fil nam tak (L.map (·.2.2)) (i+1)=(aT fil nam tak (sAt fil nam tak (L.map (·.2.2)) i) i z.2.2).2:=by simp only[sAt,U]
   refine ih (i+1) m E N i (by omega) (by omega) (by rw[S];exact r4) t q1 ?_;rw[c,S];split
   ·rename_i X e;rw[e]
   ·rename_i X e;rw[e]at w;cases w
end
def nmI (b:Nat):Col→Nat
 | .chk=>b+6
 | .mdl=>b+3
 | .seats=>b
 | .keep=>b+2
 | .kept=>b+1
 | .pubs=>b+4
 | .subs=>b+5
 |_=>b
section
variable {D:CF}{Z:H}{fil nam:Bs→Bool}(k:K4 D Z fil nam tak)
include k
def bKt (h:H):∃R S h3 I,CI D 15 [] h=some (aA (h.next+3),R)∧A.zL R=some (aV (h.next+4),S)∧A.zL S=some (aV (h.next+5),h3)∧A.box 4 (.agg ⟨[aA (h.next+3),aV (h.next+4),aV (h.next+5),iN 0]⟩) h3=some (aA (h.next+6),I)∧
 Rep h I (nmI h.next) {} 0∧Ext h I:=by
 have U:=k.k3.k2;obtain⟨b,n⟩:=eX (h.push (.map [] 0));obtain⟨j,p⟩:=eX (b.push (.map [] 0));obtain⟨m,q⟩:=eX (j.push (.cells [aV (h.next+1)] (some 0)));obtain⟨d,r⟩:=eX (m.push (.cells [aV h.next,aA (h.next+2)] (some 0)));obtain⟨e,s⟩:=eX (d.push (.map [] 0));obtain⟨i,u⟩:=eX (e.push (.map [] 0));obtain⟨f,v⟩:=eX (i.push (.cells [aA (h.next+3),aV (h.next+4),aV (h.next+5),iN 0] (some 0)));have K:b.next=h.next+1:=by rw[n];rfl
 have L:j.next=h.next+2:=by rw[p];show b.next+1=_;rw[K]
 have M:m.next=h.next+3:=by rw[q];show j.next+1=_;rw[L]
 have N:d.next=h.next+4:=by rw[r];show m.next+1=_;rw[M]
 have O:e.next=h.next+5:=by rw[s];show d.next+1=_;rw[N]
 have P:i.next=h.next+6:=by rw[u];show e.next+1=_;rw[O]
 have n7:f.next=h.next+7:=by rw[v];show i.next+1=_;rw[P]
 have Y:A.zL h=some (aV h.next,b):=by rw[n];rfl
 have e2:A.zL b=some (aV (h.next+1),j):=by rw[p,←K];rfl
 have W:A.zI TaI.Z95L [(0,1,aV (h.next+1))]=some (.agg ⟨[aV (h.next+1)]⟩):=rfl;have e3:A.box 1 (.agg ⟨[aV (h.next+1)]⟩) j=some (aA (h.next+2),m):=by rw[q,←L];rfl
 have G:CI D 23 [] b=some (aA (h.next+2),m):=cDm 0 b (U.no 23 _ _ (by decide)) (by simp only[F23,bTv,e2,qS,W,e3]);have X:A.zI TaI.Z62L [(0,1,aV h.next),(1,1,aA (h.next+2))]=some (.agg ⟨[aV h.next,aA (h.next+2)]⟩):=rfl;have e4:A.box 2 (.agg ⟨[aV h.next,aA (h.next+2)]⟩) m=some (aA (h.next+3),d):=by rw[r,←M];rfl
 have E:CI D 15 [] h=some (aA (h.next+3),d):=cDt 0 h (U.no 15 _ _ (by decide)) (by simp only[F15,bTw,Y,qS,G,X,e4]);have e5:A.zL d=some (aV (h.next+4),e):=by rw[s,←N];rfl
 have e6:A.zL e=some (aV (h.next+5),i):=by rw[u,←O];rfl
 have e7:A.box 4 (.agg ⟨[aA (h.next+3),aV (h.next+4),aV (h.next+5),iN 0]⟩) i=some (aA (h.next+6),f):=by rw[v,←P];rfl
 have x1:Ext h b:=by rw[n];exact Ext.push h _
 have x2:Ext b j:=by rw[p];exact Ext.push b _
 have V:Ext j m:=by rw[q];exact Ext.push j _
 have Q:Ext m d:=by rw[r];exact Ext.push m _
 have B:Ext d e:=by rw[s];exact Ext.push d _
 have z:Ext e i:=by rw[u];exact Ext.push e _
 have w:Ext i f:=by rw[v];exact Ext.push i _
 have y:=x2.trans (V.trans (Q.trans (B.trans (z.trans w))));have m1:MapR f h.next cC ([]:kC (Bs×kA)):=(by rw[n];exact MapR.made h cC:MapR b h.next cC ([]:kC (Bs×kA))).congr (y.get _ (by omega));have m2:MapR f (h.next+1) cC ([]:kC (Bs×kA)):=(by rw[p,←K];exact MapR.made b cC:MapR j (h.next+1) cC ([]:kC (Bs×kA))).congr ((V.trans (Q.trans (B.trans (z.trans w)))).get _ (by omega));have m5:MapR f (h.next+4) rF ([]:kC (Int×kA)):=(by rw[s,←N];exact MapR.made d rF:MapR e (h.next+4) rF ([]:kC (Int×kA))).congr ((z.trans w).get _ (by omega));have m6:MapR f (h.next+5) rF ([]:kC (Int×kA)):=(by rw[u,←O];exact MapR.made e rF:MapR i (h.next+5) rF ([]:kC (Int×kA))).congr (w.get _ (by omega));have g3:f.get (h.next+2)=some (.cells [aV (h.next+1)] (some 0)):=by rw[(Q.trans (B.trans (z.trans w))).get _ (by omega),q,H.get_push,kM L.symm]
 have g4:f.get (h.next+3)=some (.cells [aV h.next,aA (h.next+2)] (some 0)):=by rw[(B.trans (z.trans w)).get _ (by omega),r,H.get_push,kM M.symm]
 have g7:f.get (h.next+6)=some (.cells [aA (h.next+3),aV (h.next+4),aV (h.next+5),iN 0] (some 0)):=by rw[v,H.get_push,kM P.symm]
 have g:∀C,live {} (nmI h.next) C→C=.chk∨C=.mdl∨C=.seats∨C=.keep∨C=.kept∨C=.pubs∨C=.subs:=fun C l=>by
  cases C with
  |chk|mdl|seats|keep|kept|pubs|subs=>simp
  |seat c=>obtain⟨x,a⟩:=l;cases a
  |lst c=>obtain⟨x,a⟩:=l;cases a
  |row c=>obtain⟨⟨x,a⟩,_⟩:=l;cases a
  |pub o=>obtain⟨x,a⟩:=l;cases a
  |holds o=>obtain⟨x,a⟩:=l;cases a
  |serve o=>obtain⟨x,a⟩:=l;cases a
  |sb o=>obtain⟨x,a⟩:=l;cases a
  |flst o=>obtain⟨x,a,_⟩:=l;cases a
  |frow o=>obtain⟨⟨x,a,_⟩,_⟩:=l;cases a
  |past o=>obtain⟨x,a⟩:=l;cases a
  |still o=>obtain⟨x,a⟩:=l;cases a
  |got o=>obtain⟨x,a⟩:=l;cases a
  |msgs o t=>obtain⟨x,_,a,_⟩:=l;cases a
 refine⟨d,e,i,f,E,e5,e6,e7,⟨fun C=>?_,fun C C' l J he=>?_,fun C l=>?_⟩,x1.trans y⟩
 ·cases C with
  |chk=>exact g7
  |mdl=>exact g4
  |seats=>exact m1
  |keep=>exact g3
  |kept=>exact m2
  |pubs=>exact m5
  |subs=>exact m6
  |seat c=>intro x a;cases a
  |lst c=>intro x a;cases a
  |pub o=>intro x a;cases a
  |holds o=>intro x a;cases a
  |serve o=>intro x a;cases a
  |sb o=>intro x a;cases a
  |flst o=>intro x a;cases a
  |past o=>intro x a;cases a
  |still o=>intro x a;cases a
  |got o=>intro x a;cases a
  |row c=>trivial
  |frow o=>trivial
  |msgs o t=>trivial
 ·rcases g C l with rfl|rfl|rfl|rfl|rfl|rfl|rfl<;>rcases g C' J with rfl|rfl|rfl|rfl|rfl|rfl|rfl<;>simp only[nmI]at he
  any_goals rfl
  all_goals omega
 ·rcases g C l with rfl|rfl|rfl|rfl|rfl|rfl|rfl<;>simp only[nmI]<;>omega
def W6 (C:aO prog 3 (CI D))(u:HasT Z h)(d:3≤h.next)(w:∀z∈ls,NoteOk h z.2.1 z.2.2)(l:ls.length≤2^30)(s:SliceE 35 h v (ls.map nzC)):
 ∃m f,RelOK prog 3 TaZ.isR m f∧∃L,fK prog (CI D) TaZ.isR m f L 3 6 [v] h (fun G c=>G=.tuple ⟨[iN ((Ra.check (aT fil nam tak) {} 0 (ls.map (·.2.2))).1:Int),.bool (Ra.check (aT fil nam tak) {} 0 (ls.map (·.2.2))).2]⟩∧Ext h c):=by
 obtain⟨y,E,h3,t,g,j,p,q,r,x⟩:=bKt k h;have o:=cLq k C (B:=h) (ls:=ls) u d w l;have b:A.zI TaW.Z47L [(0,1,aA (h.next+3)),(1,1,aV (h.next+4)),(2,1,aV (h.next+5))]=some (.agg ⟨[aA (h.next+3),aV (h.next+4),aV (h.next+5),iN 0]⟩):=rfl;have n:A.zE v=some (iN (ls.length:Int)):=by have:=s.len.1;rwa [pO]at this
 refine⟨_,_,o,ls.length+1,F6W o _ h ?_⟩;simp only[F6,p6a,cJi,bIe,cEv,qS,g,j,p,b,q,n];refine lp6 k C l s (pc:=h.next+6) _ _ (fun c i a e=>?_) (fun c a e=>?_) ls.length 0 _ t (nmI h.next) 0 (by omega) (mQ _) r x rfl (by simp only[sAt,mI])
 ·rw[e];exact okU_iff.2 ⟨rfl,a⟩
 ·simp only[cJl,n,qS];rw[e];exact okU_iff.2 ⟨rfl,a⟩
end
def EOk (e:Nat→kA):Prop:=∀k∈[9,10,14,16,17,22,23,27],∃s,e k=str s
def pkC (z:NZ):kC kA:=((nzC z).drop 4).take 24
def Sml (n:cD):Prop:=n.subs.length≤100∧∀y∈n.subs,y.1.length≤10000
def xQ (l:kC Bs):kC (kC kA):=l.map fun s=>[str s]
section
variable {D:CF}{Y:H}{fil nam:Bs→Bool}(Z:K4 D Y fil nam tak)
include Z
def bMo {l:kC Bs}(x:SliceE 1 h v (xQ l))(s:l[n]?=some B):∃o q,A.zB 1 v (iN (n:Int))=some (.pointer (some ⟨q,o,none⟩))∧A.load false 1 (.pointer (some ⟨q,o,none⟩)) h=some (str B):=by
 have _:=Z;have a:(xQ l)[n]?=some [str B]:=by rw[xQ,pL,s];rfl
 obtain⟨id,o,cells,own,e,_,g,_,_,c⟩:=x.at a .i64;refine⟨o,id,e,?_⟩;rw[qK,g];have:=c 0 (by omega);simpa using this
def cLv {l:kC Bs}(G:l.length≤2^40)(r:SliceE 1 h v (xQ l))(k:Pk.K1 (kA×H))(x:Pk.K0 (kA×H)):
 ∀(d i m:Nat) (left:Nat),i+d=l.length→d<m→left≤10000→aKd (CI D) L k x m (iN (i:Int)) v (iN (left:Int)) h=k (.bool true) h∨aKd (CI D) L k x m (iN (i:Int)) v (iN (left:Int)) h=x h∧∀j s,i≤j→l[j]?=some s→s.length≤left:=by
 have n:A.zE v=some (iN (l.length:Int)):=by have:=r.len.1;rwa [xQ,pO]at this
 intro d
 induction d with
 |zero=>
  intro i m left w B hle;obtain⟨m,rfl⟩:=pS m (by omega);have a:decide ((i:Int)<(l.length:Int))=false:=kO (by omega);refine .inr ⟨?_,fun j s y b=>by have:=(pX.1 b).1;omega⟩;simp only[aKd,bAs,n,zZ,a,qS]
 |succ d C=>
  intro i m left w B hle;obtain⟨m,rfl⟩:=pS m (by omega);have a:decide ((i:Int)<(l.length:Int))=true:=kN (by omega);obtain⟨s,b⟩:∃s,l[i]?=some s:=⟨_,kZ (by omega)⟩;obtain⟨E,q,g,p⟩:=bMo Z r b;by_cases o:(left:Int)<(s.length:Int)
  ·left;simp only[aKd,bAs,n,zZ,a,qS,g,p,qJ,zY,kN o]
  ·have w1:A.z prog .sub 3 (iN (left:Int)) (iN (s.length:Int))=some (iN ((left-s.length:Nat):Int)):=by rw[lC,gX (by omega) (by omega)];congr 2;omega
   have w2:A.z prog .add 3 (iN (i:Int)) (iN 1)=some (iN ((i+1:Nat):Int)):=by rw[bC,aQ (by omega)]
   simp only[aKd,bAs,n,zZ,a,qS,g,p,qJ,zY,kO o,w1,w2];rcases C (i+1) m (left-s.length) (by omega) (by omega) (by omega)with e|⟨e,e2⟩
   ·exact .inl e
   ·refine .inr ⟨e,fun j t y f=>?_⟩;rcases mJ i j with c|u
    ·have:=e2 j t c f;omega
    ·obtain rfl:j=i:=by omega
     rw[b]at f;obtain rfl:=pB f;omega
def cLw (U:wI h z.2.1 z.2.2)(a3:z.2.2.subs.length≤100)(kx:Pk.K2 (kA×H)):
 ∀(d i m:Nat) (b:H) (l:kC Bs) (o:kA),i+d=z.2.2.subs.length→d<m→Ext h b→h.next≤xb→xb<b.next→b.get xb=some (.cells (pkC z) (some 0))→GrowV 1 b o (xQ l)→(∀j,sid o=some j→h.next≤j∧j≠xb)→l.length≤8+i→(∀j y,j<i→z.2.2.subs[j]?=some y→y.1∈l)→
  ∃p x u,aSy (CI D) L kx m (iN (i:Int)) (aA xb) o x3 b=kx x x3 p∧Ext h p∧b.next≤p.next∧GrowV 1 p x (xQ u)∧u.length≤108∧∀y∈z.2.2.subs,y.1∈u:=by
 have k2:=Z.k3.k2;intro d
 induction d with
 |zero=>
  intro i m b l o hi hm B s hx E C W hl f;obtain⟨m,rfl⟩:=pS m (by omega);have k:=ld k2 E 22 (v:=z.2.1) rfl;have R:A.zE z.2.1=some (iN (z.2.2.subs.length:Int)):=by have:=(U.subs.ext B).len.1;rwa [aW,pO]at this
  have M:decide ((i:Int)<(z.2.2.subs.length:Int))=false:=kO (by omega);refine⟨b,o,l,?_,B,kQ _,C,by omega,fun y G=>by
   obtain⟨j,a⟩:=mM.1 G;exact f j y (by have:=(pX.1 a).1;omega) a⟩
  simp only[aSy,bIx,qS,sR,k,R,zZ,M]
 |succ d ih=>
  intro i m b l o hi hm B s hx E C W hl f;obtain⟨m,rfl⟩:=pS m (by omega);have k:=ld k2 E 22 (v:=z.2.1) rfl;have R:A.zE z.2.1=some (iN (z.2.2.subs.length:Int)):=by have:=(U.subs.ext B).len.1;rwa [aW,pO]at this
  have M:decide ((i:Int)<(z.2.2.subs.length:Int))=true:=kN (by omega);obtain⟨y,G⟩:∃y,z.2.2.subs[i]?=some y:=⟨_,kZ (by omega)⟩;have Q:(aW z.2.2.subs)[i]?=some [str y.1,iU (y.2:Int)]:=by rw[aW,pL,G];rfl
  obtain⟨id,V,cells,own,ei,_,g,_,_,hc⟩:=(U.subs.ext B).at Q .i64;have l0:A.load false 1 (.pointer (some ⟨id,V,none⟩)) b=some (str y.1):=by rw[qK,g];have:=hc 0 (by omega);simpa using this
  have r:=aX (n:=1) (zs:=TaI.Z9L) (v:=str y.1) (vs:=[str y.1]) b rfl rfl rfl;have so:=fQ (h:=b) (n:=1) (vs:=[str y.1]) rfl;obtain⟨q,c⟩:=eX (b.push (.cells [str y.1] (some 1)));rw[←c]at r so;have I:Ext b q:=c▸Ext.push b _;have n1:q.next=b.next+1:=by rw[c];rfl
  have J:GrowV 1 q o (xQ l):=C.but (S:=fun _=>False) I.next fun j a=>I.get j (C.slice.sid_lt j a);have e3:(xQ l).length=l.length:=by simp[xQ]
  obtain⟨h2,ea,X,n2,y2⟩:=eN (bs:=16) J so (by simp) (by omega) (by simp only[List.length_singleton];omega) (by simp only[List.length_singleton];omega);generalize hw:Value.slice (some ⟨q.next,0,none⟩) ((xQ l).length+[[str y.1]].length) (2*((xQ l).length+[[str y.1]].length))=w at ea X;have O:sid w=some q.next:=by rw[←hw];rfl
  have ev:xQ l++[[str y.1]]=xQ (l++[y.1]):=by simp[xQ]
  rw[ev]at X;have w2:A.z prog .add 3 (iN (i:Int)) (iN 1)=some (iN ((i+1:Nat):Int)):=by rw[bC,aQ (by omega)]
  have b3:=B.next;have K:Ext h h2:=⟨by omega,fun j a=>by rw[y2.get j (by omega) fun e=>by have:=(W j e).1;omega,I.get j (by omega)];exact B.get j a⟩;obtain⟨p,x,u,e,g1,g2,g3,g4⟩:=ih (i+1) m h2 (l++[y.1]) w (by omega) (by omega) K s (by omega) (by rw[y2.get xb (by omega) fun e=>(W xb e).2 rfl,I.get xb hx];exact E) X (fun j a=>by rw[O]at a;cases a;omega) (by simp;omega) (fun j t a P=>by
   rcases mJ j i with N|d3
   ·exact List.mem_append_left _ (f j t N P)
   ·obtain rfl:j=i:=by omega
    rw[G]at P;obtain rfl:=pB P;simp)
  refine⟨p,x,u,?_,g1,by omega,g3,g4⟩;simp only[aSy,bIx,qS,sR,k,R,zZ,M,ei,sS,l0,r,ea,w2,e]
def T7 (no:wI h z.2.1 z.2.2)(u:EOk z.1)(hB:Ext h j):∃b P,CI D 8 [.agg ⟨pkC z⟩] j=some (.bool b,P)∧Ext h P∧j.next≤P.next∧(b=false→Sml z.2.2):=by
 have k:=Z.k3.k2;obtain⟨a,c⟩:=eX (j.push (.cells (pkC z) (some 0)));have X:A.box 24 (.agg ⟨pkC z⟩) j=some (aA j.next,a):=by rw[c];rfl
 have x1:Ext j a:=by rw[c];exact Ext.push j _
 have n1:a.next=j.next+1:=by rw[c];rfl
 have g:a.get j.next=some (.cells (pkC z) (some 0)):=by rw[c,H.get_push,kM rfl]
 have C:=ld k g 22 (v:=z.2.1) rfl;have Q:=hB.trans x1;have ln:A.zE z.2.1=some (iN (z.2.2.subs.length:Int)):=by have:=(no.subs.ext hB).len.1;rwa [aW,pO]at this
 have q:=fun L v' P=>cNt L (.agg ⟨pkC z⟩) j (r:=(v',P)) (k.no 8 _ _ (by decide));by_cases w:(100:Int)<(z.2.2.subs.length:Int)
 ·refine⟨true,a,q 0 _ _ ?_,Q,x1.next,fun e=>by cases e⟩;simp only[F8,p8a,bIn,X,qS,sR,C,ln,zY,kN w]
 have t:=kO w;obtain⟨V,h9⟩:=u 9 (by simp);obtain⟨s,b3⟩:=u 10 (by simp);obtain⟨f,d3⟩:=u 14 (by simp);obtain⟨i,f3⟩:=u 16 (by simp);obtain⟨m,g3⟩:=u 17 (by simp);obtain⟨n,i3⟩:=u 22 (by simp);obtain⟨o,j3⟩:=u 23 (by simp);obtain⟨p,l3⟩:=u 27 (by simp);have f5:=ld k g 5 (v:=str V) (by rw[←h9];rfl);have f6:=ld k g 6 (v:=str s) (by rw[←b3];rfl);have I:=ld k g 10 (v:=str f) (by rw[←d3];rfl);have J:=ld k g 12 (v:=str i) (by rw[←f3];rfl);have K:=ld k g 13 (v:=str m) (by rw[←g3];rfl);have M:=ld k g 18 (v:=str n) (by rw[←i3];rfl);have N:=ld k g 19 (v:=str o) (by rw[←j3];rfl);have O:=ld k g 23 (v:=str p) (by rw[←l3];rfl);obtain⟨E,d⟩:=eX (a.push (.cells [str V,str s,str f,str i,str m,str n,str o,str p] (some 1)));have e2:A.zC 1 8 TaI.Z9L [(0,1,str V),(1,1,str s),(2,1,str f),(3,1,str i),(4,1,str m),(5,1,str n),(6,1,str o),(7,1,str p)] a=some (.slice (some ⟨a.next,0,none⟩) 8 17,E):=by rw[d];rfl
 have x:Ext a E:=by rw[d];exact Ext.push a _
 have n2:E.next=a.next+1:=by rw[d];rfl
 have gv:GrowV 1 E (.slice (some ⟨a.next,0,none⟩) 8 17) (xQ [V,s,f,i,m,n,o,p]):=⟨by simp[xQ],a.next,17,rfl,.inr rfl,by omega,by rw[d,H.get_push,kM rfl];rfl⟩;have m3:=hB.next;obtain⟨h3,G,l',U,R,n3,a3,p3,o3⟩:=cLw Z no (by omega) (xb:=j.next) (fun G W j=>aXq (CI D) 109 j W G (fun x j=>some (x,j)) fun j=>aTc j fun x j=>some (x,j)) (x3:=iN 10000) (L:=109) z.2.2.subs.length 0 109 E _ _ (by omega) (by omega) (Q.trans x) m3 (by omega) (by rw[x.get _ (by omega)];exact g) gv (fun q3 S=>by simp[sid]at S;omega) (by simp) (fun q3 y S=>dC S (Nat.not_lt_zero _));have U:aSy (CI D) 109 (fun G W j=>aXq (CI D) 109 j W G (fun x j=>some (x,j)) fun j=>aTc j fun x j=>some (x,j)) 109 (iN 0) (aA j.next) (.slice (some ⟨a.next,0,none⟩) 8 17) (iN 10000) E=_:=U;rcases cLv Z (l:=l') (by omega) a3.slice (fun x j=>some (x,j)) (fun j=>aTc j fun x j=>some (x,j)) (L:=109) l'.length 0 109 10000 (by omega) (by omega) (kQ _)with B|⟨B,e5⟩
 ·have B:aKd (CI D) 109 (fun x j=>some (x,j)) (fun j=>aTc j fun x j=>some (x,j)) 109 (iN 0) G (iN 10000) h3=_:=B;refine⟨true,h3,q 109 _ _ ?_,R,by omega,fun e=>by cases e⟩;simp only[F8,p8a,bIn,bJd,bRl,X,qS,sR,sS,C,ln,zY,t,f5,f6,I,J,K,M,N,O,e2,U];simp only[aXq,bRq,B]
 ·have B:aKd (CI D) 109 (fun x j=>some (x,j)) (fun j=>aTc j fun x j=>some (x,j)) 109 (iN 0) G (iN 10000) h3=_:=B;refine⟨false,h3,q 109 _ _ ?_,R,by omega,fun _=>⟨by omega,fun y hy=>by
   obtain⟨q3,S⟩:=mM.1 (o3 y hy);exact e5 q3 _ (sE _) S⟩⟩
  simp only[F8,p8a,bIn,bJd,bRl,X,qS,sR,sS,C,ln,zY,t,f5,f6,I,J,K,M,N,O,e2,U];simp only[aXq,bRq,B];simp only[aTc]
def aJw {L:kC NZ}(x:SliceE 35 h v (L.map nzC))(d:L[n]?=some z):∃o q,A.zB 35 v (iN (n:Int))=some (.pointer (some ⟨q,o,none⟩))∧A.load true 24 (.pointer (some ⟨q,o+4,none⟩)) h=some (.agg ⟨pkC z⟩)∧
 A.load false 1 (.pointer (some ⟨q,o+3,none⟩)) h=some (str z.2.2.client)∧A.load false 1 (.pointer (some ⟨q,o+28,none⟩)) h=some (str z.2.2.msg.topic)∧A.load false 1 (.pointer (some ⟨q,o+28+1,none⟩)) h=some (str z.2.2.msg.payload):=by
 have _:=Z;have b:(L.map nzC)[n]?=some (nzC z):=by rw[pL,d];rfl
 obtain⟨id,o,cells,own,e,_,g,f,a,c⟩:=x.at b .i64;refine⟨o,id,e,?_,?_,?_,?_⟩
 ·rw[aI,g];have l:Nat.ble (o+4+24) cells.length=true:=ble_iff.2 (by omega);simp only[l,sV];congr 3;unfold pkC;rw[←a,List.drop_take,List.take_take,sG];rfl
 ·rw[qK,g];exact c 3 (by omega)
 ·rw[qK,g];exact c 28 (by omega)
 ·rw[qK,g];exact c 29 (by omega)
def lp4 {l:kC NZ}(hl:l.length≤200)(Q:SliceE 35 h v (l.map nzC))(no:∀z∈l,wI h z.2.1 z.2.2)(W:∀z∈l,EOk z.1)(u:Pk.K1 (kA×H))(x:Pk.K0 (kA×H)):
 ∀(d i m:Nat) (J:H),i+d=l.length→d<m→Ext h J→∃k,Ext h k∧J.next≤k.next∧(aCb (CI D) L u x m (iN (i:Int)) v J=u (.bool true) k∨aCb (CI D) L u x m (iN (i:Int)) v J=x k∧∀j z,i≤j→l[j]?=some z→Sml z.2.2):=by
 have E:A.zE v=some (iN (l.length:Int)):=by have:=Q.len.1;rwa [pO]at this
 intro d
 induction d with
 |zero=>
  intro i m J hi hm I;obtain⟨m,rfl⟩:=pS m (by omega);have n:decide ((i:Int)<(l.length:Int))=false:=kO (by omega);refine⟨J,I,kQ _,.inr ⟨?_,fun j z hj o=>by have:=(pX.1 o).1;omega⟩⟩;simp only[aCb,aSu,E,zZ,n,qS]
 |succ d ih=>
  intro i m J hi hm I;obtain⟨m,rfl⟩:=pS m (by omega);have n:decide ((i:Int)<(l.length:Int))=true:=kN (by omega);obtain⟨z,o⟩:∃z,l[i]?=some z:=⟨_,kZ (by omega)⟩;have t:=sY o;obtain⟨a3,q,p,a,_,_,_⟩:=aJw Z (Q.ext I) o;obtain⟨b,s,G,B,P,U⟩:=T7 Z (no z t) (W z t) I;have w2:A.z prog .add 3 (iN (i:Int)) (iN 1)=some (iN ((i+1:Nat):Int)):=by rw[bC,aQ (by omega)]
  cases b with
  |true=>
   refine⟨s,B,P,.inl ?_⟩;simp only[aCb,aSu,aXm,bBi,bBh,E,zZ,n,qS,p,a,G]
  |false=>
   obtain⟨S,q',g,_,O,w,C⟩:=aJw Z (Q.ext B) o;rw[p]at g;simp only[kP,Value.pointer.injEq,Addr.mk.injEq,and_true]at g;obtain⟨rfl,rfl⟩:=g;by_cases f:(300:Int)<(z.2.2.client.length:Int)
   ·refine⟨s,B,P,.inl ?_⟩;simp only[aCb,aSu,aXm,bBi,bBh,E,zZ,n,qS,p,a,G,O,qJ,zY,kN f]
   ·have c:=kO f;obtain⟨r,R⟩:=eX (decide ((300:Int)<IntKind.i64.wrap ((z.2.2.msg.topic.length:Int)+(z.2.2.msg.payload.length:Int))))
    cases r with
    |true=>
     refine⟨s,B,P,.inl ?_⟩;simp only[aCb,aSu,aXm,bBi,bBh,E,zZ,n,qS,p,a,G,O,qJ,zY,c,sS,w,C,bC,←R]
    |false=>
     obtain⟨k,K,n',e⟩:=ih (i+1) m s (by omega) (by omega) B;refine⟨k,K,by omega,?_⟩;have st:aCb (CI D) L u x (m+1) (iN (i:Int)) v J=aCb (CI D) L u x m (iN ((i+1:Nat):Int)) v s:=by
      simp only[aCb,aSu,aXm,bBi,bBh,bRx,E,zZ,n,qS,p,a,G,O,qJ,zY,c,sS,w,C,w2];simp only[bC,qS,←R,zY]
     rw[st];rcases e with e|⟨e,V⟩
     ·exact .inl e
     ·refine .inr ⟨e,fun j y hj N=>?_⟩;rcases mJ i j with M|X
      ·exact V j y M N
      ·obtain rfl:j=i:=by omega
       rw[o]at N;obtain rfl:=pB N;exact U rfl
def T4 {L:kC NZ}(s:SliceE 35 h v (L.map nzC))(p:∀z∈L,wI h z.2.1 z.2.2)(o:∀z∈L,EOk z.1)(f:Ext h j):∃b a,CI D 4 [v] j=some (.bool b,a)∧Ext h a∧j.next≤a.next∧(b=false→L.length≤200∧∀z∈L,Sml z.2.2):=by
 have m:=Z.k3.k2;have l:A.zE v=some (iN (L.length:Int)):=by have:=s.len.1;rwa [pO]at this
 have q:=fun u t a=>cNv u v j (r:=(t,a)) (m.no 4 _ _ (by decide));by_cases c:(200:Int)<(L.length:Int)
 ·refine⟨true,j,q 0 _ _ ?_,f,kQ _,fun e=>by cases e⟩;simp only[F4,p4a,bIu,l,qS,zY,kN c]
 have d:=kO c;obtain⟨a,B,n,e⟩:=lp4 Z (by omega) s p o (fun x j=>some (x,j)) (fun j=>bDr j fun x j=>some (x,j)) (L:=L.length+1) L.length 0 (L.length+1) j (by omega) (by omega) f;rcases e with e|⟨e,g⟩
 ·have e:aCb (CI D) _ (fun x j=>some (x,j)) (fun j=>bDr j fun x j=>some (x,j)) _ (iN 0) v j=_:=e;refine⟨true,a,q (L.length+1) _ _ ?_,B,n,fun e=>by cases e⟩;simp only[F4,p4a,bIu,bJe,bRm,l,qS,zY,d,e]
 ·have e:aCb (CI D) _ (fun x j=>some (x,j)) (fun j=>bDr j fun x j=>some (x,j)) _ (iN 0) v j=_:=e;refine⟨false,a,q (L.length+1) _ _ ?_,B,n,fun _=>⟨by omega,fun z k=>by
   obtain⟨w,i⟩:=mM.1 k;exact g w z (sE _) i⟩⟩
  simp only[F4,p4a,bIu,bJe,bRm,l,qS,zY,d,e];simp only[bDr]
end
def NoteOk.ext {j h:H}{v:kA}{n:cD}(x:NoteOk j v n)(e:Ext j h):NoteOk h v n:=⟨⟨x.subs.ext e,x.small,x.top⟩,x.len⟩
section
variable (fil nam:Bs→Bool)(tak:Bs→Bs→Bool)(G:kA→kC NZ)
abbrev bEg (l:kC NZ):Nat×Bool:=Ra.check (aT fil nam tak) {} 0 (l.map (·.2.2))
def dm6 (Z:H):Pw.Dm:=fun f a h=>f=6∧∃x,a=[x]∧HasT Z h∧3≤h.next∧SliceE 35 h x ((G x).map nzC)∧(∀z∈G x,NoteOk h z.2.1 z.2.2)∧(G x).length≤2^30
def rl6:Pw.Rl:=fun _ a h v b=>v=.tuple ⟨[iN ((bEg fil nam tak (G (a.headD eJ))).1:Int),.bool (bEg fil nam tak (G (a.headD eJ))).2]⟩∧Ext h b
end
section
variable {D:CF}{Z:H}{fil nam:Bs→Bool}(k:K4 D Z fil nam tak)(Y:aO prog 3 (CI D))
include k Y
def ok6 (G:kA→kC NZ):RelOK prog 3 TaZ.isR (dm6 G Z) (rl6 fil nam tak G):=by
 refine RelOK.layers (by kernel_rfl) (by kernel_rfl) Y aFz (fun f a h _ d=>?_) fun f a h v c _ r=>r.2.next;obtain⟨rfl,x,rfl,b,B,s,n,l⟩:=d;exact W6 k Y b B n l s
end
def aLt (t:Ty prog h 5 a):∃n:Nat,a=[iU (n:Int)]∧n<256:=by
 obtain⟨n,h3,b⟩:=t.int_inv Tryz.underlying5;have q:IntKind.u8.min≤n∧n≤IntKind.u8.max:=by simpa[Lit.wf]using b
 have e:IntKind.u8.min=0:=rfl;have c:IntKind.u8.max=255:=rfl;exact⟨n.toNat,by rw[h3,Int.toNat_of_nonneg (by omega)],by omega⟩
def yS {t:kF}{k:IntKind}(u:prog.underlying t=some (.int k))(y:Ty prog h t a):∃v:kA,a=[v]∧AM.same v v=true:=by
 obtain⟨n,h3,_⟩:=y.int_inv u;exact⟨_,h3,by simp[AM.same]⟩
def aOy (h:∀v∈a,AM.same v v=true)(k:Nat):AM.same (a.getD k .nilFunc) (a.getD k .nilFunc)=true:=by
 rw[List.getD_eq_getElem?_getD]
 cases b:a[k]? with
 |none=>rfl
 |some v=>exact h v (sY b)
def i64_in (t:Ty prog h 3 a):∃n:Int,a=[iN n]:=by
 obtain⟨n,h3,_⟩:=t.int_inv Tryz.underlying3;exact⟨n,h3⟩
def jG (t:Ty prog h 9 a):∃s:Bs,a=[str s]∧s.length≤maxLen:=by
 obtain⟨s,b,c⟩:=t.str_inv Tryz.underlying9;exact⟨s.data.toList,b,by simpa using c⟩
def aNr {h:H}:∀e:kC (kC kA),(∀x∈e,Ty prog h 57 x)→∃l:Row,e=aW l∧∀y∈l,y.2<256
 |[],_=>⟨[],rfl,fun s a=>by cases a⟩
 |x::e,hx=>by
  obtain⟨l,f,g⟩:=aNr e fun y j=>hx y (by simp[j]);have b:=(hx x (by simp)).fields Tryz.underlying57;simp only[aRb]at b;obtain⟨_,_,rfl,k,⟨_,_,rfl,m,rfl⟩⟩:=b;obtain⟨c,rfl,_⟩:=jG k;obtain⟨d,rfl,i⟩:=aLt m;refine⟨(c,d)::l,by rw[f];rfl,fun s a=>?_⟩;rcases sI.1 a with rfl|a
  ·exact i
  ·exact g s a
def aZn (ty:Ty prog h 35 a):∃z:NZ,a=nzC z∧wI h z.2.1 z.2.2∧EOk z.1∧∀k,AM.same (z.1 k) (z.1 k)=true:=by
 have Q:=ty.fields Tryz.underlying35;simp only[aRb]at Q;obtain⟨_,_,rfl,p0,⟨_,_,rfl,p1,⟨_,_,rfl,p2,⟨_,_,rfl,p3,⟨_,_,rfl,p4,⟨_,_,rfl,p5,⟨_,_,rfl,p6,⟨_,_,rfl,p7,⟨_,_,rfl,p8,rfl⟩⟩⟩⟩⟩⟩⟩⟩⟩:=Q;obtain⟨i,rfl,k0⟩:=aLt p0;obtain⟨op,rfl⟩:=i64_in p1;obtain⟨o,rfl⟩:=i64_in p2;obtain⟨c,rfl,_⟩:=jG p3;have P:=p4.fields Tryz.underlying33;simp only[aRb]at P;obtain⟨_,_,rfl,q0,⟨_,_,rfl,q1,⟨_,_,rfl,q2,⟨_,_,rfl,q3,⟨_,_,rfl,q4,⟨_,_,rfl,q5,⟨_,_,rfl,q6,⟨_,_,rfl,q7,⟨_,_,rfl,q8,⟨_,_,rfl,q9,⟨_,_,rfl,t,⟨_,_,rfl,u,⟨_,_,rfl,x,⟨_,_,rfl,y,⟨_,_,rfl,B,⟨_,_,rfl,C,⟨_,_,rfl,D,⟨_,_,rfl,E,⟨_,_,rfl,G,⟨_,_,rfl,I,⟨_,_,rfl,J,rfl⟩⟩⟩⟩⟩⟩⟩⟩⟩⟩⟩⟩⟩⟩⟩⟩⟩⟩⟩⟩⟩:=P;obtain⟨p,rfl,_⟩:=aLt q0;obtain⟨U,rfl⟩:=q1.bool_inv Tryz.underlying4;obtain⟨V,rfl,d3⟩:=yS Tryz.underlying5 q2;obtain⟨W,rfl⟩:=q3.bool_inv Tryz.underlying4;obtain⟨X,rfl,e3⟩:=yS Tryz.underlying28 q4;obtain⟨Y,rfl,_⟩:=jG q5;obtain⟨Z,rfl,_⟩:=jG q6;obtain⟨a7,rfl,f3⟩:=yS Tryz.underlying5 q7;obtain⟨b,rfl⟩:=q8.bool_inv Tryz.underlying4;obtain⟨a9,rfl,g3⟩:=yS Tryz.underlying28 q9;obtain⟨d,rfl,_⟩:=jG t;obtain⟨e,rfl⟩:=u.bool_inv Tryz.underlying4;obtain⟨f,rfl⟩:=y.bool_inv Tryz.underlying4;obtain⟨g,rfl⟩:=B.bool_inv Tryz.underlying4;obtain⟨j,rfl,_⟩:=jG C;obtain⟨m,rfl,_⟩:=jG D;obtain⟨n,rfl⟩:=E.bool_inv Tryz.underlying4;obtain⟨q,rfl,R⟩:=yS Tryz.underlying5 G;obtain⟨r,rfl,_⟩:=jG J;obtain⟨w,s,rfl,M,hm,he⟩:=I.slice_inv Tryz.underlying31
 have c2:prog.cellsOf 57=2:=by kernel_rfl
 rw[c2]at M;obtain⟨l,rfl,hl⟩:=aNr s he;have S:=x.fields Tryz.underlying30;simp only[aRb]at S;obtain⟨_,_,rfl,w0,⟨_,_,rfl,w1,⟨_,_,rfl,w2,⟨_,_,rfl,w3,rfl⟩⟩⟩⟩:=S;obtain⟨b0,rfl,_⟩:=jG w0;obtain⟨b1,rfl,_⟩:=jG w1;obtain⟨b2,rfl,i3⟩:=yS Tryz.underlying5 w2;obtain⟨b3,rfl⟩:=w3.bool_inv Tryz.underlying4;have O:=p5.fields Tryz.underlying30;simp only[aRb]at O;obtain⟨_,_,rfl,m0,⟨_,_,rfl,m1,⟨_,_,rfl,m2,⟨_,_,rfl,m3,rfl⟩⟩⟩⟩:=O;obtain⟨c0,rfl,t0⟩:=jG m0;obtain⟨c1,rfl,_⟩:=jG m1;obtain⟨c2,rfl,_⟩:=aLt m2;obtain⟨c3,rfl⟩:=m3.bool_inv Tryz.underlying4;obtain⟨d6,rfl,_⟩:=jG p6;obtain⟨d7,rfl⟩:=p7.bool_inv Tryz.underlying4;obtain⟨K,rfl,_⟩:=aLt p8;refine⟨(fun k=>([.nilFunc,.nilFunc,.nilFunc,.nilFunc,.nilFunc,.bool U,V,.bool W,X,str Y,str Z,a7,.nilFunc,a9,str d,.bool e,str b0,str b1,b2,.bool b3,.bool f,.bool g,str j,str m,.bool n,q,.nilFunc,str r,.nilFunc,.nilFunc,.nilFunc,.nilFunc,str d6,.bool d7]:kC kA).getD k .nilFunc,w,⟨i,op,o,c,p,b,l,⟨c0,c1,c2,c3⟩,K⟩),rfl,⟨M,hl,t0⟩,fun k L=>?_,aOy fun v N=>?_⟩
 rotate_left
 ·simp only[sI,List.mem_nil_iff,or_false]at N;rcases N with rfl|rfl|rfl|rfl|rfl|rfl|rfl|rfl|rfl|rfl|rfl|rfl|rfl|rfl|rfl|rfl|rfl|rfl|rfl|rfl|rfl|rfl|rfl|rfl|rfl|rfl|rfl|rfl|rfl|rfl|rfl|rfl|rfl|rfl<;>first|assumption|simp[AM.same]
 simp only[sI,List.mem_nil_iff,or_false]at L;rcases L with rfl|rfl|rfl|rfl|rfl|rfl|rfl|rfl<;>exact⟨_,rfl⟩
def aIv {h:H}:∀e:kC (kC kA),(∀x∈e,Ty prog h 35 x)→∃l:kC NZ,e=l.map nzC∧(∀z∈l,wI h z.2.1 z.2.2)∧(∀z∈l,EOk z.1)∧∀z∈l,∀k,AM.same (z.1 k) (z.1 k)=true
 |[],_=>⟨[],rfl,fun r b=>by(cases b),fun r b=>by(cases b),fun r b=>by(cases b)⟩
 |x::e,hx=>by
  obtain⟨p,d,f,h3,g⟩:=aIv e fun y i=>hx y (by simp[i]);obtain⟨r,rfl,n,o,c⟩:=aZn (hx x (by simp));refine⟨r::p,by rw[d];rfl,fun s a=>?_,fun s a=>?_,fun s a=>?_⟩
  ·rcases sI.1 a with rfl|a
   ·exact n
   ·exact f s a
  ·rcases sI.1 a with rfl|a
   ·exact o
   ·exact h3 s a
  ·rcases sI.1 a with rfl|a
   ·exact c
   ·exact g s a
def bKv (t:TyV prog h 22 v):∃l:kC NZ,SliceE 35 h v (l.map nzC)∧(∀z∈l,wI h z.2.1 z.2.2)∧(∀z∈l,EOk z.1)∧∀z∈l,∀k,AM.same (z.1 k) (z.1 k)=true:=by
 cases t with
 |agg u _=>rw[Tryz.underlying22]at u;simp at u
 |one u t=>
  obtain⟨d,e,a,s,m,c⟩:=t.slice_inv Tryz.underlying22;simp only[tM,and_true]at a;subst a;have c2:prog.cellsOf 35=35:=by kernel_rfl
  rw[c2]at s;obtain⟨l,rfl,n,o,b⟩:=aIv e c;exact⟨l,s,n,o,b⟩
end Go.Proofs.YtbmdhjdgpeleoaaGreatDoor.Ra
namespace Ra
open Go.Proofs.YtbmdhjdgpeleoaaGreatDoor.Ra (aC cZ eE dZ)
open Go Go.AM
variable {B c0:Bs}{I:Int}{i n:Nat}{b:Sb}{p s:St}{g o:kC Nat}
section
variable {l:kC cD}{S:Nat→MD}{tak:Bs→Bs→Bool}
structure PubA (l:kC cD)(i:Nat)(op:Int)(p:Pub)(r:Nat):Prop where
 fst:bK l 0 i 4 op 0=some r
 client:p.client=(nt l r).client
 msg:p.msg=(nt l r).msg
 place:p.place=r
 opn:p.open_=(bK l r i 3 op 0).isNone
 serve:∀c,c∈p.serve↔bS l r i c=true
structure HoldsA (l:kC cD)(S:Nat→MD)(tak:Bs→Bs→Bool)(i:Nat)(p:Pub)(r:Nat):Prop where
 nd:p.holds.Nodup
 iff:∀c,c∈p.holds↔∀j,r≤j→j≤i→(bD tak (S j) c (nt l r).msg.topic).2=true
def PubOk (l:kC cD)(S:Nat→MD)(tak:Bs→Bs→Bool)(i:Nat)(o:Int):kB Pub→Prop
 |none=>bK l 0 i 4 o 0=none
 |some p=>∃r,PubA l i o p r∧HoldsA l S tak i p r
def PubA.lt {r:Nat}{p:Pub}(a:PubA l i I p r):r<i∧(nt l r).op=I∧(nt l r).kind=4:=by
 obtain⟨_,h,h3,_⟩:=fst_some.1 a.fst;exact⟨h,h3.2.1,h3.1⟩
def jT {k m:Nat}(r:i≤n)(h:(nt l n).op=I→(nt l n).kind≠k):bK l i (n+1) k I m=bK l i n k I m:=iO r fun q=>h q.2.1 q.1
def PubA.quiet {p:Pub}(a:PubA l i I p n)(h:(nt l i).op=I→(nt l i).kind≠3∧(nt l i).kind≠6∧(nt l i).kind≠7):PubA l (i+1) I p n:=by
 obtain⟨d,b,h3⟩:=a.lt;refine⟨?_,a.client,a.msg,a.place,?_,fun c=>?_⟩
 ·rw[eZ (sE _),a.fst]
 ·rw[jT (by omega) fun e=>(h e).1];exact a.opn
 ·rw[vD (by omega) fun e=>(h (e.trans b)).2];exact a.serve c
def HoldsA.quiet {p:Pub}(a:HoldsA l S tak i p n)(r:n≤i)(h:∀c,(bD tak (S (i+1)) c (nt l n).msg.topic).2=(bD tak (S i) c (nt l n).msg.topic).2):HoldsA l S tak (i+1) p n:=by
 refine⟨a.nd,fun c=>(a.iff c).trans ⟨fun g j b d=>?_,fun g j b d=>g j b (by omega)⟩⟩;rcases mJ j (i+1)with hlt|hge
 ·exact g j b (by omega)
 ·rw[show j=i+1 by omega,h];exact g i r (kQ _)
def HoldsA.does {p:Pub}(a:HoldsA l S tak n p i)(r:i≤n)(h:∀c,c≠c0→(bD tak (S (n+1)) c (nt l i).msg.topic).2=(bD tak (S n) c (nt l i).msg.topic).2){k:Pub}(d:k.holds=if(bD tak (S (n+1)) c0 (nt l i).msg.topic).2=true then p.holds else p.holds.erase c0):HoldsA l S tak (n+1) k i:=by
 have u:∀c,(∀j,i≤j→j≤n+1→(bD tak (S j) c (nt l i).msg.topic).2=true)↔((∀j,i≤j→j≤n→(bD tak (S j) c (nt l i).msg.topic).2=true)∧(bD tak (S (n+1)) c (nt l i).msg.topic).2=true):=fun c=>
  ⟨fun g=>⟨fun j f m=>g j f (by omega),g _ (by omega) (kQ _)⟩,fun g j f m=>by
   rcases mJ j (n+1)with hlt|hge
   ·exact g.1 j f (by omega)
   ·rw[show j=n+1 by omega];exact g.2⟩
 by_cases e:(bD tak (S (n+1)) c0 (nt l i).msg.topic).2=true
 ·rw[kM e]at d;refine⟨d▸a.nd,fun c=>?_⟩;rw[d,a.iff c,u c];refine⟨fun g=>⟨g,?_⟩,fun g=>g.1⟩;by_cases b:c=c0
  ·rw[b];exact e
  ·rw[h c b];exact g n r (kQ _)
 ·rw[kL e]at d;refine⟨d▸a.nd.erase c0,fun c=>?_⟩;rw[d,a.nd.mem_erase_iff,a.iff c,u c];refine⟨fun⟨b,g⟩=>⟨g,by rw[h c b];exact g n r (kQ _)⟩,fun g=>⟨fun b=>e (b▸g.2),g.1⟩⟩
def PubOk.quiet {i:Nat}{I:Int}{o:kB Pub}(a:PubOk l S tak i I o)(h:(nt l i).op=I→(nt l i).kind≠3∧(nt l i).kind≠4∧(nt l i).kind≠6∧(nt l i).kind≠7)(d:∀c t,(bD tak (S (i+1)) c t).2=(bD tak (S i) c t).2):PubOk l S tak (i+1) I o:=by
 cases o with
 |none=>exact(jT (sE _) fun e=>(h e).2.1).trans a
 |some p=>
  obtain⟨r,a,b⟩:=a;exact⟨r,a.quiet fun e=>⟨(h e).1,(h e).2.2⟩,b.quiet (sC a.lt.1) fun c=>d c _⟩
def Uniq (l:kC cD)(i:Nat):Prop:=∀k,k<i→(nt l k).kind=4→bK l 0 k 4 (nt l k).op 0=none
def Uniq.fst (u:Uniq l n)(k:i<n)(h:(nt l i).kind=4):bK l 0 n 4 (nt l i).op 0=some i:=
 fst_some.2 ⟨sE _,k,⟨h,rfl,.inl rfl⟩,fun j _ a=>fst_none.1 (u i k h) j (sE _) a⟩
def vO {l:kC Bs}{u:Bs}:u∈lH l B↔u∈l∨u=B:=by
 unfold lH;split
 ·rename_i h;exact⟨.inl,fun a=>a.elim id fun e=>e▸h⟩
 ·simp
def aPc (M:RelM p (S n))(u:Uniq l n)(pubs:∀Q,PubOk l S tak n Q (aE p.pubs Q))(nd:(p.pubs.map (·.1)).Nodup)(d:(nt l n).kind=6∨(nt l n).kind=7)(hs:∀c t,(bD tak (S (n+1)) c t).2=(bD tak (S n) c t).2):
 (gV tak p (nt l n)).1=aBy l S tak n∧(aBy l S tak n=true→∃R,(gV tak p (nt l n)).2={p with pubs:=aM p.pubs (nt l n).op R}∧PubOk l S tak (n+1) (nt l n).op (some R)):=by
 unfold gV aBy;have C:=pubs (nt l n).op
 cases P:aE p.pubs (nt l n).op with
 |none=>
  rw[P]at C;rw[show bK l 0 n 4 (nt l n).op 0=none from C];exact⟨rfl,fun h=>(by cases h)⟩
 |some N=>
  rw[P]at C;obtain⟨r,a,W⟩:=C;obtain⟨J,I,Y⟩:=a.lt;rw[a.fst];simp only;have O:(N.open_=false∨(nt l n).client∈N.serve)↔((bK l r n 3 (nt l n).op 0).isSome=true∨bS l r n (nt l n).client=true):=by
   rw[a.serve,a.opn];cases bK l r n 3 (nt l n).op 0<;>simp
  by_cases w:N.open_=false∨(nt l n).client∈N.serve
  ·rw[kM w,kM (O.1 w)];exact⟨rfl,fun h=>(by cases h)⟩
  rw[kL w,kL fun h=>w (O.2 h),M.best tak,a.msg];by_cases B:(bD tak (S n) (nt l n).client (nt l r).msg.topic).2=false
  ·rw[kM B,kM (.inl B)];exact⟨rfl,fun h=>(by cases h)⟩
  rw[kL B];by_cases h3:(nt l n).msg≠cK (nt l r).msg (bD tak (S n) (nt l n).client (nt l r).msg.topic).1 false∨(nt l n).qos≠(nt l n).msg.qos
  ·rw[kM h3,kM (.inr h3)];exact⟨rfl,fun h=>(by cases h)⟩
  have D:=not_or.2 ⟨B,h3⟩;rw[kL h3,kL D];have V:(p.pubs.any fun x=>tQ (nt l n).client N x.2)=(List.range' (r+1) (n-(r+1))).any fun k=>decide ((nt l k).kind=4∧(nt l k).client=(nt l r).client∧(nt l k).msg.topic=(nt l r).msg.topic∧bS l k n (nt l n).client=true):=by
   rw[mR,rP,rP];constructor
   ·rintro⟨⟨o,q⟩,v,s⟩;have f:=pubs o;rw[dZ nd v]at f;obtain⟨k,b,_⟩:=f;obtain⟨d,Z,E⟩:=b.lt;unfold tQ at s;rw[pW,b.serve,b.place,a.place,b.client,a.client,b.msg,a.msg]at s;exact⟨k,List.mem_range'_1.2 ⟨by omega,by omega⟩,kN ⟨E,s.2.2.1,s.2.2.2,s.1⟩⟩
   ·rintro⟨k,d,h⟩;have d:=List.mem_range'_1.1 d;rw[pW]at h;have m:k<n:=by omega
    have f:=pubs (nt l k).op
    cases v:aE p.pubs (nt l k).op with
    |none=>
     rw[v]at f;have:=u.fst m h.1;rw[show bK l 0 n 4 (nt l k).op 0=none from f]at this;cases this
    |some q=>
     rw[v]at f;obtain⟨k',b,_⟩:=f;have:=b.fst;rw[u.fst m h.1]at this;obtain rfl:=pB this;have hm:∀{l:kC (Int×Pub)} {o:Int} {q:Pub},aE l o=some q→(o,q)∈l:=by
      intro l
      induction l with
      |nil=>intro o q h;cases h
      |cons x r ih=>
       intro o q h;obtain⟨y,z⟩:=x;simp only[aE]at h;split at h
       ·rename_i e;obtain rfl:=pB h;rw[e];exact mO
       ·exact mL _ (ih h)
     refine⟨((nt l k).op,q),hm v,?_⟩;unfold tQ;rw[pW,b.serve,b.place,a.place,b.client,a.client,b.msg,a.msg];exact⟨h.2.2.2,by omega,h.2.1,h.2.2.1⟩
  rw[V];by_cases g:((List.range' (r+1) (n-(r+1))).any fun k=>decide ((nt l k).kind=4∧(nt l k).client=(nt l r).client∧(nt l k).msg.topic=(nt l r).msg.topic∧bS l k n (nt l n).client=true))=true
  ·rw[kM g,g];exact⟨rfl,fun h=>(by cases h)⟩
  ·rw[kL g];rw[dY]at g;rw[g];have i:=W.quiet (sC J) fun c=>hs c _;refine⟨rfl,fun _=>⟨_,rfl,r,⟨?_,a.client,rfl,a.place,?_,fun c=>?_⟩,⟨i.nd,i.iff⟩⟩⟩
   ·rw[eZ (sE _),a.fst]
   ·rw[jT (sC J) fun _ h=>by rw[h]at d;rcases d with h|h<;>cases h];exact a.opn
   ·show c∈lH N.serve (nt l n).client↔_;rw[vO,a.serve,jW,jW];constructor
    ·rintro(⟨j,K,q2,L⟩|rfl)
     ·exact⟨j,K,by omega,L⟩
     ·exact⟨n,sC J,mQ _,d,I.symm,rfl⟩
    ·rintro⟨j,K,q2,L,q4,U⟩;rcases mJ j n with G|X
     ·exact .inl ⟨j,K,G,L,q4,U⟩
     ·obtain rfl:j=n:=by omega
      exact .inr U.symm
def aOq (O:RelM s (S n))(E:∀j,j≤n→(((S j).L.map (·.client)).Nodup))(pubs:∀o,PubOk l S tak n o (aE s.pubs o))(y:(nt l n).kind=3)(N:∀c t,(bD tak (S (n+1)) c t).2=(bD tak (S n) c t).2):
 (eA s (nt l n).op).1=aGg l S tak n∧((eA s (nt l n).op).2.seats=s.seats∧(eA s (nt l n).op).2.kept=s.kept∧(eA s (nt l n).op).2.subs=s.subs)∧(∀o,o≠(nt l n).op→aE (eA s (nt l n).op).2.pubs o=aE s.pubs o)∧(((eA s (nt l n).op).2.pubs.map (·.1)).Nodup∨¬(s.pubs.map (·.1)).Nodup)∧
  PubOk l S tak (n+1) (nt l n).op (aE (eA s (nt l n).op).2.pubs (nt l n).op):=by
 unfold eA aGg;have i:=pubs (nt l n).op;have u:((s.pubs.map (·.1)).Nodup∨¬(s.pubs.map (·.1)).Nodup):=Classical.em _
 cases q:aE s.pubs (nt l n).op with
 |none=>
  rw[q]at i;rw[show bK l 0 n 4 (nt l n).op 0=none from i];refine⟨rfl,⟨rfl,rfl,rfl⟩,fun _ _=>rfl,u,?_⟩;show PubOk l S tak (n+1) _ (aE s.pubs _);rw[q];exact(jT (sE _) fun _ h=>by rw[y]at h;cases h).trans i
 |some p=>
  rw[q]at i;obtain⟨r,a,v⟩:=i;obtain⟨f,M,K⟩:=a.lt;rw[a.fst];simp only;have B:bK l 0 (n+1) 4 (nt l n).op 0=some r:=by rw[eZ (sE _),a.fst]
  have G:∀c,bS l r (n+1) c=bS l r n c:=fun c=>vD (sC f) fun _=>by rw[y];exact⟨by decide,by decide⟩
  have d:HoldsA l S tak (n+1) p r:=v.quiet (sC f) fun c=>N c _;by_cases b:p.open_=true
  ·rw[kM b];have e:(bK l r n 3 (nt l n).op 0).isSome=false:=by
    have:=a.opn;rw[b]at this
    cases h:bK l r n 3 (nt l n).op 0 with
    |none=>rfl
    |some x=>rw[h]at this;cases this
   rw[e];simp only[pP,mD];refine⟨?_,⟨trivial,trivial,trivial⟩,fun o z=>by rw[aC,kL (mV z)],?_,?_⟩
   ·rw[mR,mB,mB];constructor
    ·intro g x D
     cases I:(List.range' r (n+1-r)).all fun j=>(bD tak (S j) x.client (nt l r).msg.topic).2 with
     |false=>rfl
     |true=>
      have:=g x.client ((v.iff x.client).2 fun j k m=>mB.1 I j (List.mem_range'_1.2 ⟨k,by omega⟩));rw[pW,a.serve]at this;rw[this];rfl
    ·intro g c J;rw[pW,a.serve];have k:=(v.iff c).1 J;have m:=k r (kQ _) (sC f);unfold bD at m
     cases C:bO (S r).L c with
     |none=>rw[C]at m;cases m
     |some x=>
      obtain⟨D,rfl⟩:=vT C;have:=g x D;rw[tI,Bool.not_eq_true']at this;rcases this with h3|h3
      ·exfalso;have:((List.range' r (n+1-r)).all fun j=>(bD tak (S j) x.client (nt l r).msg.topic).2)=true:=mB.2 fun j w=>by
        have w:=List.mem_range'_1.1 w;exact k j w.1 (by omega)
       rw[h3]at this;cases this
      ·exact h3
   ·exact u.imp (fun h=>fE h _ _) id
   ·rw[aC,kM rfl];refine⟨r,⟨B,a.client,a.msg,a.place,?_,fun c=>by rw[G];exact a.serve c⟩,⟨d.nd,d.iff⟩⟩;show false=_;rw[eZ (sC f)]
    cases bK l r n 3 (nt l n).op 0 with
    |some x=>rfl
    |none=>rw[kM ⟨y,rfl,.inl rfl⟩];rfl
  ·rw[kL b];rw[dY]at b;have e:(bK l r n 3 (nt l n).op 0).isSome=true:=by
    have:=a.opn;rw[b]at this
    cases h:bK l r n 3 (nt l n).op 0 with
    |none=>rw[h]at this;cases this
    |some x=>rfl
   rw[kM e];refine⟨rfl,⟨rfl,rfl,rfl⟩,fun _ _=>rfl,u,?_⟩;show PubOk l S tak (n+1) _ (aE s.pubs _);rw[q];refine⟨r,⟨B,a.client,a.msg,a.place,?_,fun c=>by rw[G];exact a.serve c⟩,d⟩;rw[b,eZ (sC f)]
   cases h:bK l r n 3 (nt l n).op 0 with
   |some x=>rfl
   |none=>rw[h]at e;cases e
end
section
variable {l:kC cD}{S:Nat→MD}{fil nam:Bs→Bool}{tak:Bs→Bs→Bool}
def aNf (l:kC cD)(o:Int)(j:Nat):Prop:=((nt l j).kind=1∨(nt l j).kind=2)∧(nt l j).ptype=8∧(nt l j).op=o
structure Past (l:kC cD)(S:Nat→MD)(a e:Nat)(b:Sb):Prop where
 past:∀t m,m∈(aE b.past t).getD []↔∃k,a≤k∧k≤e∧fY (S k).kept t=some m
 still:∀t,t∈b.still↔(fY (S a).kept t).isSome=true∧∀j,a≤j→j<e→¬((nt l j).kind=5∧(nt l j).msg.topic=t)
 nd:b.still.Nodup
structure SbD (l:kC cD)(S:Nat→MD)(fil nam:Bs→Bool)(i:Nat)(op:Int)(b:Sb)(a d:Nat):Prop where
 fst:bK l 0 i 2 op 8=some d
 le:a≤d
 opn:b.open_=(bK l d i 3 op 0).isNone
 client:b.client=(nt l d).client
 filters:b.filters=cH l S fil nam d
 past:Past l S a d b
 got:∀t,t∈b.got↔fI l i op t true=true
 last:∀t,(b.some_=true∧t≤b.last)↔fI l i op t false=true
structure SbN (l:kC cD)(S:Nat→MD)(i:Nat)(op:Int)(b:Sb)(a:Nat):Prop where
 fst:bK l 0 i 2 op 8=none
 opn:b.open_=false
 past:Past l S a i b
 got:b.got=[]
 last:b.some_=false
 its:∀j,j<i→(nt l j).op=op→gW l j op=false
structure Beg (l:kC cD)(i:Nat)(op:Int)(a:Nat):Prop where
 lt:a<i
 is_:aNf l op a
 fst:∀j,j<a→¬aNf l op j
def SbOk (l:kC cD)(S:Nat→MD)(fil nam:Bs→Bool)(i:Nat)(o:Int):kB Sb→Prop
 |none=>(∀j,j<i→¬aNf l o j)∧∀j,j<i→(nt l j).op=o→gW l j o=false
 |some b=>∃a,Beg l i o a∧((b.done=false∧SbN l S i o b a)∨(b.done=true∧∃d,SbD l S fil nam i o b a d))
def Beg.up {a:Nat}(b:Beg l n I a):Beg l (n+1) I a:=⟨Nat.lt_succ_of_lt b.lt,b.is_,b.fst⟩
def Past.quiet (p:Past l S n i b)(o:n≤i)(q:(S (i+1)).kept=(S i).kept)(f:(nt l i).kind≠5):Past l S n (i+1) b:=by
 refine⟨fun t m=>(p.past t m).trans ⟨fun⟨k,a,c,h3⟩=>⟨k,a,by omega,h3⟩,fun⟨k,a,c,h3⟩=>?_⟩,fun t=>(p.still t).trans ⟨fun⟨a,c⟩=>⟨a,fun j h3 e h=>?_⟩,fun⟨a,c⟩=>⟨a,fun j h3 e=>c j h3 (by omega)⟩⟩,p.nd⟩
 ·rcases mJ k (i+1)with d|g
  ·exact⟨k,a,by omega,h3⟩
  ·rw[show k=i+1 by omega,q]at h3;exact⟨i,o,kQ _,h3⟩
 ·rcases mJ j i with d|g
  ·exact c j h3 d h
  ·rw[show j=i by omega]at h;exact f h.1
def uH (h:∀j,j<n→(nt l j).op=I→gW l j I=false)(i:(nt l n).op=I→gW l n I=false):∀j,j<n+1→(nt l j).op=I→gW l j I=false:=fun j b o=>by
 rcases mJ j n with a|g
 ·exact h j a o
 ·obtain rfl:j=n:=by omega
  exact i o
def SbD.quiet {k:Nat}(x:SbD l S fil nam i I b n k)(h:(nt l i).op=I→(nt l i).kind≠3∧gW l i I=false):SbD l S fil nam (i+1) I b n k:=by
 have d:=(fst_some.1 x.fst).2.1;refine⟨by rw[eZ (sE _),x.fst],x.le,?_,x.client,x.filters,x.past,fun t=>?_,fun t=>?_⟩
 ·rw[jT (sC d) fun e=>(h e).1];exact x.opn
 ·rw[nY fun e=>(h e).2];exact x.got t
 ·rw[nY fun e=>(h e).2];exact x.last t
def SbOk.quiet {i:Nat}{I:Int}{o:kB Sb}(x:SbOk l S fil nam i I o)(p:(S (i+1)).kept=(S i).kept)(m:(nt l i).kind≠5)
 (h:(nt l i).op=I→(nt l i).kind≠3∧gW l i I=false∧(aNf l I i→∃b,o=some b∧((nt l i).kind=1∨b.done=true))):SbOk l S fil nam (i+1) I o:=by
 cases o with
 |none=>
  refine⟨fun j s f=>?_,uH x.2 fun e=>(h e).2.1⟩;rcases mJ j i with k|n
  ·exact x.1 j k f
  ·obtain rfl:j=i:=by omega
   obtain⟨b,e,_⟩:=(h f.2.2).2.2 f;cases e
 |some b=>
  obtain⟨a,f,⟨g,y⟩|⟨g,d,y⟩⟩:=x
  ·refine⟨a,f.up,.inl ⟨g,?_,y.opn,y.past.quiet (sC f.lt) p m,y.got,y.last,uH y.its fun e=>(h e).2.1⟩⟩;rw[iO (sE _) fun q=>?_]
   ·exact y.fst
   ·obtain⟨r,e,c⟩:=(h q.2.1).2.2 ⟨.inr q.1,q.2.2.elim (fun e=>by cases e) id,q.2.1⟩;cases e;rcases c with c|c
    ·rw[q.1]at c;cases c
    ·rw[g]at c;cases c
  ·exact⟨a,f.up,.inr ⟨g,d,y.quiet fun e=>⟨(h e).1,(h e).2.1⟩⟩⟩
def aEb {k:Nat}(b:Beg l n I i)(g:bK l 0 n 2 I 8=some k)(hle:i≤k):gT l n I=some (i,k):=by
 unfold gT;rw[g];simp only[mA,kP,kW,and_true];obtain⟨_,o,h3,f⟩:=fst_some.1 g
 cases e:bK l 0 k 1 I 8 with
 |some x=>
  obtain⟨_,p,d,m⟩:=fst_some.1 e;simp only[pQ];have j:aNf l I x:=⟨.inl d.1,d.2.2.elim (fun e=>by cases e) id,d.2.1⟩;rcases Nat.lt_trichotomy i x with h|h|h
  ·exfalso;rcases b.is_.1 with a|c
   ·exact m i (sE _) h ⟨a,b.is_.2.2,.inr b.is_.2.1⟩
   ·exact f i (sE _) (by omega) ⟨c,b.is_.2.2,.inr b.is_.2.1⟩
  ·exact h.symm
  ·exact dC j (b.fst x h)
 |none=>
  simp only[tH];rcases mJ i k with h|h
  ·exfalso;rcases b.is_.1 with a|c
   ·exact fst_none.1 e i (sE _) h ⟨a,b.is_.2.2,.inr b.is_.2.1⟩
   ·exact f i (sE _) h ⟨c,b.is_.2.2,.inr b.is_.2.1⟩
  ·omega
def lL {o:kB Sb}(x:SbOk l S fil nam n I o)(h:∀b,o=some b→b.done=false):gT l n I=none:=by
 unfold gT
 cases o with
 |none=>
  rw[show bK l 0 n 2 I 8=none from fst_none.2 fun j _ f q=>x.1 j f ⟨.inr q.1,q.2.2.elim (fun e=>by cases e) id,q.2.1⟩];rfl
 |some b=>
  obtain⟨a,g,⟨c,y⟩|⟨c,d,y⟩⟩:=x
  ·rw[y.fst];rfl
  ·rw[h b rfl]at c;cases c
def aAv {m:MD}(r:RelM p m){x:Msg}(h:aE p.kept B=some x):x.topic=B:=by
 rw[r.kept]at h;unfold fY at h;simpa using List.find?_some h
def xO {kept:kC (Bs×Msg)}:∀(L:kC Msg) (b:Sb),(∀m∈L,aE kept m.topic=some m)→(∀t,aE (fN b L).past t=if t∈L.map (·.topic)then(aE kept t).map (fun m=>[m])else aE b.past t)∧(∀t,t∈(fN b L).still↔t∈b.still∨t∈L.map (·.topic))∧(b.still.Nodup→(fN b L).still.Nodup)∧
 (fN b L).done=b.done∧(fN b L).open_=b.open_∧(fN b L).got=b.got∧(fN b L).some_=b.some_
 |[],b,_=>⟨fun t=>by simp[fN],fun t=>by simp[fN],id,rfl,rfl,rfl,rfl⟩
 |m::L,b,h=>by
  have w:=xO L {b with past:=aM b.past m.topic [m],still:=lH b.still m.topic} fun x k=>h x (mL _ k);have j:=h m mO;obtain⟨o,p,q,r,s,u,v⟩:=w;refine⟨fun t=>?_,fun t=>?_,fun f=>q ?_,r,s,u,v⟩
  ·show aE (fN _ L).past t=_;rw[o t];by_cases d:t∈L.map (·.topic)
   ·rw[kM d,kM (by rw[mH];exact mL _ d)]
   ·rw[kL d];show aE (aM b.past m.topic [m]) t=_;rw[aC];by_cases c:m.topic=t
    ·rw[kM c,kM (by rw[mH,c];exact mO),←c,j];rfl
    ·rw[kL c,kL (by rw[mH,sI];exact fun e=>e.elim (fun e=>c e.symm) d)]
  ·show t∈(fN _ L).still↔_;rw[p t];show t∈lH b.still m.topic∨_↔_;rw[vO,mH,sI];exact⟨fun h=>h.elim (fun h=>h.elim .inl fun h=>.inr (.inl h)) fun h=>.inr (.inr h),fun h=>h.elim (fun h=>.inl (.inl h)) fun h=>h.elim (fun h=>.inl (.inr h)) .inr⟩
  ·show(lH b.still m.topic).Nodup;unfold lH;split
   ·exact f
   ·rename_i n;rw[List.nodup_append];exact⟨f,by simp,fun a g b i=>by rw[mC.1 i];exact fun e=>n (e▸g)⟩
def kept_mem {m:Msg}:m∈gP p↔∃t,t∈p.kept.map (·.1)∧aE p.kept t=some m:=by
 unfold gP;rw[List.mem_filterMap];exact⟨fun⟨t,h,a⟩=>⟨t,List.mem_mergeSort.1 h,a⟩,fun⟨t,h,a⟩=>⟨t,List.mem_mergeSort.2 h,a⟩⟩
def aOh {Y X:Type}[DecidableEq Y]:∀{l:kC (Y×X)} {k:Y} {x:X},aE l k=some x→k∈l.map (·.1)
 |(y,z)::r,k,x,h=>by
  simp only[aE]at h;split at h
  ·rename_i e;rw[e];exact mO
  ·exact mL _ (aOh h)
def aBd (r:RelM p (S n)):Past l S n n (cJ p)∧(cJ p).done=false∧(cJ p).open_=false∧(cJ p).got=[]∧(cJ p).some_=false:=by
 have b:∀m∈gP p,aE p.kept m.topic=some m:=fun m b=>by
  obtain⟨t,_,h⟩:=kept_mem.1 b;rw[aAv r h];exact h
 have d:∀t,t∈(gP p).map (·.topic)↔(fY (S n).kept t).isSome=true:=fun t=>by
  rw[←r.kept t];constructor
  ·intro h;obtain⟨m,c,rfl⟩:=mW.1 h;rw[b m c];rfl
  ·intro h;obtain⟨m,a⟩:=Option.isSome_iff_exists.1 h;exact mW.2 ⟨m,kept_mem.2 ⟨t,aOh a,a⟩,aAv r a⟩
 obtain⟨i,g,o,q,s,u,v⟩:=xO (kept:=p.kept) (gP p) {} b;refine⟨⟨fun t m=>?_,fun t=>?_,o .nil⟩,q,s,u,v⟩
 ·show m∈(aE (fN {} (gP p)).past t).getD []↔_;rw[i t];have f:(∃k,n≤k∧k≤n∧fY (S k).kept t=some m)↔fY (S n).kept t=some m:=⟨fun⟨k,c,e,h3⟩=>by rwa [show k=n by omega]at h3,fun h=>⟨n,kQ _,kQ _,h⟩⟩;rw[f,←r.kept t];by_cases h:t∈(gP p).map (·.topic)
  ·rw[kM h]
   cases a:aE p.kept t with
   |none=>simp
   |some x=>simp;exact eq_comm
  ·rw[kL h];rw[d,←r.kept t]at h
   cases a:aE p.kept t with
   |none=>simp[aE]
   |some x=>rw[a]at h;exact dC rfl h
 ·show t∈(fN {} (gP p)).still↔_;rw[g t,d t];exact⟨fun h=>⟨h.elim (fun h=>by cases h) id,fun j c e=>by omega⟩,fun h=>.inr h.1⟩
def Past.more (p:Past l S i n b)(g:i≤n)(v:b.done=false)(u:(nt l n).kind=5)(w:(S (n+1)).kept=xY (S n).kept (nt l n).msg):Past l S i (n+1) (cU {(nt l n).msg with retain:=true} b):=by
 unfold cU;rw[v];simp only[pP,mD];have x:∀t m,(∃k,i≤k∧k≤n+1∧fY (S k).kept t=some m)↔((∃k,i≤k∧k≤n∧fY (S k).kept t=some m)∨fY (S (n+1)).kept t=some m):=fun t m=>by
  constructor
  ·rintro⟨k,c,d,h3⟩;rcases mJ k (n+1)with f|o
   ·exact .inl ⟨k,c,by omega,h3⟩
   ·rw[show k=n+1 by omega]at h3;exact .inr h3
  ·rintro(⟨k,c,d,h3⟩|h)
   ·exact⟨k,c,by omega,h3⟩
   ·exact⟨n+1,by omega,kQ _,h⟩
 refine⟨fun t m=>?_,fun t=>?_,p.nd.erase _⟩
 ·rw[x,←p.past,w,aDl];by_cases s:(nt l n).msg.payload=[]
  ·simp only[s,mE];by_cases a:(nt l n).msg.topic=t
   ·simp[a]
   ·rw[kL a];exact⟨.inl,fun h=>h.elim id fun h=>(p.past t m).2 ⟨n,g,kQ _,h⟩⟩
  ·simp only[s,mD];rw[aC];by_cases a:(nt l n).msg.topic=t
   ·rw[kM a,kM a,←a];simp only[pQ,mP,mC,kP];exact⟨fun h=>h.elim .inl fun h=>.inr h.symm,fun h=>h.elim .inl fun h=>.inr h.symm⟩
   ·rw[kL a,kL a];exact⟨.inl,fun h=>h.elim id fun h=>(p.past t m).2 ⟨n,g,kQ _,h⟩⟩
 ·show t∈b.still.erase (nt l n).msg.topic↔_;rw[p.nd.mem_erase_iff,p.still t];constructor
  ·rintro⟨c,d,h3⟩;refine⟨d,fun j q r h=>?_⟩;rcases mJ j n with f|o
   ·exact h3 j q f h
   ·rw[show j=n by omega]at h;exact c h.2.symm
  ·rintro⟨c,d⟩;exact⟨fun e=>d n g (mQ _) ⟨u,e.symm⟩,c,fun j q r=>d j q (by omega)⟩
def SbOk.more {n:Nat}{I:Int}{o:kB Sb}(x:SbOk l S fil nam n I o)(g:(nt l n).kind=5)(p:(S (n+1)).kept=xY (S n).kept (nt l n).msg):SbOk l S fil nam (n+1) I (o.map (cU {(nt l n).msg with retain:=true})):=by
 have i:gW l n I=false:=by
  cases h:gW l n I with
  |false=>rfl
  |true=>rcases its_iff.1 h with h|h<;>rw[g]at h<;>first|(cases h;done)|(cases h.1)
 cases o with
 |none=>
  refine⟨fun j s c=>?_,uH x.2 fun _=>i⟩;rcases mJ j n with k|m
  ·exact x.1 j k c
  ·obtain rfl:j=n:=by omega
   rcases c.1 with h|h<;>rw[g]at h<;>cases h
 |some b=>
  obtain⟨a,c,⟨f,y⟩|⟨f,d,y⟩⟩:=x
  ·have r:=y.past.more (sC c.lt) f g p;have e:(cU {(nt l n).msg with retain:=true} b).done=b.done∧(cU {(nt l n).msg with retain:=true} b).open_=b.open_∧(cU {(nt l n).msg with retain:=true} b).got=b.got∧(cU {(nt l n).msg with retain:=true} b).some_=b.some_:=by
    unfold cU;rw[kL (by rw[f];decide)];exact⟨rfl,rfl,rfl,rfl⟩
   refine⟨a,c.up,.inl ⟨e.1.trans f,?_,e.2.1.trans y.opn,r,e.2.2.1.trans y.got,e.2.2.2.trans y.last,uH y.its fun _=>i⟩⟩;rw[iO (sE _) fun q=>by have:=q.1;rw[g]at this;cases this];exact y.fst
  ·have e:cU {(nt l n).msg with retain:=true} b=b:=by unfold cU;rw[kM f]
   refine⟨a,c.up,.inr ⟨by rw[e];exact f,d,?_⟩⟩;rw[e];exact y.quiet fun _=>⟨by rw[g];decide,i⟩
end
section
variable {l:kC cD}{S:Nat→MD}{fil nam:Bs→Bool}{tak:Bs→Bs→Bool}
def le_or {u:Bs}:B≤u↔u=B∨B<u:=by
 rw[List.le_iff_lt_or_eq];exact⟨fun h=>h.elim .inr fun h=>.inl h.symm,fun h=>h.elim (fun h=>.inr h.symm) .inl⟩
def told_false :fI l n I B false=true↔∃j,j<n∧gW l j I=true∧(nt l j).op=I∧B≤(nt l j).msg.topic:=by
 rw[told_iff];constructor
 ·rintro⟨j,a,b,h3,c⟩;exact⟨j,a,b,h3,le_or.2 (c.imp id fun h=>h.2)⟩
 ·rintro⟨j,a,b,h3,c⟩;exact⟨j,a,b,h3,(le_or.1 c).imp id fun h=>⟨rfl,h⟩⟩
def getK_some {K:kC Msg}:(fY K B).isSome=true↔∃m∈K,m.topic=B:=by
 unfold fY;rw[List.find?_isSome];simp
def aKm (x:SbOk l S fil nam n (nt l n).op (aE p.subs (nt l n).op))(K:gW l n (nt l n).op=true)(D:(nt l n).kind≠3):
 (eQ tak p (nt l n)).1=uD l S fil nam tak n∧(uD l S fil nam tak n=true→∃u,(eQ tak p (nt l n)).2={p with subs:=aM p.subs (nt l n).op u}∧SbOk l S fil nam (n+1) (nt l n).op (some u)):=by
 unfold eQ uD
 cases J:aE p.subs (nt l n).op with
 |none=>
  rw[J]at x;rw[lL x fun b h=>by cases h];exact⟨rfl,fun h=>(by cases h)⟩
 |some b=>
  rw[J]at x;have P:=x;obtain⟨a,G,⟨v,y⟩|⟨v,d,y⟩⟩:=x
  ·rw[lL P fun u h=>by rw[←pB h];exact v]
   dsimp only
   rw[kM (.inl y.opn)];exact⟨rfl,fun h=>(by cases h)⟩
  ·rw[aEb G y.fst y.le];simp only;have w:=(fst_some.1 y.fst).2.1;have I:(b.open_=false∨(nt l n).client≠b.client∨b.some_=true∧(nt l n).msg.topic≤b.last)↔((bK l d n 3 (nt l n).op 0).isSome=true∨(nt l n).client≠(nt l d).client∨fI l n (nt l n).op (nt l n).msg.topic false=true):=by
    rw[y.last,y.opn,y.client];cases bK l d n 3 (nt l n).op 0<;>simp
   by_cases f:b.open_=false∨(nt l n).client≠b.client∨b.some_=true∧(nt l n).msg.topic≤b.last
   ·rw[kM f,kM ((I.1 f).imp id fun h=>h.imp id .inl)];exact⟨rfl,fun h=>(by cases h)⟩
   rw[kL f];have c:=fun h=>f (I.2 h);by_cases r:(nt l n).qos≠(nt l n).msg.qos
   ·rw[kM (.inr (.inl r)),kM (.inr (.inr (.inr r)))];exact⟨rfl,fun h=>(by cases h)⟩
   have M:¬((bK l d n 3 (nt l n).op 0).isSome=true∨(nt l n).client≠(nt l d).client∨fI l n (nt l n).op (nt l n).msg.topic false=true∨(nt l n).qos≠(nt l n).msg.qos):=fun h=>
    h.elim (fun h=>c (.inl h)) fun h=>h.elim (fun h=>c (.inr (.inl h))) fun h=>h.elim (fun h=>c (.inr (.inr h))) r
   rw[kL M,y.filters];by_cases h3:(cN tak (cH l S fil nam d) (nt l n).msg.topic).2=false
   ·rw[kM h3,kM (.inl h3)];exact⟨rfl,fun h=>(by cases h)⟩
   rw[kL h3];have L:(((aE b.past (nt l n).msg.topic).getD []).any fun m=>decide ((nt l n).msg=cK m (cN tak (cH l S fil nam d) (nt l n).msg.topic).1 true))=(List.range' a (d+1-a)).any fun k=>uG (fY (S k).kept (nt l n).msg.topic) (nt l n).msg (cN tak (cH l S fil nam d) (nt l n).msg.topic).1:=by
    rw[mR,rP,rP];constructor
    ·rintro⟨m,N,h⟩;obtain⟨k,s,q,i⟩:=(y.past.past _ m).1 N;exact⟨k,List.mem_range'_1.2 ⟨s,by have:=y.le;omega⟩,by rw[i];exact h⟩
    ·rintro⟨k,C,h⟩;have C:=List.mem_range'_1.1 C
     cases z:fY (S k).kept (nt l n).msg.topic with
     |none=>rw[z]at h;cases h
     |some m=>
      rw[z]at h;exact⟨m,(y.past.past _ m).2 ⟨k,C.1,by omega,z⟩,h⟩
   rw[L];by_cases g:((List.range' a (d+1-a)).any fun k=>uG (fY (S k).kept (nt l n).msg.topic) (nt l n).msg (cN tak (cH l S fil nam d) (nt l n).msg.topic).1)=true
   ·have O:¬((cN tak (cH l S fil nam d) (nt l n).msg.topic).2=false∨(nt l n).qos≠(nt l n).msg.qos∨((List.range' a (d+1-a)).any fun k=>uG (fY (S k).kept (nt l n).msg.topic) (nt l n).msg (cN tak (cH l S fil nam d) (nt l n).msg.topic).1)=false):=fun h=>
     h.elim h3 fun h=>h.elim r fun h=>by rw[g]at h;cases h
    rw[kL O,g];refine⟨rfl,fun _=>⟨_,rfl,a,G.up,.inr ⟨v,d,⟨by rw[eZ (sE _),y.fst],y.le,?_,y.client,rfl,⟨y.past.past,y.past.still,y.past.nd⟩,fun t=>?_,fun t=>?_⟩⟩⟩⟩
    ·rw[jT (sC w) fun _=>D];exact y.opn
    ·show t∈lH b.got (nt l n).msg.topic↔_;rw[vO,y.got,told_iff,told_iff];constructor
     ·rintro(⟨j,s,q⟩|rfl)
      ·exact⟨j,by omega,q⟩
      ·exact⟨n,mQ _,K,rfl,.inl rfl⟩
     ·rintro⟨j,s,q,i,o⟩;rcases mJ j n with e|B
      ·exact .inl ⟨j,e,q,i,o⟩
      ·obtain rfl:j=n:=by omega
       exact .inr (o.elim Eq.symm fun h=>by cases h.1)
    ·show true=true∧t≤(nt l n).msg.topic↔_;rw[told_false];constructor
     ·rintro⟨_,h⟩;exact⟨n,mQ _,K,rfl,h⟩
     ·rintro⟨j,s,q,i,o⟩;refine⟨rfl,?_⟩;rcases mJ j n with e|B
      ·have:=(y.last t).2 (told_false.2 ⟨j,e,q,i,o⟩);have E:¬(nt l n).msg.topic≤b.last:=fun h=>f (.inr (.inr ⟨this.1,h⟩));exact List.le_trans this.2 (List.le_of_lt (List.not_le.1 E))
      ·obtain rfl:j=n:=by omega
       exact o
   ·rw[dY]at g;rw[kM (.inr (.inr g)),g];exact⟨rfl,fun h=>(by cases h)⟩
def aLg (x:SbOk l S fil nam n (nt l n).op (aE s.subs (nt l n).op))(p:(nt l n).kind=3)(G:(S (n+1)).kept=(S n).kept):
 (eW tak s (nt l n).op).1=aCm l S fil nam tak n∧((eW tak s (nt l n).op).2.seats=s.seats∧(eW tak s (nt l n).op).2.kept=s.kept∧(eW tak s (nt l n).op).2.pubs=s.pubs)∧(∀v,v≠(nt l n).op→aE (eW tak s (nt l n).op).2.subs v=aE s.subs v)∧
  SbOk l S fil nam (n+1) (nt l n).op (aE (eW tak s (nt l n).op).2.subs (nt l n).op):=by
 have r:gW l n (nt l n).op=false:=by
  cases h:gW l n (nt l n).op with
  |false=>rfl
  |true=>rcases its_iff.1 h with h|h<;>rw[p]at h<;>first|(cases h;done)|(cases h.1)
 unfold eW aCm
 cases e:aE s.subs (nt l n).op with
 |none=>
  rw[e]at x;rw[lL x fun b h=>by cases h];refine⟨rfl,⟨rfl,rfl,rfl⟩,fun _ _=>rfl,?_⟩;show SbOk l S fil nam (n+1) _ (aE s.subs _);rw[e];refine⟨fun j u e=>?_,uH x.2 fun _=>r⟩;rcases mJ j n with B|N
  ·exact x.1 j B e
  ·obtain rfl:j=n:=by omega
   rcases e.1 with h|h<;>rw[p]at h<;>cases h
 |some b=>
  rw[e]at x;have P:=x;have f:¬isD l 2 (nt l n).op 8 n:=fun q=>by have:=q.1;rw[p]at this;cases this
  obtain⟨a,i,⟨k,y⟩|⟨k,d,y⟩⟩:=x
  ·rw[lL P fun c h=>by rw[←pB h];exact k]
   dsimp only
   rw[kL (by rw[y.opn];decide)];refine⟨rfl,⟨rfl,rfl,rfl⟩,fun _ _=>rfl,?_⟩;show SbOk l S fil nam (n+1) _ (aE s.subs _);rw[e];refine⟨a,i.up,.inl ⟨k,by rw[iO (sE _) f];exact y.fst,y.opn,y.past.quiet (sC i.lt) G (by rw[p];decide),y.got,y.last,uH y.its fun _=>r⟩⟩
  ·have z:=(fst_some.1 y.fst).2.1;rw[aEb i y.fst y.le];simp only;have L:∀(c:Sb),c.client=b.client→c.filters=b.filters→c.past=b.past→c.still=b.still→c.got=b.got→c.some_=b.some_→c.last=b.last→c.open_=false→SbD l S fil nam (n+1) (nt l n).op c a d:=fun c c1 c2 c3 c4 c5 c6 M c8=>by
    refine⟨by rw[eZ (sE _),y.fst],y.le,?_,c1.trans y.client,c2.trans y.filters,⟨by rw[c3];exact y.past.past,by rw[c4];exact y.past.still,by rw[c4];exact y.past.nd⟩,fun t=>?_,fun t=>?_⟩
    ·rw[c8,eZ (sC z)]
     cases bK l d n 3 (nt l n).op 0 with
     |some x=>rfl
     |none=>rw[kM ⟨p,rfl,.inl rfl⟩];rfl
    ·rw[c5,nY fun _=>r];exact y.got t
    ·rw[c6,M,nY fun _=>r];exact y.last t
   by_cases o:b.open_=true
   ·have D:(bK l d n 3 (nt l n).op 0).isSome=false:=by
     have:=y.opn;rw[o]at this
     cases h:bK l d n 3 (nt l n).op 0 with
     |none=>rfl
     |some x=>rw[h]at this;cases this
    rw[kM o,D];simp only[pP,mD];refine⟨?_,⟨trivial,trivial,trivial⟩,fun v E=>by rw[aC,kL (mV E)],?_⟩
    ·rw[y.filters,mR,mB,mB];have K:∀t,((List.range' a (d-a)).all fun j=>!decide ((nt l j).kind=5∧(nt l j).msg.topic=t))=true↔∀j,a≤j→j<d→¬((nt l j).kind=5∧(nt l j).msg.topic=t):=fun t=>by
      rw[mB];constructor
      ·intro g j w J h;have:=g j (List.mem_range'_1.2 ⟨w,by omega⟩);rw[kN h]at this;cases this
      ·intro g j u;have u:=List.mem_range'_1.1 u;rw[kO (g j u.1 (by omega))];rfl
     have I:∀t,decide (t∈b.got)=fI l n (nt l n).op t true:=fun t=>by
      rw[mR,pW,y.got]
     constructor
     ·intro g m C
      cases G:(List.range' a (d-a)).all fun j=>!decide ((nt l j).kind=5∧(nt l j).msg.topic=m.topic)with
      |false=>simp
      |true=>
       have:=g m.topic ((y.past.still _).2 ⟨getK_some.2 ⟨m,C,rfl⟩,(K _).1 G⟩);rw[I]at this;rw[dB];exact this
     ·intro g t O;obtain⟨w,J⟩:=(y.past.still t).1 O;obtain⟨m,C,rfl⟩:=getK_some.1 w;have:=g m C;rw[(K _).2 J,dB]at this;rw[I];exact this
    ·rw[aC,kM rfl];exact⟨a,i.up,.inr ⟨k,d,L _ rfl rfl rfl rfl rfl rfl rfl rfl⟩⟩
   ·rw[dY]at o;have D:(bK l d n 3 (nt l n).op 0).isSome=true:=by
     have:=y.opn;rw[o]at this
     cases h:bK l d n 3 (nt l n).op 0 with
     |none=>rw[h]at this;cases this
     |some x=>rfl
    rw[kL (by rw[o];decide),kM D];refine⟨rfl,⟨rfl,rfl,rfl⟩,fun _ _=>rfl,?_⟩;show SbOk l S fil nam (n+1) _ (aE s.subs _);rw[e];exact⟨a,i.up,.inr ⟨k,d,L b rfl rfl rfl rfl rfl rfl rfl o⟩⟩
end
section
structure InvD (l:kC cD)(S:Nat→MD)(fil nam:Bs→Bool)(tak:Bs→Bs→Bool)(i:Nat)(s:St):Prop where
 rel:RelM s (S i)
 nds:∀j,j≤i→((S j).L.map (·.client)).Nodup
 pubs:∀op,PubOk l S tak i op (aE s.pubs op)
 subs:∀op,SbOk l S fil nam i op (aE s.subs op)
 ndP:(s.pubs.map (·.1)).Nodup
 uniq:Uniq l i
variable {l:kC cD}{S:Nat→MD}{fil nam:Bs→Bool}{tak:Bs→Bs→Bool}
def aIz {Y X:Type}[DecidableEq Y]:∀{l:kC (Y×X)} {k:Y} {x:X},aE l k=some x→(k,x)∈l
 |(y,z)::r,k,x,h=>by
  simp only[aE]at h;split at h
  ·rename_i e;obtain rfl:=pB h;rw[e];exact mO
  ·exact mL _ (aIz h)
def InvD.routed (v:InvD l S fil nam tak n p)(o:Int):(aE p.pubs o).isSome=(bK l 0 n 4 o 0).isSome:=by
 have:=v.pubs o
 cases h:aE p.pubs o with
 |none=>rw[h]at this;rw[show bK l 0 n 4 o 0=none from this];rfl
 |some b=>rw[h]at this;obtain⟨r,a,_⟩:=this;rw[a.fst];rfl
def wB (u:Uniq l n)(h:(nt l n).kind=4→bK l 0 n 4 (nt l n).op 0=none):Uniq l (n+1):=fun k c b=>by
 rcases mJ k n with a|g
 ·exact u k a b
 ·obtain rfl:k=n:=by omega
  exact h b
def InvD.nds' (v:InvD l S fil nam tak n p)(r:RelM s (S (n+1))):∀j,j≤n+1→((S j).L.map (·.client)).Nodup:=fun j h=>by
 rcases mJ j (n+1)with hlt|hge
 ·exact v.nds j (by omega)
 ·rw[show j=n+1 by omega];exact r.ndL
def rK (b:(nt l n).kind≠8)(a:(nt l n).kind≠7):gW l n I=false:=by
 cases h:gW l n I with
 |false=>rfl
 |true=>rcases its_iff.1 h with h|h;exact dC h b;exact dC h.1 a
def aUy (a:(nt l n).kind≠1)(b:(nt l n).kind≠2):¬aNf l I n:=fun h=>h.1.elim a b
def aKk (v:InvD l S fil nam tak n p)(hS:S (n+1)=S n)(k2:(nt l n).kind≠2)(P:(nt l n).kind≠5):
 (aT fil nam tak p n (nt l n)).1=okD l S fil nam tak n∧(okD l S fil nam tak n=true→InvD l S fil nam tak (n+1) (aT fil nam tak p n (nt l n)).2):=by
 have z:∀c t,(bD tak (S (n+1)) c t).2=(bD tak (S n) c t).2:=fun c t=>by rw[hS]
 have M:(S (n+1)).kept=(S n).kept:=by rw[hS]
 have f:RelM p (S (n+1)):=hS▸v.rel;have i:=v.nds' f;unfold aT okD;by_cases w:(nt l n).kind=1
 ·rw[kM w];have e4:¬(nt l n).kind=4:=by rw[w];decide
  have e6:¬((nt l n).kind=6∨(nt l n).kind=7∧(bK l 0 n 4 (nt l n).op 0).isSome=true):=by rw[w];simp
  have e8:¬((nt l n).kind=8∨(nt l n).kind=7):=by rw[w];decide
  have e3:¬(nt l n).kind=3:=by rw[w];decide
  rw[kL e4,kL e6,kL e8,kL e3];refine⟨rfl,fun _=>?_⟩;have O:∀o,gW l n o=false:=fun o=>rK (by rw[w];decide) (by rw[w];decide);have pubs:∀o,PubOk l S tak (n+1) o (aE p.pubs o):=fun o=>(v.pubs o).quiet (fun _=>by rw[w];exact⟨by decide,by decide,by decide,by decide⟩) z;have uq:=wB v.uniq fun h=>dC h e4;by_cases hc:(nt l n).ptype=8∧(aE p.subs (nt l n).op).isSome=false
  ·show InvD l S fil nam tak (n+1) (if _ then _ else _)
   rw[kM hc];have Q:aE p.subs (nt l n).op=none:=by
    have:=hc.2
    cases h:aE p.subs (nt l n).op with
    |none=>rfl
    |some b=>rw[h]at this;cases this
   refine⟨f.congr rfl rfl,i,pubs,fun o=>?_,v.ndP,uq⟩;show SbOk l S fil nam (n+1) o (aE (aM p.subs (nt l n).op (cJ p)) o);rw[aC];by_cases d:(nt l n).op=o
   ·rw[kM d];subst d;have x:=v.subs (nt l n).op;rw[Q]at x;obtain⟨b1,b2,b3,b4,b5⟩:=aBd v.rel;refine⟨n,⟨mQ _,⟨.inl w,hc.1,rfl⟩,x.1⟩,.inl ⟨b2,?_,b3,b1.quiet (kQ _) M P,b4,b5,uH x.2 fun _=>O _⟩⟩;rw[iO (sE _) fun q=>k2 q.1];exact fst_none.2 fun j _ hj q=>x.1 j hj ⟨.inr q.1,q.2.2.elim (fun e=>by cases e) id,q.2.1⟩
   ·rw[kL d];exact(v.subs o).quiet M P fun e=>dC e d
  ·show InvD l S fil nam tak (n+1) (if _ then _ else _)
   rw[kL hc];refine⟨f,i,pubs,fun o=>(v.subs o).quiet M P fun e=>⟨e3,O o,fun f3=>?_⟩,v.ndP,uq⟩
   cases h:aE p.subs o with
   |some b=>exact⟨b,rfl,.inl w⟩
   |none=>exact dC ⟨f3.2.1,by rw[e,h];rfl⟩ hc
 rw[kL w,kL k2,kL P];have D:∀o,¬aNf l o n:=fun o=>aUy w k2;by_cases m:(nt l n).kind=4
 ·rw[kM m,kM m];unfold iA;rw[v.routed];by_cases W:(nt l n).op<1∨(bK l 0 n 4 (nt l n).op 0).isSome=true
  ·rw[kM W];have:(decide (1≤(nt l n).op)&&(bK l 0 n 4 (nt l n).op 0).isNone)=false:=by
    rcases W with h|h
    ·rw[kO (by omega)];rfl
    ·cases hf:bK l 0 n 4 (nt l n).op 0 with
     |none=>rw[hf]at h;cases h
     |some x=>simp
   rw[this];exact⟨rfl,fun h=>(by cases h)⟩
  ·rw[kL W];have Q:bK l 0 n 4 (nt l n).op 0=none:=by
    cases hf:bK l 0 n 4 (nt l n).op 0 with
    |none=>rfl
    |some x=>exact dC (.inr (by rw[hf];rfl)) W
   have:(decide (1≤(nt l n).op)&&(bK l 0 n 4 (nt l n).op 0).isNone)=true:=by
    rw[Q,kN (by have:=fun h=>W (.inl h);omega)];rfl
   rw[this];refine⟨rfl,fun _=>⟨f.congr rfl rfl,i,fun o=>?_,fun o=>(v.subs o).quiet M P fun e=>⟨by rw[m];decide,rK (by rw[m];decide) (by rw[m];decide),fun h=>dC h (D o)⟩,fE v.ndP _ _,wB v.uniq fun _=>Q⟩⟩;show PubOk l S tak (n+1) o (aE (aM p.pubs (nt l n).op _) o);rw[aC];by_cases d:(nt l n).op=o
   case neg=>rw[kL d];exact(v.pubs o).quiet (fun e=>dC e d) z
   rw[kM d];subst d;have i3:∀(L:kC (Bs×Bs)) (K:kC Bs) (c:Bs),c∈L.foldl (fun h x=>if(cB tak p x.2 (nt l n).msg.topic).2 then lH h x.2 else h) K↔c∈K∨∃x∈L,x.2=c∧(cB tak p c (nt l n).msg.topic).2=true:=by
    intro L
    induction L with
    |nil=>intro K c;simp
    |cons x L ih=>
     intro K c;rw[dN,ih];by_cases N:(cB tak p x.2 (nt l n).msg.topic).2=true
     ·rw[kM N,vO];constructor
      ·rintro((h|rfl)|⟨y,u,G⟩)
       ·exact .inl h
       ·exact .inr ⟨x,mO,rfl,N⟩
       ·exact .inr ⟨y,mL _ u,G⟩
      ·rintro(h|⟨y,u,G,I⟩)
       ·exact .inl (.inl h)
       ·rcases sI.1 u with rfl|u
        ·exact .inl (.inr G.symm)
        ·exact .inr ⟨y,u,G,I⟩
     ·rw[kL N];constructor
      ·rintro(h|⟨y,u,G⟩)
       ·exact .inl h
       ·exact .inr ⟨y,mL _ u,G⟩
      ·rintro(h|⟨y,u,G,I⟩)
       ·exact .inl h
       ·rcases sI.1 u with rfl|u
        ·rw[G]at N;exact dC I N
        ·exact .inr ⟨y,u,G,I⟩
   have j3:∀(L:kC (Bs×Bs)) (K:kC Bs),K.Nodup→(L.foldl (fun h x=>if(cB tak p x.2 (nt l n).msg.topic).2 then lH h x.2 else h) K).Nodup:=by
    intro L
    induction L with
    |nil=>exact fun K h=>h
    |cons x L ih=>
     intro K h;rw[dN];refine ih _ ?_;split
     ·unfold lH;split
      ·exact h
      ·rename_i a3;rw[List.nodup_append];exact⟨h,by simp,fun a ha b z=>by rw[mC.1 z];exact fun e=>a3 (e▸ha)⟩
     ·exact h
   have f0:∀k,k≠4→bK l n (n+1) k (nt l n).op 0=none:=fun k g3=>fst_none.2 fun j W h2 q=>by
    rw[show j=n by omega,isD,m]at q;exact g3 q.1.symm
   refine⟨n,⟨?_,rfl,rfl,rfl,?_,fun c=>?_⟩,⟨j3 _ _ .nil,fun c=>?_⟩⟩
   ·rw[eZ (sE _),Q];exact kM ⟨m,rfl,.inl rfl⟩
   ·rw[f0 3 (by decide)];rfl
   ·rw[jW];refine⟨fun h=>(by cases h),fun⟨j,u,G,I,_⟩=>?_⟩;rw[show j=n by omega,m]at I;rcases I with h|h<;>cases h
   ·show c∈(lQ p).foldl (fun h x=>if(cB tak p x.2 (nt l n).msg.topic).2 then lH h x.2 else h) []↔_
    rw[i3];constructor
    ·rintro(h|⟨x,u,G,I⟩) j W h2
     ·cases h
     ·rw[v.rel.best]at I;rcases mJ j (n+1)with hlt|hge
      ·rw[show j=n by omega];exact I
      ·rw[show j=n+1 by omega,hS];exact I
    ·intro h;have h:=h n (kQ _) (sF _);rw[←v.rel.best]at h;refine .inr ?_;have V:=h;unfold cB at V
     cases N:aE p.seats c with
     |none=>rw[N]at V;cases V
     |some x=>
      rw[N]at V
      cases C:x.row with
      |nil=>dsimp only at V;rw[C]at V;cases V
      |cons y r=>
       refine⟨(y.1,c),?_,rfl,h⟩;unfold lQ;rw[List.mem_mergeSort,List.mem_flatMap];exact⟨(c,x),aIz N,mW.2 ⟨y,by rw[C];exact mO,rfl⟩⟩
 rw[kL m,kL m];have uq:=wB v.uniq fun h=>dC h m;have E:(nt l n).kind=6∨(nt l n).kind=7→(nt l n).kind≠8→gW l n (nt l n).op=false→(gV tak p (nt l n)).1=aBy l S tak n∧(aBy l S tak n=true→InvD l S fil nam tak (n+1) (gV tak p (nt l n)).2):=fun Z h8 B=>by
  obtain⟨e1,e2⟩:=aPc v.rel v.uniq v.pubs v.ndP Z z;refine⟨e1,fun h=>?_⟩;obtain⟨p',e3,e4⟩:=e2 h;rw[e3];refine⟨f.congr rfl rfl,i,fun o=>?_,fun o=>(v.subs o).quiet M P fun e=>⟨fun h3=>(by rw[h3]at Z;rcases Z with h|h<;>cases h),by rw[←e];exact B,fun h=>dC h (D o)⟩,fE v.ndP _ _,uq⟩
  show PubOk l S tak (n+1) o (aE (aM p.pubs (nt l n).op p') o);rw[aC];by_cases d:(nt l n).op=o
  ·rw[kM d];subst d;exact e4
  ·rw[kL d];exact(v.pubs o).quiet (fun e=>dC e d) z
 have s:gW l n (nt l n).op=true→(nt l n).kind≠3→(nt l n).kind≠6→((nt l n).kind=7→bK l 0 n 4 (nt l n).op 0=none)→(eQ tak p (nt l n)).1=uD l S fil nam tak n∧(uD l S fil nam tak n=true→InvD l S fil nam tak (n+1) (eQ tak p (nt l n)).2):=fun B h3 h6 h7=>by
  obtain⟨e1,e2⟩:=aKm (tak:=tak) (v.subs (nt l n).op) B h3;refine⟨e1,fun h=>?_⟩;obtain⟨b',e3,e4⟩:=e2 h;rw[e3];refine⟨f.congr rfl rfl,i,fun o=>?_,fun o=>?_,v.ndP,uq⟩
  ·-- a Drops of no publishing
   show PubOk l S tak (n+1) o (aE p.pubs o);by_cases d:(nt l n).op=o
   ·subst d;by_cases Y:(nt l n).kind=7
    ·have:=v.routed (nt l n).op;rw[h7 Y]at this
     cases hp:aE p.pubs (nt l n).op with
     |some l3=>rw[hp]at this;cases this
     |none=>exact(iO (sE _) fun q=>m q.1).trans (h7 Y)
    ·exact(v.pubs _).quiet (fun _=>⟨h3,m,h6,Y⟩) z
   ·exact(v.pubs o).quiet (fun e=>dC e d) z
  ·show SbOk l S fil nam (n+1) o (aE (aM p.subs (nt l n).op b') o);rw[aC];by_cases d:(nt l n).op=o
   ·rw[kM d];subst d;exact e4
   ·rw[kL d];exact(v.subs o).quiet M P fun e=>dC e d
 by_cases J:(nt l n).kind=6
 ·rw[kM J,kM (.inl J)];exact E (.inl J) (by rw[J];decide) (rK (by rw[J];decide) (by rw[J];decide))
 rw[kL J];by_cases g:(nt l n).kind=7
 ·rw[kM g,v.routed];by_cases C:(bK l 0 n 4 (nt l n).op 0).isSome=true
  ·rw[kM C,kM (.inr ⟨g,C⟩)];refine E (.inr g) (by rw[g];decide) ?_
   cases h:gW l n (nt l n).op with
   |false=>rfl
   |true=>
    rcases its_iff.1 h with h|h
    ·rw[g]at h;cases h
    ·rw[h.2]at C;cases C
  ·have Q:bK l 0 n 4 (nt l n).op 0=none:=by
    cases hf:bK l 0 n 4 (nt l n).op 0 with
    |none=>rfl
    |some x=>rw[hf]at C;exact dC rfl C
   have X:¬((nt l n).kind=6∨(nt l n).kind=7∧(bK l 0 n 4 (nt l n).op 0).isSome=true):=fun h=>h.elim J fun h=>C h.2;rw[kL C,kL X,kM (.inr g)];exact s (its_iff.2 (.inr ⟨g,Q⟩)) (by rw[g];decide) (by rw[g];decide) fun _=>Q
 have X:¬((nt l n).kind=6∨(nt l n).kind=7∧(bK l 0 n 4 (nt l n).op 0).isSome=true):=fun h=>h.elim J fun h=>g h.1;rw[kL g,kL X];by_cases U:(nt l n).kind=8
 ·rw[kM U,kM (.inl U)];exact s (its_iff.2 (.inl U)) (by rw[U];decide) (by rw[U];decide) fun h=>dC h g
 have d3:¬((nt l n).kind=8∨(nt l n).kind=7):=fun h=>h.elim U g;rw[kL U,kL d3];have O:∀o,gW l n o=false:=fun o=>rK U g;by_cases R:(nt l n).kind=3
 ·rw[kM R,kM R];obtain⟨t1,⟨t2,t3,t4⟩,t5,t6,t7⟩:=aOq v.rel v.nds v.pubs R z;have x:SbOk l S fil nam n (nt l n).op (aE (eA p (nt l n).op).2.subs (nt l n).op):=by rw[t4];exact v.subs _
  obtain⟨u1,⟨u2,u3,u4⟩,u5,u6⟩:=aLg (tak:=tak) (s:=(eA p (nt l n).op).2) x R M
  dsimp only
  cases ht:(eA p (nt l n).op).1 with
  |false=>
   rw[←t1,ht];exact⟨by simp[ht],fun h=>by cases h⟩
  |true=>
   rw[←t1,ht];simp only[mE,mF];refine⟨u1,fun _=>⟨f.congr (u2.trans t2) (u3.trans t3),i,fun o=>?_,fun o=>?_,?_,uq⟩⟩
   ·rw[u4];by_cases d:o=(nt l n).op
    ·subst d;exact t7
    ·rw[t5 o d];exact(v.pubs o).quiet (fun e=>dC e.symm d) z
   ·by_cases d:o=(nt l n).op
    ·subst d;exact u6
    ·rw[u5 o d,t4];exact(v.subs o).quiet M P fun e=>dC e.symm d
   ·rw[u4];exact t6.resolve_right fun h=>h v.ndP
 rw[kL R,kL R];exact⟨rfl,fun _=>⟨f,i,fun o=>(v.pubs o).quiet (fun _=>⟨R,m,J,g⟩) z,fun o=>(v.subs o).quiet M P fun e=>⟨R,O o,fun h=>dC h (D o)⟩,v.ndP,uq⟩⟩
end
section
variable {l:kC cD}{S:Nat→MD}{fil nam:Bs→Bool}{tak:Bs→Bs→Bool}
def aZm (k:(nt l n).kind=2∨(nt l n).kind=5):okD l S fil nam tak n=true:=by
 unfold okD;have a:¬(nt l n).kind=4:=by rcases k with k|k<;>rw[k]<;>decide
 have b:¬((nt l n).kind=6∨(nt l n).kind=7∧(bK l 0 n 4 (nt l n).op 0).isSome=true):=by rcases k with k|k<;>rw[k]<;>simp
 have c:¬((nt l n).kind=8∨(nt l n).kind=7):=by rcases k with k|k<;>rw[k]<;>decide
 have e:¬(nt l n).kind=3:=by rcases k with k|k<;>rw[k]<;>decide
 rw[kL a,kL b,kL c,kL e]
def aEa {n:cD}{m a:MD}(x:cKa n m a)(h:B≠n.client∨n.kind≠2)(t:Bs):bD tak a B t=bD tak m B t:=by
 unfold bD;rw[x.other B h]
def nV (fil:Bs→Bool):∀(z:kC ((Bs×Nat)×Nat)) (r:Row),SrR r→r.length≤16→z.foldl (fun r x=>if x.2<128 then(iZ fil r x.1.1 x.1.2).2 else r) r=z.foldl (fun r x=>if x.2<128 then(lX fil r x.1.1 x.1.2).2 else r) r
 |[],_,_,_=>rfl
 |x::z,r,s,h=>by
  rw[dN,dN];by_cases a:x.2<128
  ·obtain⟨e,b,c⟩:=aVc fil s h x.1.1 x.1.2;rw[kM a,kM a,←e];exact nV fil z _ c b
  ·rw[kL a,kL a];exact nV fil z r s h
def aOt (v:InvD l S fil nam tak n p)(w:(nt l n).kind=2)(Q:cY fil nam (S n) (nt l n)=some (g,S (n+1))):
 (nG fil nam tak p (nt l n)).1=true∧InvD l S fil nam tak (n+1) (nG fil nam tak p (nt l n)).2:=by
 obtain⟨D,e1,f,e2,e3,same⟩:=(wL fil nam v.rel (nt l n)).2 g _ Q;have Z:(nt l n).kind≠5:=by rw[w];decide
 have K:=same.kept Z;have C:=v.nds' f;have uq:=wB v.uniq fun h=>by rw[w]at h;cases h
 have L:∀o,gW l n o=false:=fun o=>rK (by rw[w];decide) (by rw[w];decide);obtain⟨P,hP⟩:=eX (D.pubs.map (fun x=>(x.1,fJ tak D (nt l n).client x.2)));have B:(P.map (·.1)).Nodup:=by
  rw[hP,List.map_map];have:((fun x=>x.1)∘fun x:Int×Pub=>(x.1,fJ tak D (nt l n).client x.2))=fun x=>x.1:=rfl;rw[this,e2];exact v.ndP
 have pubs:∀o,PubOk l S tak (n+1) o (aE P o):=fun o=>by
  rw[hP,eE (fun x:Int×Pub=>fJ tak D (nt l n).client x.2),e2];have x:=v.pubs o
  cases hp:aE p.pubs o with
  |none=>
   rw[hp]at x;exact(iO (sE _) fun q=>by have:=q.1;rw[w]at this;cases this).trans x
  |some b3=>
   rw[hp]at x;obtain⟨r,a,J⟩:=x;have hr:=sC a.lt.1;have G:=a.quiet (fun _=>by rw[w];exact⟨by decide,by decide,by decide⟩);show PubOk l S tak (n+1) o (some (fJ tak D (nt l n).client b3));have R:(cB tak D (nt l n).client b3.msg.topic).2=(bD tak (S (n+1)) (nt l n).client (nt l r).msg.topic).2:=by rw[f.best,a.msg]
   refine⟨r,?_,J.does hr (c0:=(nt l n).client) (fun c hc=>by rw[aEa same (.inl hc)]) ?_⟩
   ·unfold fJ;split
    ·exact G
    ·exact⟨G.fst,G.client,G.msg,G.place,G.opn,G.serve⟩
   ·unfold fJ;rw[R];split<;>rfl
 unfold nG;rw[e1]
 dsimp only
 rw[←hP];by_cases I:(nt l n).ptype≠8
 ·rw[kM I];refine⟨rfl,f.congr rfl rfl,C,pubs,fun o=>?_,B,uq⟩;show SbOk l S fil nam (n+1) o (aE D.subs o);rw[e3];exact(v.subs o).quiet K Z fun _=>⟨by rw[w];decide,L o,fun h=>dC h.2.1 I⟩
 rw[kL I];have I:(nt l n).ptype=8:=Classical.not_not.1 I;have z:∀o,o≠(nt l n).op→SbOk l S fil nam (n+1) o (aE p.subs o):=fun o s=>(v.subs o).quiet K Z fun e=>dC e.symm s;have x:=v.subs (nt l n).op;have fl:((nt l n).subs.zip g).foldl (fun r x=>if x.2<128 then(iZ fil r x.1.1 x.1.2).2 else r) []=cH l S fil nam n:=by
  rw[nV fil _ [] .nil (sE _)];unfold cH;rw[Q]
 have a3:bK l n (n+1) 3 (nt l n).op 0=none:=fst_none.2 fun j h1 h2 q=>by
  have:=q.1;rw[show j=n by omega,w]at this;cases this
 have done:∀(b:Sb) (a:Nat),a≤n→aNf l (nt l n).op a→(∀j,j<a→¬aNf l (nt l n).op j)→b.done=false→bK l 0 n 2 (nt l n).op 8=none→Past l S a n b→b.got=[]→b.some_=false→(∀j,j<n→(nt l j).op=(nt l n).op→gW l j (nt l n).op=false)→
  SbOk l S fil nam (n+1) (nt l n).op (some {b with done:=true,open_:=true,client:=(nt l n).client,filters:=((nt l n).subs.zip g).foldl (fun r x=>if x.2<128 then(iZ fil r x.1.1 x.1.2).2 else r) []}):=fun b a ha U V _ hn past got N W=>by
  have i:∀t x,fI l (n+1) (nt l n).op t x=false:=fun t x=>by
   cases h:fI l (n+1) (nt l n).op t x with
   |false=>rfl
   |true=>
    obtain⟨j,Y,O,M,_⟩:=told_iff.1 h;rw[uH W (fun _=>L _) j Y M]at O;cases O
  refine⟨a,⟨Nat.lt_succ_of_le ha,U,V⟩,.inr ⟨rfl,n,⟨?_,ha,by rw[a3];rfl,rfl,fl,⟨past.past,past.still,past.nd⟩,fun t=>?_,fun t=>?_⟩⟩⟩
  ·rw[eZ (sE _),hn];exact kM ⟨w,rfl,.inr I⟩
  ·rw[i];show t∈b.got↔_;rw[got];simp
  ·rw[i];show b.some_=true∧_↔_;rw[N];simp
 rw[e3]
 cases R:aE p.subs (nt l n).op with
 |none=>
  rw[R]at x;simp only[tH,dX,pP,mD];obtain⟨S3,u⟩:∃S3:St,S3={seats:=D.seats,kept:=D.kept,pubs:=P,subs:=p.subs}:=⟨_,rfl⟩;have E:RelM S3 (S (n+1)):=f.congr (by rw[u]) (by rw[u]);have past:Past l S n n (cJ S3)∧(cJ S3).done=false∧(cJ S3).open_=false∧(cJ S3).got=[]∧(cJ S3).some_=false:=by
   obtain⟨X,p2⟩:=aBd (l:=l) E;refine⟨⟨fun t m=>(X.past t m).trans ⟨fun⟨k,Y,O,M⟩=>⟨n,kQ _,kQ _,by rw[show k=n+1 by omega,K]at M;exact M⟩,fun⟨k,Y,O,M⟩=>⟨n+1,kQ _,kQ _,by rw[K];rw[show k=n by omega]at M;exact M⟩⟩,fun t=>(X.still t).trans ⟨fun q=>⟨by rw[←K];exact q.1,fun j Y O=>by omega⟩,fun q=>⟨by rw[K];exact q.1,fun j Y O=>by omega⟩⟩,X.nd⟩,p2⟩
  obtain⟨X,p2,p3,p4,p5⟩:=past;rw[←u];rw[kL (by rw[p2];decide)];refine⟨rfl,E.congr (by rw[u]) (by rw[u]),C,?_,fun o=>?_,?_,uq⟩
  ·exact pubs
  ·show SbOk l S fil nam (n+1) o (aE (aM (aM p.subs (nt l n).op (cJ S3)) (nt l n).op _) o);rw[aC,aC];by_cases s:(nt l n).op=o
   ·rw[kM s];subst s;exact done _ n (kQ _) ⟨.inr w,I,rfl⟩ x.1 p2 (fst_none.2 fun j _ hj q=>x.1 j hj ⟨.inr q.1,q.2.2.elim (fun e=>by cases e) id,q.2.1⟩) X p4 p5 x.2
   ·rw[kL s,kL s];exact z o (mV s)
  ·exact B
 |some b=>
  rw[R]at x;simp only[pQ,dW,mE];obtain⟨a,bg,⟨J,y⟩|⟨J,d,y⟩⟩:=x
  ·rw[kL (by rw[J];decide)];refine⟨rfl,f.congr rfl rfl,C,pubs,fun o=>?_,B,uq⟩;show SbOk l S fil nam (n+1) o (aE (aM p.subs (nt l n).op _) o);rw[aC];by_cases s:(nt l n).op=o
   ·rw[kM s];subst s;exact done b a (sC bg.lt) bg.is_ bg.fst J y.fst y.past y.got y.last y.its
   ·rw[kL s];exact z o (mV s)
  ·rw[kM J];refine⟨rfl,f.congr rfl rfl,C,pubs,fun o=>?_,B,uq⟩;show SbOk l S fil nam (n+1) o (aE p.subs o);exact(v.subs o).quiet K Z fun e=>⟨by rw[w];decide,L o,fun _=>⟨b,by rw[←e];exact R,.inr J⟩⟩
def aKl (v:InvD l S fil nam tak n p)(d:(nt l n).kind=5)(a:cY fil nam (S n) (nt l n)=some (o,S (n+1))):
 (jH fil nam p (nt l n)).1=true∧InvD l S fil nam tak (n+1) (jH fil nam p (nt l n)).2:=by
 obtain⟨s,f,r,e,g,same⟩:=(wL fil nam v.rel (nt l n)).2 o _ a;have i:(nt l n).kind≠2:=by rw[d];decide
 have k:(S (n+1)).kept=xY (S n).kept (nt l n).msg:=by
  unfold cY at a;rw[kM d]at a;split at a
  ·simp only[kP,kW]at a;rw[←a.2]
  ·cases a
 unfold jH;rw[f];refine⟨rfl,r.congr rfl rfl,v.nds' r,fun b=>?_,fun b=>?_,?_,wB v.uniq fun h=>by rw[d]at h;cases h⟩
 ·show PubOk l S tak (n+1) b (aE s.pubs b);rw[e];exact(v.pubs b).quiet (fun _=>by rw[d];exact⟨by decide,by decide,by decide,by decide⟩) fun c t=>by rw[aEa same (.inr i)]
 ·show SbOk l S fil nam (n+1) b (aE (s.subs.map fun x=>(x.1,cU {(nt l n).msg with retain:=true} x.2)) b);rw[eE (fun x:Int×Sb=>cU {(nt l n).msg with retain:=true} x.2),g];exact(v.subs b).more d k
 ·show(s.pubs.map (·.1)).Nodup;rw[e];exact v.ndP
def aOu (v:InvD l S fil nam tak n p)(s:tK l S fil nam n=some (S (n+1))):
 (aT fil nam tak p n (nt l n)).1=okD l S fil nam tak n∧(okD l S fil nam tak n=true→InvD l S fil nam tak (n+1) (aT fil nam tak p n (nt l n)).2):=by
 unfold tK at s;by_cases k:(nt l n).kind=2∨(nt l n).kind=5
 ·rw[kM k]at s;obtain⟨⟨c,m⟩,a,g⟩:=sZ.1 s;have g:m=S (n+1):=g;subst g;rw[aZm k];by_cases b:(nt l n).kind=2
  ·have i:¬(nt l n).kind=1:=by rw[b];decide
   have e:aT fil nam tak p n (nt l n)=nG fil nam tak p (nt l n):=by unfold aT;rw[kL i,kM b]
   rw[e];obtain⟨d,f⟩:=aOt v b a;exact⟨d,fun _=>f⟩
  ·have j:=k.resolve_left b;have i:¬(nt l n).kind=1:=by rw[j];decide
   have e:aT fil nam tak p n (nt l n)=jH fil nam p (nt l n):=by unfold aT;rw[kL i,kL b,kM j]
   rw[e];obtain⟨d,f⟩:=aKl v j a;exact⟨d,fun _=>f⟩
 ·rw[kL k]at s;exact aKk v (pB s).symm (fun h=>k (.inl h)) fun h=>k (.inr h)
def aOs (v:InvD l S fil nam tak n p)(h:tK l S fil nam n=none):(aT fil nam tak p n (nt l n)).1=false:=by
 unfold tK at h;by_cases d:(nt l n).kind=2∨(nt l n).kind=5
 ·rw[kM d]at h;have b:cY fil nam (S n) (nt l n)=none:=by simpa using h
  have a:=(wL fil nam v.rel (nt l n)).1 b;rcases x:bT fil nam p (nt l n)with⟨c,s2⟩;rw[x]at a;have a:c=none:=a;subst a;by_cases k:(nt l n).kind=2
  ·have e:¬(nt l n).kind=1:=by rw[k];decide
   unfold aT;rw[kL e,kM k];unfold nG;rw[x]
  ·have f:=d.resolve_left k;have e:¬(nt l n).kind=1:=by rw[f];decide
   unfold aT;rw[kL e,kL k,kM f];unfold jH;rw[x]
 ·rw[kL d]at h;cases h
def aUh (h:S 0={}):InvD l S fil nam tak 0 {} where
 rel:=by rw[h];exact⟨fun _=>rfl,fun _=>rfl,.nil,fun x b=>(by cases b),.nil,.nil⟩
 nds j a:=by rw[show j=0 by omega,h];exact .nil
 pubs op:=fst_none.2 fun j _ a=>dC a (Nat.not_lt_zero _)
 subs op:=⟨fun j a=>dC a (Nat.not_lt_zero _),fun j a=>dC a (Nat.not_lt_zero _)⟩
 ndP:=.nil
 uniq k hk:=dC hk (Nat.not_lt_zero _)
def aJp (e:Nat)(r:aRc l S fil nam e):∀(d i:Nat) (s:St),i+d=e→InvD l S fil nam tak i s→check (aT fil nam tak) s i (l.drop i)=aNe l S fil nam tak e i d
 |0,i,s,h,v=>by
  obtain rfl:i=e:=by omega
  simp only[aNe];rcases mJ i l.length with a|j
  ·have f:=aOs v (r.stop a);have g:l.drop i=nt l i::l.drop (i+1):=by
    rw[List.drop_eq_getElem_cons a];unfold nt;rw[List.getD_eq_getElem?_getD,kZ a];rfl
   rw[g];simp only[check];rcases x:aT fil nam tak s i (nt l i)with⟨b,s'⟩;rw[x]at f;have f:b=false:=f;subst f;rw[kO (by omega)]
  ·have:i=l.length:=Nat.le_antisymm r.le j;rw[this,List.drop_length,kN rfl];rfl
 |d+1,i,s,h,v=>by
  have m:i<e:=by omega
  have a:i<l.length:=kT m r.le;obtain⟨c,k⟩:=aOu v (r.step i m);have g:l.drop i=nt l i::l.drop (i+1):=by
   rw[List.drop_eq_getElem_cons a];unfold nt;rw[List.getD_eq_getElem?_getD,kZ a];rfl
  rw[g];simp only[check,aNe];rcases x:aT fil nam tak s i (nt l i)with⟨b,s'⟩;rw[x]at c k;have c:b=okD l S fil nam tak i:=c;subst c
  cases o:okD l S fil nam tak i with
  |true=>
   simp only[mE];exact aJp e r d (i+1) s' (by omega) (k o)
  |false=>simp
def aUq (e:Nat)(r:aRc l S fil nam e):check (aT fil nam tak) {} 0 l=bTy l S fil nam tak e:=by
 have:=aJp (tak:=tak) e r e 0 {} (sR _) (aUh r.zero)
 rwa [mI]at this
end
end Ra
