import Derived.Test.YtpanfoafajepcaaGreatDoorGy
import Derived.Test.YtpanfoafajepcaaGreatDoorGz
set_option maxRecDepth 100000
namespace Go.Proofs.YtpanfoafajepcaaGreatDoor.Ra
open Tryz (prog)
open Go Go.AM RaA RaI RaW RaX RaY
open _root_.Ra
def mL (l:List Bs):List Bs:=l.mergeSort fun a b=>decide (a≤b)
def KeysOk {α:Type}(K:Nat)(l:List (Bs×α)):Prop:=l.length≤K∧∀x∈l,x.1.length≤maxLen
theorem KeysOk.up {α:Type}{K K':Nat}{l:List (Bs×α)}(k:KeysOk K l)(h:K≤K'):KeysOk K' l:=⟨kG k.1 h,k.2⟩
structure K3 (D:CF)(T0:H)(fil nam:Bs→Bool)(tak:Bs→Bs→Bool):Prop where
 k2:K2 D T0 fil nam tak
 so:∀h m (l:List (Bs×Value)) box,h.get box=some (.cells [aP m] (some 0))→box<h.next→m<h.next→MapR h m bO l→l.length≤2^40→(∀x∈l,x.1.length≤maxLen)→∃h' v,D 65 [.func (.func 85) ⟨[]⟩ ⟨[aB box]⟩] h=some (v,h')∧SliceE 1 h' v ((mL (l.map (·.1))).map fun k=>[str k])∧Ext h h'∧∀i,sid v=some i→h.next≤i
 nr:∀id vs h,D Y0 (.int .i64 (.ofNat id)::vs) h=none
noncomputable abbrev xT (x6 x4:Value)(bx:Nat)(st:LSt):Blk:=.loop 13 (fs [(6,x6),(4,x4),(2,aB bx)]) [7] RaY.cadK RaY.cadE st
section
variable {D:CF}{T0:H}{fil nam:Bs→Bool}{tak:Bs→Bs→Bool}(k3:K3 D T0 fil nam tak)
include k3
theorem Y63 {h:H}{id bx:Nat}{x6 x4 v:Value}{es:List (List Value)}(hl:h.get id=some (xT x6 x4 bx .ready))(hb:h.get bx=some (.cells [v] (some 0)))(vv:Vec 4 h v es)(hne:id≠bx)(hv1:sid v≠some id)(hv2:sid v≠some bx)(hi:id<h.next)(hbx:bx<h.next)(hes:es.length≤2^41)(m:Msg):
 ∃v' h',CI D Y0 [.int .i64 (.ofNat id),.agg ⟨aR m⟩] h=some (.bool true,h')∧h'.get id=some (xT x6 x4 bx .ready)∧h'.get bx=some (.cells [v'] (some 0))∧Vec 4 h' v' (es++[aR m])∧ExtBut (fun i=>i=id∨i=bx∨sid v=some i) h h'∧(∀i,sid v'=some i→h.next≤i):=by
 have hf:prog.funcs[Y0]?=none:=by kernel_rfl
 have hc:(Nat.beq ([7]:List Tmp).length [Value.agg ⟨aR m⟩].length&&([7]:List Tmp).all (fun t=>Nat.blt t 13)&&cK RaY.cadK&&cK RaY.cadE)=true:=by kernel_rfl
 have hlive:AM.live [] RaY.cadE [] []=[5,2]:=by kernel_rfl
 have hps:sJ (fs [(6,x6),(4,x4),(2,aB bx)]) [7] [.agg ⟨aR m⟩]=fs [(6,x6),(4,x4),(2,aB bx),(7,.agg ⟨aR m⟩)]:=rfl;obtain⟨h1,hh1⟩:∃h1,h1=h.push (.cells RaY.Z31L (some 0)):=⟨_,rfl⟩;have eb:A.box 4 RaY.Z31 h=some (aB h.next,h1):=by rw[hh1];rfl
 have g1:h1.get h.next=some (.cells RaY.Z31L (some 0)):=by rw[hh1,H.get_push,kB rfl]
 obtain⟨h2,hh2⟩:∃h2,h2=h1.put h.next (.cells (aR m) (some 0)):=⟨_,rfl⟩;have e2:A.store 4 (aB h.next) (.agg ⟨aR m⟩) h1=some h2:=by rw[qU,g1,hh2];rfl
 have x2:Ext h h2:=by rw[hh2,hh1];exact Ext.put (Ext.push h _) _ _ (kF _)
 have n2:h2.next=h.next+1:=by rw[hh2,hh1];rfl
 have hl2:h2.get id=some (xT x6 x4 bx .ready):=by rw[x2.get _ hi];exact hl
 obtain⟨h3,hh3⟩:∃h3,h3=h2.put id (xT x6 x4 bx .busy):=⟨_,rfl⟩;have n3:h3.next=h.next+1:=by rw[hh3];exact n2
 have o3:∀j,j≠id→h3.get j=h2.get j:=fun j hj=>by rw[hh3,H.get_put,kA hj]
 have gb3:h3.get bx=some (.cells [v] (some 0)):=by rw[o3 _ (Ne.symm hne),x2.get _ hbx];exact hb
 have gm3:h3.get h.next=some (.cells (aR m) (some 0)):=by rw[o3 _ (by omega),hh2,H.get_put,kB rfl]
 have lb:A.load false 1 (aB bx) h3=some v:=by rw[qK,gb3];rfl
 have lm:A.load true 4 (aB h.next) h3=some (.agg ⟨aR m⟩):=by rw[aV,gm3];rfl
 have y3:ExtBut (fun i=>i=id) h h3:=⟨by omega,fun i hi hn=>by rw[o3 i hn];exact x2.get i hi⟩;have v3:Vec 4 h3 v es:=vv.extBut y3 fun i hi e=>hv1 (by rw[hi,e]);have hb1:=bY (n:=4) (zs:=RaY.Z31L) (v:=.agg ⟨aR m⟩) (vs:=aR m) h3 rfl rfl rfl;have sx:=gG (h:=h3) (n:=4) (vs:=aR m) rfl;obtain⟨h4,hh4⟩:∃h4,h4=h3.push (.cells (aR m) (some 4)):=⟨_,rfl⟩;rw[←hh4]at hb1 sx;have z4:Ext h3 h4:=hh4▸Ext.push h3 _;have v4:=v3.ext z4;have n4:h4.next=h.next+2:=by rw[hh4];show h3.next+1=_;rw[n3]
 obtain⟨h5,ea,v5,n5,y5⟩:=dT (bs:=40) v4 sx (by simp) (by omega) (by simp;omega) (by simp;omega);generalize hv':Value.slice (some ⟨h4.next,0,none⟩) (es.length+[aR m].length) (2*(es.length+[aR m].length))=v' at ea v5;have hsv':sid v'=some h4.next:=by rw[←hv'];rfl
 have g5:h5.get bx=some (.cells [v] (some 0)):=by rw[y5.get bx (by omega) hv2,z4.get _ (by omega)];exact gb3
 have es':A.store 1 (aB bx) v' h5=some (h5.put bx (.cells [v'] (some 0))):=by rw[←hv',qU,g5];rfl
 obtain⟨h6,hh6⟩:∃h6,h6=h5.put bx (.cells [v'] (some 0)):=⟨_,rfl⟩;rw[←hh6]at es';have g6:h6.get id=some (xT x6 x4 bx .busy):=by rw[hh6,H.get_put,kA hne,y5.get id (by omega) hv1,z4.get _ (by omega),hh3,H.get_put,kB rfl]
 have y6:ExtBut (fun i=>i=id∨i=bx∨sid v=some i) h (h6.put id (xT x6 x4 bx .ready)):=by
  refine ExtBut.put ?_ id _ (.inl rfl);rw[hh6];refine ExtBut.put ⟨by omega,fun i hi hn=>?_⟩ bx _ (.inr (.inl rfl));rw[y5.get i (by omega) (fun e=>hn (.inr (.inr e))),z4.get i (by omega),y3.get i hi (fun e=>hn (.inl e))]
 refine⟨v',h6.put id (xT x6 x4 bx .ready),xH (L:=0) (k3.nr _ _ _) hf ?_,by rw[H.get_put,kB rfl],?_,?_,y6,fun i hi=>?_⟩
 ·unfold roundK;rw[hl];simp only[hc,cond_true];rw[hlive,hps,RaY.epadK];simp only[bJh,eb,qX,e2,qZ,hl2];rw[←hh3,RaY.epadE];simp only[bJi,lb,lm,qZ,hb1,qX,ea,es',g6,oX]
 ·rw[H.get_put,kA (Ne.symm hne),hh6,H.get_put,kB rfl]
 ·refine(v5.extBut (S:=fun i=>i=bx) (hh6▸ExtBut.put ⟨kF _,fun _ _ _=>rfl⟩ bx _ rfl:ExtBut (fun i=>i=bx) h5 h6) ?_).extBut (S:=fun i=>i=id) (ExtBut.put ⟨kF _,fun _ _ _=>rfl⟩ id _ rfl) ?_
  ·intro i hi e;rw[hsv']at hi;have:=kP hi;omega
  ·intro i hi e;rw[hsv']at hi;have:=kP hi;omega
 ·rw[hsv']at hi;have:=kP hi;omega
structure aRy (h0 h:H)(id bx:Nat)(x6 x4:Value)(es:List (List Value)):Prop where
 lp:h.get id=some (xT x6 x4 bx .ready)
 v:∃v,h.get bx=some (.cells [v] (some 0))∧Vec 4 h v es∧∀i,sid v=some i→h0.next≤i
 x:ExtBut (fun i=>i=id∨i=bx) h0 h
theorem bLq {h0:H}{id bx b0 kp mk:Nat}{x6 x4:Value}{kept:List (Bs×Msg)}{ks:List Bs}{x10:Value}(hi:id<h0.next)(hb:bx<h0.next)(hne:id≠bx)(g0:h0.get b0=some (.cells [aB kp] (some 0)))(l0:b0<h0.next∧b0≠id∧b0≠bx)(g1:h0.get kp=some (.cells [aP mk] (some 0)))(l1:kp<h0.next∧kp≠id∧kp≠bx)
 (m:MapR h0 mk bO (kept.map fun x=>(x.1,.agg ⟨aR x.2⟩))) (l2:mk<h0.next∧mk≠id∧mk≠bx) (sx:SliceE 1 h0 x10 (ks.map fun k=>[str k])) (lsx:∀i,sid x10=some i→i≠id∧i≠bx) (hks:ks.length≤2^40) (hk:∀k∈ks,∃m,aE kept k=some m) (kr kx:Pk.K0 (Value×H)) {L:Nat}:
 ∀(d i n:Nat) (h:H) (es:List (List Value)),i+d=ks.length→d<n→es.length=i→aRy h0 h id bx x6 x4 es→∃h',aIy (CI D) L kr kx n (.int .i64 (ks.length:Int)) (.int .i64 (i:Int)) (aB b0) (.func (.yield id) ⟨[]⟩ ⟨[]⟩) x10 h=kx h'∧aRy h0 h' id bx x6 x4 (es++((ks.drop i).filterMap (aE kept)).map aR):=by
 have k2:=k3.k2;intro d
 induction d with
 |zero=>
  intro i n h es hi' hn hes s;obtain⟨n,rfl⟩:∃r,n=r+1:=⟨n-1,by omega⟩;have hd:decide ((i:Int)<(ks.length:Int))=false:=kD (by omega);refine⟨h,?_,by rw[pM (by omega)];simpa using s⟩;simp only[aIy,aOx,zZ,hd,RaK.S]
 |succ d ih=>
  intro i n h es hi' hn hes s;obtain⟨n,rfl⟩:∃r,n=r+1:=⟨n-1,by omega⟩;have hd:decide ((i:Int)<(ks.length:Int))=true:=kC (by omega);obtain⟨k,hki⟩:∃k,ks[i]?=some k:=⟨_,kN (by omega)⟩;obtain⟨msg,hm⟩:=hk k (List.mem_of_getElem? hki);have old:∀j,j<h0.next→j≠id→j≠bx→h.get j=h0.get j:=fun j h1 h2 h3=>s.x.get j h1 (fun e=>e.elim h2 h3);have sx':=sx.extBut s.x fun i hi e=>e.elim (lsx i hi).1 (lsx i hi).2;have hx':(ks.map fun k=>[str k])[i]?=some [str k]:=by rw[kX,hki];rfl
  obtain⟨sid',off,cells,own,ei,_,g,_,_,hc⟩:=sx'.at hx' .i64;have lk:A.load false 1 (.pointer (some ⟨sid',off,none⟩)) h=some (str k):=by
   rw[qK,g];have:=hc 0 (by omega);simpa using this
  have ld0:A.load false 1 (aB b0) h=some (aB kp):=by rw[qK,old _ l0.1 l0.2.1 l0.2.2,g0];rfl
  have ld1:A.load false 1 (.pointer (some ⟨kp,0,none⟩)) h=some (aP mk):=by rw[qK,old _ l1.1 l1.2.1 l1.2.2,g1];rfl
  have lu:=uI (m.congr (old _ l2.1 l2.2.1 l2.2.2)) RaI.Z31 false k;rw[fR (fun(_:Bs) (m:Msg)=>Value.agg ⟨aR m⟩),hm]at lu;have lu:A.zE true RaI.Z31 false (str k) (aP mk) h=some (.agg ⟨aR msg⟩):=lu;obtain⟨v,v1,v2,v3⟩:=s.v;have nx:=s.x.next;obtain⟨v',h',e,g1',g2',g3',y,hv'⟩:=Y63 k3 s.lp v1 v2 hne (fun e=>by have:=v3 _ e;omega) (fun e=>by have:=v3 _ e;omega) (by omega) (by omega) (by omega) msg;have e:callM prog (CI D) (.func (.yield id) ⟨[]⟩ ⟨[]⟩) [.agg ⟨aR msg⟩] h=some (.bool true,h'):=e;have w2:A.zA prog .add 3 (.int .i64 (i:Int)) (.int .i64 1)=some (.int .i64 ((i+1:Nat):Int)):=by rw[bG,aS (by omega)]
  have s':aRy h0 h' id bx x6 x4 (es++[aR msg]):=⟨g1',⟨v',g2',g3',fun i hi=>by have:=hv' i hi;omega⟩,by have:=y.next;omega,fun j hj hn=>by
   rw[y.get j (by omega) fun e=>?_]
   ·exact s.x.get j hj hn
   ·rcases e with e|e|e
    ·exact hn (.inl e)
    ·exact hn (.inr e)
    ·have:=v3 j e;omega⟩
  obtain⟨h'',e2,s2⟩:=ih (i+1) n h' (es++[aR msg]) (by omega) (by omega) (by simp[hes]) s';refine⟨h'',?_,?_⟩
  ·simp only[aIy,aOx,zZ,hd,RaK.S,ei,lk,ld0,Nat.zero_add,ld1,lu,e,w2,e2]
  ·rw[show ks.drop i=k::ks.drop (i+1)from bT hki,List.filterMap_cons,hm];simpa[pU]using s2
omit k3 in
theorem aDs {l:List Bs}{k:Bs}:k∈mL l↔k∈l:=List.mem_mergeSort
omit k3 in
theorem aDt (l:List Bs):(mL l).length=l.length:=List.length_mergeSort _
omit k3 in
theorem aAe (s:St):gM s=(mL (s.kept.map (·.1))).filterMap (aE s.kept):=rfl
theorem T25 {B h:H}{nm:Col→Nat}{s:St}{a:Nat}(r:Rep B h nm s a)(hB:Ext B h)(hlen:KeysOk (2^40) s.kept):∃h' v,CI D 25 [aB (nm .mdl)] h=some (v,h')∧SliceE 4 h' v ((gM s).map aR)∧Ext h h'∧(gM s).length≤2^40∧∀j,sid v=some j→h.next≤j:=by
 have k2:=k3.k2;have m1:=ld k2 (r.ok .mdl) 1 rfl;have z43:=tE (t:=43) (by kernel_rfl) (nm .mdl);have z54:=tE (t:=54) (by kernel_rfl) (nm .keep);obtain⟨h1,hh1⟩:∃h1,h1=h.push (.cells [aB (nm .keep)] (some 0)):=⟨_,rfl⟩;have b1:A.box 1 (aB (nm .keep)) h=some (aB h.next,h1):=by rw[hh1];rfl
 have e50:CI D 50 [aB (nm .keep)] h=some (.func (.func 64) ⟨[]⟩ ⟨[aB h.next]⟩,h1):=bEw 0 _ h (k2.no 50 _ _ (by decide)) (by simp only[F50,aWl,b1,RaK.S]);have x1:Ext h h1:=by rw[hh1];exact Ext.push h _
 have n1:h1.next=h.next+1:=by rw[hh1];rfl
 have g1:h1.get h.next=some (.cells [aB (nm .keep)] (some 0)):=by rw[hh1,H.get_push,kB rfl]
 obtain⟨h2,hh2⟩:∃h2,h2=h1.push (.cells [gF] (some 0)):=⟨_,rfl⟩;have b2:A.box 1 gF h1=some (aB h1.next,h2):=by rw[hh2];rfl
 have x2:Ext h1 h2:=by rw[hh2];exact Ext.push h1 _
 have n2:h2.next=h1.next+1:=by rw[hh2];rfl
 have g2:h2.get h1.next=some (.cells [gF] (some 0)):=by rw[hh2,H.get_push,kB rfl]
 obtain⟨h3,hh3⟩:∃h3,h3=h2.push (xT (.func (.func 64) ⟨[]⟩ ⟨[aB h.next]⟩) gF h1.next .ready):=⟨_,rfl⟩;have x3:Ext h2 h3:=by rw[hh3];exact Ext.push h2 _
 have n3:h3.next=h2.next+1:=by rw[hh3];rfl
 have g3:h3.get h2.next=some (xT (.func (.func 64) ⟨[]⟩ ⟨[aB h.next]⟩) gF h1.next .ready):=by rw[hh3,H.get_push,kB rfl]
 have x13:=x1.trans (x2.trans x3);have r3:=r.ext hB.next x13;have gk3:h3.get h.next=some (.cells [aB (nm .keep)] (some 0)):=by rw[x3.get _ (by omega),x2.get _ (by omega)];exact g1
 obtain⟨h4,hh4⟩:∃h4,h4=h3.push (.cells [aP (nm .kept)] (some 0)):=⟨_,rfl⟩;have b4:A.box 1 (aP (nm .kept)) h3=some (aB h3.next,h4):=by rw[hh4];rfl
 have x4:Ext h3 h4:=by rw[hh4];exact Ext.push h3 _
 have n4:h4.next=h3.next+1:=by rw[hh4];rfl
 have g4:h4.get h3.next=some (.cells [aP (nm .kept)] (some 0)):=by rw[hh4,H.get_push,kB rfl]
 have e66:CI D 66 [aP (nm .kept)] h3=some (.func (.func 85) ⟨[]⟩ ⟨[aB h3.next]⟩,h4):=bEl 0 _ h3 (k2.no 66 _ _ (by decide)) (by simp only[F66,aWf,b4,RaK.S]);have r4:=r3.ext (kG hB.next x13.next) x4;have lk:=r4.lt .kept trivial;obtain⟨h5,vk,e65,sk,x5,fk⟩:=k3.so h4 (nm .kept) _ h3.next g4 (by omega) lk.2 (r4.ok .kept) (by rw[pA];exact hlen.1) fun x hx=>by
  obtain⟨y,hy,rfl⟩:=List.mem_map.1 hx;exact hlen.2 y hy
 rw[List.map_map]at sk;have e65:CI D 65 [.func (.func 85) ⟨[]⟩ ⟨[aB h3.next]⟩] h4=some (vk,h5):=eK e65;have r5:=r4.ext (by have:=hB.next;have:=x13.next;omega) x5;have x45:=x4.trans x5;obtain⟨ks,hks⟩:∃ks,ks=mL (s.kept.map (·.1)):=⟨_,rfl⟩;have sk:SliceE 1 h5 vk (ks.map fun k=>[str k]):=by rw[hks];exact sk
 have nx5:=x5.next;have lkl:ks.length≤2^40:=by rw[hks,aDt,pA];exact hlen.1
 have lke:=r.lt .keep trivial;have lkk:=r.lt .kept trivial;have s0:aRy h5 h5 h2.next h1.next (.func (.func 64) ⟨[]⟩ ⟨[aB h.next]⟩) gF []:=
  ⟨by rw[x45.get _ (by omega)];exact g3,⟨gF,by rw[x45.get _ (by omega),x3.get _ (by omega)];exact g2,Vec.nil 4 h5,fun i hi=>by simp[sid]at hi⟩,kF _,fun _ _ _=>rfl⟩
 obtain⟨h6,e6,s6⟩:=bLq k3 (h0:=h5) (id:=h2.next) (bx:=h1.next) (b0:=h.next) (kp:=nm .keep) (mk:=nm .kept) (kept:=s.kept) (ks:=ks) (x10:=vk) (by omega) (by omega) (by omega) (by rw[x45.get _ (by omega)];exact gk3) (by omega) (r5.ok .keep) (by omega) (r5.ok .kept) (by omega) sk (fun i hi=>by have:=fk i hi;omega) lkl
  (fun k hk=>by
   rw[hks,aDs]at hk;obtain⟨x,hx,rfl⟩:=List.mem_map.1 hk;exact jT hx) (fun h=>some (.tuple ⟨[]⟩,h)) (fun h=>some (.tuple ⟨[]⟩,h)) (L:=ks.length+1) ks.length 0 (ks.length+1) h5 [] (by omega) (by omega) rfl s0
 have hes:([]:List (List Value))++((ks.drop 0).filterMap (aE s.kept)).map aR=(gM s).map aR:=by rw[List.nil_append,List.drop_zero,aAe,hks]
 rw[hes]at s6;have ln:A.zH vk=some (.int .i64 (ks.length:Int)):=by have:=sk.len.1;rwa [pA]at this
 have lq1:A.load false 1 (aB h.next) h3=some (aB (nm .keep)):=by rw[qK,gk3];rfl
 have lq2:=ld k2 (r3.ok .keep) 0 rfl;have e64:CI D 64 [.func (.yield h2.next) ⟨[]⟩ ⟨[]⟩,aB h.next] h3=some (.tuple ⟨[]⟩,h6):=by
  refine bEm (ks.length+1) _ _ h3 (k2.no 64 _ _ (by decide)) ?_;simp only[F64,aRc,bGw,lq1,RaK.S,Nat.zero_add,lq2,e66,e65,ln];exact e6
 have ecv:callV (CI D) (.func (.func 64) ⟨[]⟩ ⟨[aB h.next]⟩) [.func (.yield h2.next) #[] #[]] h3=some (.tuple ⟨[]⟩,h6):=e64;obtain⟨v,v1,v2,v3⟩:=s6.v;obtain⟨h7,hh7⟩:∃h7,h7=h6.put h2.next (xT (.func (.func 64) ⟨[]⟩ ⟨[aB h.next]⟩) gF h1.next .exhausted):=⟨_,rfl⟩;have g7:h7.get h1.next=some (.cells [v] (some 0)):=by rw[hh7,H.get_put,kA (by omega)];exact v1
 have l7:A.load false 1 (aB h1.next) h7=some v:=by rw[qK,g7];rfl
 have v7:Vec 4 h7 v ((gM s).map aR):=v2.extBut (S:=fun i=>i=h2.next) (hh7▸ExtBut.put ⟨kF _,fun _ _ _=>rfl⟩ _ _ rfl) fun i hi e=>by have:=v3 i hi;omega
 have ef:aFd prog (.func (.func 64) ⟨[]⟩ ⟨[aB h.next]⟩)=true:=by kernel_rfl
 have e63:CI D 63 [gF,.func (.func 64) ⟨[]⟩ ⟨[aB h.next]⟩] h1=some (v,h7):=by
  refine bEn 0 _ _ h1 (k2.no 63 _ _ (by decide)) ?_;simp only[F63,aRd,aQe,b2,qX,aRa,aNk,aQd,aQw,aQp,ef,cond_true];rw[←hh3,ecv];simp only[pD,iU,s6.lp];rw[←hh7];simp only[aVx,l7,qZ]
 have e49:CI D 49 [.func (.func 64) ⟨[]⟩ ⟨[aB h.next]⟩] h1=some (v,h7):=bEx 0 _ h1 (k2.no 49 _ _ (by decide)) (by simp only[F49,aWm,e63,RaK.S]);have e35:CI D 35 [aB (nm .keep)] h=some (v,h7):=bFf 0 _ h (k2.no 35 _ _ (by decide)) (by simp only[F35,aWo,z54,RaK.S,e50,e49]);refine⟨h7,v,bFn 0 _ h (k2.no 25 _ _ (by decide)) (by simp only[F25,aWr,z43,RaK.S,Nat.zero_add,m1,e35]),v7.slice,?_,?_,fun j hj=>by have:=v3 j hj;omega⟩
 ·rw[hh7];refine Ext.put ⟨by have:=s6.x.next;omega,fun j hj=>?_⟩ _ _ (by omega);rw[s6.x.get j (by omega) (fun e=>by omega),x5.get j (by omega),x4.get j (by omega),x13.get j hj]
 ·rw[aAe,←hks];exact kG (List.length_filterMap_le _ _) lkl
end
end Go.Proofs.YtpanfoafajepcaaGreatDoor.Ra

set_option maxRecDepth 100000
namespace Go.Proofs.YtpanfoafajepcaaGreatDoor.Ra
open Tryz (prog)
open Go Go.AM RaA RaI RaW RaX RaY
open _root_.Ra
open Classical in
noncomputable def nmO (nm:Col→Nat)(o:Int)(f:Col→Nat):Col→Nat:=fun C=>if atO o C then f C else nm C
theorem rT {nm:Col→Nat}{o:Int}{f:Col→Nat}(C:Col)(h:¬atO o C):nmO nm o f C=nm C:=kA h
theorem sW {nm:Col→Nat}{o:Int}{f:Col→Nat}(C:Col)(h:atO o C):nmO nm o f C=f C:=kB h
def fO (p l r pm sm gm:Nat)(mn:Bs→Nat):Col→Nat
 | .sb _=>p
 | .flst _=>l
 | .frow _=>r
 | .past _=>pm
 | .still _=>sm
 | .got _=>gm
 | .msgs _ t=>mn t
 |_=>0
theorem gK {o:Int}{C:Col}(h:atO o C):C=.sb o∨C=.flst o∨C=.frow o∨C=.past o∨C=.still o∨C=.got o∨∃t,C=.msgs o t:=by
 cases C<;>simp only[atO]at h<;>subst h<;>simp
structure BegI (h0 h:H)(p pm sm gm:Nat)(mn:Bs→Nat)(mv:Bs→Value)(b:Sb):Prop where
 ext:Ext h0 h
 eq:b={past:=b.past,still:=b.still}
 past:MapR h pm bO (b.past.map fun x=>(x.1,mv x.1))
 still:MapR h sm bO (dZ b.still)
 got:MapR h gm bO (dZ [])
 cell:h.get p=some (.cells [str [],.bool false,.bool false,.pointer none,aP pm,aP sm,aP gm,str [],.bool false] (some 0))
 msgs:∀t ms,aE b.past t=some ms→GrowV 4 h (mv t) (ms.map aR)∧sid (mv t)=some (mn t)∧p<mn t∧mn t<h.next
 inj:∀t t' ms ms',aE b.past t=some ms→aE b.past t'=some ms'→mn t=mn t'→t=t'
 names:h0.next≤pm∧pm<sm∧sm<gm∧gm<p∧p<h.next
 ones:∀t ms,aE b.past t=some ms→ms.length=1
theorem BegI.but {h0 h h':H}{p pm sm gm:Nat}{mn:Bs→Nat}{mv:Bs→Value}{b:Sb}(x:BegI h0 h p pm sm gm mn mv b)(e:Ext h h'):BegI h0 h' p pm sm gm mn mv b:=by
 obtain⟨n1,n2,n3,n4,n5⟩:=x.names;exact⟨x.ext.trans e,x.eq,x.past.congr (e.get _ (by omega)),x.still.congr (e.get _ (by omega)),x.got.congr (e.get _ (by omega)),by rw[e.get _ (by omega)];exact x.cell,
  fun t ms ht=>by
   obtain⟨a1,a2,a3,a4⟩:=x.msgs t ms ht;exact⟨a1.but (S:=fun _=>False) e.next fun i hi=>by rw[a2]at hi;cases hi;exact e.get _ a4,a2,a3,kH a4 e.next⟩,x.inj,⟨n1,n2,n3,n4,kH n5 e.next⟩,x.ones⟩
section
variable {D:CF}{T0:H}{fil nam:Bs→Bool}{tak:Bs→Bs→Bool}(k3:K3 D T0 fil nam tak)
include k3
theorem aIj {h:H}{v:Value}{l:List Msg}(x:SliceE 4 h v (l.map aR)){i:Nat}{m:Msg}(hm:l[i]?=some m):∃off q,A.zL 4 v (.int .i64 (i:Int))=some (.pointer (some ⟨q,off,none⟩))∧A.load true 4 (.pointer (some ⟨q,off,none⟩)) h=some (.agg ⟨aR m⟩):=by
 have _:=k3;have hx:(l.map aR)[i]?=some (aR m):=by rw[kX,hm];rfl
 obtain⟨id,off,cells,own,ei,_,g,h1,h2,hc⟩:=x.at hx .i64;refine⟨off,id,ei,?_⟩;rw[aV,g];simp only[ble_iff.2 h1,cond_true,h2]
theorem bMa {h0:H}{x0 x1:Value}{l:List Msg}{v:Value}{p pm sm gm:Nat}(hl:l.length≤2^40)(kx:Pk.K3 (Value×H)){L:Nat}:
 ∀(d i n:Nat) (h:H) (mn:Bs→Nat) (mv:Bs→Value) (b:Sb),i+d=l.length→d<n→BegI h0 h p pm sm gm mn mv b→SliceE 4 h v (l.map aR)→(∀j,sid v=some j→j≠pm∧j≠sm)→
  ∃h' mn' mv',aGg (CI D) L kx n (.int .i64 (l.length:Int)) (.int .i64 (i:Int)) v x0 x1 (aB p) h=kx x0 x1 (aB p) h'∧BegI h0 h' p pm sm gm mn' mv' (sY b (l.drop i)):=by
 have k2:=k3.k2;intro d
 induction d with
 |zero=>
  intro i n h mn mv b hi hn s sx _;obtain⟨n,rfl⟩:∃r,n=r+1:=⟨n-1,by omega⟩;have hd:decide ((i:Int)<(l.length:Int))=false:=kD (by omega);refine⟨h,mn,mv,?_,by rw[pM (by omega)];exact s⟩;simp only[aGg,aPv,zZ,hd,RaK.S]
 |succ d ih=>
  intro i n h mn mv b hi hn s sx hsx;obtain⟨n,rfl⟩:∃r,n=r+1:=⟨n-1,by omega⟩;have hd:decide ((i:Int)<(l.length:Int))=true:=kC (by omega);obtain⟨m,hm⟩:∃m,l[i]?=some m:=⟨_,kN (by omega)⟩;obtain⟨off,qq,ei,lm⟩:=aIj k3 sx hm;obtain⟨n1,n2,n3,n4,n5⟩:=s.names;obtain⟨h1,hh1⟩:∃h1,h1=h.push (.cells RaI.Z31L (some 0)):=⟨_,rfl⟩;have eb:A.box 4 RaI.Z31 h=some (aB h.next,h1):=by rw[hh1];rfl
  have g1:h1.get h.next=some (.cells RaI.Z31L (some 0)):=by rw[hh1,H.get_push,kB rfl]
  obtain⟨h2,hh2⟩:∃h2,h2=h1.put h.next (.cells (aR m) (some 0)):=⟨_,rfl⟩;have e2:A.store 4 (aB h.next) (.agg ⟨aR m⟩) h1=some h2:=by rw[qU,g1,hh2];rfl
  have x2:Ext h h2:=by rw[hh2,hh1];exact Ext.put (Ext.push h _) _ _ (kF _)
  have nn2:h2.next=h.next+1:=by rw[hh2,hh1];rfl
  have gm2:h2.get h.next=some (.cells (aR m) (some 0)):=by rw[hh2,H.get_put,kB rfl]
  have s2:=s.but x2;have l4:=ld k2 s2.cell 4 rfl;have lt:=ld k2 gm2 0 rfl;have lm2:A.load true 4 (aB h.next) h2=some (.agg ⟨aR m⟩):=by rw[aV,gm2];rfl
  have hb1:=bY (n:=4) (zs:=RaI.Z31L) (v:=.agg ⟨aR m⟩) (vs:=aR m) h2 rfl rfl rfl;obtain⟨h3,hh3⟩:∃h3,h3=h2.push (.cells (aR m) (some 4)):=⟨_,rfl⟩;obtain⟨q,hq⟩:∃q,q=h2.next:=⟨_,rfl⟩;rw[←hh3,←hq]at hb1;have x3:Ext h2 h3:=hh3▸Ext.push h2 _;have nn3:h3.next=h2.next+1:=by rw[hh3];rfl
  have g3:h3.get q=some (.cells (aR m) (some 4)):=by rw[hh3,hq,H.get_push,kB rfl]
  have s3:=s2.but x3;obtain⟨vv,hvv⟩:∃vv,vv=Value.slice (some ⟨q,0,none⟩) 1 3:=⟨_,rfl⟩;rw[←hvv]at hb1;obtain⟨h4,u4,m4,a4⟩:=aEm s3.past m.topic vv;have kn:(b.past.map (·.1)).Nodup:=by have:=s.past.nodup;rwa [List.map_map]at this
  obtain⟨mv',hmv⟩:∃mv':Bs→Value,mv'=fun t=>if t=m.topic then vv else mv t:=⟨_,rfl⟩
  obtain⟨mn',hmn⟩:∃mn':Bs→Nat,mn'=fun t=>if t=m.topic then q else mn t:=⟨_,rfl⟩
  have aJl:=fP (a:=[m]) (f:=mv) (g:=mv') (c:=m.topic) (fun d hd=>by rw[hmv];simp only[kA hd]) kn;rw[show mv' m.topic=vv by rw[hmv];exact kB rfl]at aJl;rw[aJl]at m4;have gp4:h4.get p=some (.cells [str [],.bool false,.bool false,.pointer none,aP pm,aP sm,aP gm,str [],.bool false] (some 0)):=by rw[a4.2 _ (by omega)];exact s3.cell
  have l5:=ld k2 gp4 5 rfl;have gm4:h4.get h.next=some (.cells (aR m) (some 0)):=by rw[a4.2 _ (by omega),x3.get _ (by omega)];exact gm2
  have lt4:=ld k2 gm4 0 rfl;have b74:A.zN RaI.Z74L []=some dI:=rfl;obtain⟨h5,u5,m5,a5⟩:=aEm (s3.still.congr (a4.2 sm (by omega))) m.topic dI;rw[gH]at m5;have n45:h5.next=h3.next:=by rw[a5.1,a4.1]
  have o5:∀j,j≠pm→j≠sm→h5.get j=h3.get j:=fun j h1 h2=>by rw[a5.2 _ h2,a4.2 _ h1]
  have x05:Ext h0 h5:=⟨by have:=s3.ext.next;omega,fun j hj=>by rw[o5 j (by omega) (by omega)];exact s3.ext.get j hj⟩;have w2:A.zA prog .add 3 (.int .i64 (i:Int)) (.int .i64 1)=some (.int .i64 ((i+1:Nat):Int)):=by rw[bG,aS (by omega)]
  have s5:BegI h0 h5 p pm sm gm mn' mv' {b with past:=aL b.past m.topic [m],still:=lR b.still m.topic}:=by
   refine⟨x05,by rw[s.eq],m4.congr (a5.2 pm (by omega)),m5,s3.got.congr (o5 _ (by omega) (by omega)),by rw[o5 _ (by omega) (by omega)];exact s3.cell,fun t ms ht=>?_,fun t t' ms ms' ht ht' he=>?_,⟨n1,n2,n3,n4,by omega⟩,fun t ms ht=>?_⟩
   ·simp only[aD]at ht;by_cases e:t=m.topic
    ·rw[kB e.symm]at ht;cases ht;rw[hmv,hmn];simp only[e,if_true];rw[hvv];refine⟨⟨?_,q,3,rfl,.inr rfl,by omega,?_⟩,rfl,by omega,by omega⟩
     ·intro e he;simp at he;rw[he];rfl
     ·rw[o5 _ (by omega) (by omega),g3];simp
    ·rw[kA (Ne.symm e)]at ht;rw[hmv,hmn];simp only[e,if_false];obtain⟨a1,a2,a3,a4'⟩:=s3.msgs t ms ht;exact⟨a1.but (S:=fun _=>False) (by omega) fun i hi=>by rw[a2]at hi;cases hi;exact o5 _ (by omega) (by omega),a2,a3,by omega⟩
   ·simp only[aD]at ht ht';rw[hmn]at he;by_cases e:t=m.topic<;>by_cases e':t'=m.topic
    ·rw[e,e']
    ·rw[kA (Ne.symm e')]at ht';simp only[e,if_true,e',if_false]at he;have:=(s2.msgs t' ms' ht').2.2.2;omega
    ·rw[kA (Ne.symm e)]at ht;simp only[e',if_true,e,if_false]at he;have:=(s2.msgs t ms ht).2.2.2;omega
    ·rw[kA (Ne.symm e)]at ht;rw[kA (Ne.symm e')]at ht';simp only[e,if_false,e']at he;exact s.inj t t' ms ms' ht ht' he
   ·simp only[aD]at ht;split at ht
    ·cases ht;rfl
    ·exact s.ones t ms ht
  obtain⟨h',mn2,mv2,e,s'⟩:=ih (i+1) n h5 mn' mv' _ (by omega) (by omega) s5 (sx.extBut (S:=fun j=>j=pm∨j=sm) ⟨by omega,fun j hj hn=>by rw[o5 j (fun e=>hn (.inl e)) (fun e=>hn (.inr e)),x3.get j (by omega),x2.get j hj]⟩ fun j hj e=>e.elim (hsx j hj).1 (hsx j hj).2) hsx;refine⟨h',mn2,mv2,?_,?_⟩
  ·simp only[aGg,aPv,aMx,bHy,bHx,aVg,zZ,hd,RaK.S,ei,lm,eb,e2,l4,lt,lm2,hb1,u4,l5,lt4,b74,u5,w2,e,Nat.zero_add]
  ·rw[show l.drop i=m::l.drop (i+1)from bT hm];exact s'
theorem T17 {B h:H}{nm:Col→Nat}{s:St}{a:Nat}(r:Rep B h nm s a)(hB:Ext B h)(hlen:KeysOk (2^40) s.kept){op:Int}(_hno:aE s.subs op=none):
 ∃h' nm',CI D 17 [aB (nm .chk),.int .i64 op] h=some (aB (nm' (.sb op)),h')∧nm' .chk=nm .chk∧Rep B h' nm' {s with subs:=aL s.subs op (eB s)} a∧Ext B h'∧FrameR h nm s h' nm' {s with subs:=aL s.subs op (eB s)}:=by
 have k2:=k3.k2;obtain⟨h1,hh1⟩:∃h1,h1=h.push (.map [] 0):=⟨_,rfl⟩;obtain⟨h2,hh2⟩:∃h2,h2=h1.push (.map [] 0):=⟨_,rfl⟩;obtain⟨h3,hh3⟩:∃h3,h3=h2.push (.map [] 0):=⟨_,rfl⟩;have n1:h1.next=h.next+1:=by rw[hh1];rfl
 have n2:h2.next=h1.next+1:=by rw[hh2];rfl
 have n3:h3.next=h2.next+1:=by rw[hh3];rfl
 have e1:A.zJ h=some (aP h.next,h1):=by rw[hh1];rfl
 have e2:A.zJ h1=some (aP h1.next,h2):=by rw[hh2];rfl
 have e3:A.zJ h2=some (aP h2.next,h3):=by rw[hh3];rfl
 have x1:Ext h h1:=by rw[hh1];exact Ext.push h _
 have x2:Ext h1 h2:=by rw[hh2];exact Ext.push h1 _
 have x3:Ext h2 h3:=by rw[hh3];exact Ext.push h2 _
 obtain⟨cs,hcs⟩:∃cs,cs=[str [],.bool false,.bool false,.pointer none,aP h.next,aP h1.next,aP h2.next,str [],.bool false]:=⟨_,rfl⟩;have e4:A.zN RaI.Z70L [(4,1,aP h.next),(5,1,aP h1.next),(6,1,aP h2.next)]=some (.agg ⟨cs⟩):=by rw[hcs];rfl
 obtain⟨h4,hh4⟩:∃h4,h4=h3.push (.cells cs (some 0)):=⟨_,rfl⟩;have e5:A.box 9 (.agg ⟨cs⟩) h3=some (aB h3.next,h4):=by rw[hh4,hcs];rfl
 have x4:Ext h3 h4:=by rw[hh4];exact Ext.push h3 _
 have n4:h4.next=h3.next+1:=by rw[hh4];rfl
 have x04:=x1.trans (x2.trans (x3.trans x4));have m1:MapR h1 h.next bO ([]:List (Bs×Value)):=by rw[hh1];exact MapR.made h bO
 have m2:MapR h2 h1.next bO ([]:List (Bs×Value)):=by rw[hh2];exact MapR.made h1 bO
 have m3:MapR h3 h2.next bO ([]:List (Bs×Value)):=by rw[hh3];exact MapR.made h2 bO
 have s4:BegI h h4 h3.next h.next h1.next h2.next (fun _=>0) (fun _=>gF) {}:={
  ext:=x04
  eq:=rfl
  past:=m1.congr (by rw[x4.get _ (by omega),x3.get _ (by omega),x2.get _ (by omega)])
  still:=m2.congr (by rw[x4.get _ (by omega),x3.get _ (by omega)])
  got:=m3.congr (by rw[x4.get _ (by omega)])
  cell:=by rw[hh4,H.get_push,kB rfl,hcs]
  msgs:=fun t ms ht=>by cases ht
  inj:=fun t t' ms ms' ht=>by cases ht
  names:=by omega
  ones:=fun t ms ht=>by cases ht}
 have r4:=r.ext hB.next x04;have hB4:=hB.trans x04;have c0:=ld k2 (r4.ok .chk) 0 rfl;obtain⟨h5,v,e25,sv,x5,hkl,fv⟩:=T25 k3 r4 hB4 hlen;have s5:=s4.but x5;have ln:A.zH v=some (.int .i64 ((gM s).length:Int)):=by have:=sv.len.1;rwa [pA]at this
 obtain⟨h6,mn,mv,e6,s6⟩:=bMa k3 (x0:=aB (nm .chk)) (x1:=.int .i64 op) (l:=gM s) (v:=v) hkl (fun x0 x1 x5 h=>aPu h x0 x1 x5 fun x4 h=>some (x4,h)) (L:=(gM s).length+1) (gM s).length 0 ((gM s).length+1) h5 _ _ _ (by omega) (by omega) s5 sv fun j hj=>by have:=fv j hj;omega
 rw[List.drop_zero]at s6;have hbr:sY {} (gM s)=eB s:=rfl;rw[hbr]at s6;obtain⟨b,hb⟩:∃b,b=eB s:=⟨_,rfl⟩;rw[←hb]at s6⊢;have r6:=r.ext hB.next s6.ext;have c2:=ld k2 (r6.ok .chk) 2 rfl;obtain⟨h7,u7,m7,a7⟩:=bGj (r6.ok .subs) op (aB h3.next);have lsub:=r.lt .subs trivial;have nx5:=x5.next;have nx6:=s6.ext.next;obtain⟨nm',hnm⟩:∃nm',nm'=nmO nm op (fO h3.next 0 0 h.next h1.next h2.next mn):=⟨_,rfl⟩;have q1:nm' (.sb op)=h3.next:=by rw[hnm,sW (.sb op) (show op=op from rfl)];rfl
 have q2:nm' (.past op)=h.next:=by rw[hnm,sW (.past op) (show op=op from rfl)];rfl
 have q3:nm' (.still op)=h1.next:=by rw[hnm,sW (.still op) (show op=op from rfl)];rfl
 have q4:nm' (.got op)=h2.next:=by rw[hnm,sW (.got op) (show op=op from rfl)];rfl
 have q5:∀t,nm' (.msgs op t)=mn t:=fun t=>by rw[hnm,sW (.msgs op t) (show op=op from rfl)];rfl
 have gX:aE (aL s.subs op b) op=some b:=by rw[aD,kB rfl]
 have hd:b.done=false:=congrArg Sb.done s6.eq;have o7:∀j,j≠nm .subs→h7.get j=h6.get j:=a7.2;have n7:h7.next=h6.next:=a7.1;have lead:∀C,atO op C→live {s with subs:=aL s.subs op b} nm' C→C=.sb op∨C=.past op∨C=.still op∨C=.got op∨∃t ms,C=.msgs op t∧aE b.past t=some ms:=fun C hC hl=>by
  rcases gK hC with rfl|rfl|rfl|rfl|rfl|rfl|⟨t,rfl⟩
  ·simp
  ·obtain⟨x,hx,hxd⟩:=hl;rw[gX]at hx;cases hx;rw[hd]at hxd;cases hxd
  ·obtain⟨⟨x,hx,hxd⟩,_⟩:=hl;rw[gX]at hx;cases hx;rw[hd]at hxd;cases hxd
  ·simp
  ·simp
  ·simp
  ·obtain⟨x,ms,hx,hm⟩:=hl;rw[gX]at hx;cases hx;exact .inr (.inr (.inr (.inr ⟨t,ms,rfl,hm⟩)))
 have nn:=s6.names;have fresh:∀C,atO op C→live {s with subs:=aL s.subs op b} nm' C→h.next≤nm' C∧nm' C<h7.next:=fun C hC hl=>by
  rcases lead C hC hl with rfl|rfl|rfl|rfl|⟨t,ms,rfl,hm⟩
  ·rw[q1];omega
  ·rw[q2];omega
  ·rw[q3];omega
  ·rw[q4];omega
  ·rw[q5];obtain⟨_,_,a3,a4⟩:=s6.msgs t ms hm;omega
 refine⟨h7,nm',?_,by rw[hnm];exact rT _ id,?_,a7.ext (hB.trans s6.ext) lsub.1,fun j hj hn=>by rw[o7 j fun e=>hn .subs trivial e.symm];exact s6.ext.get j hj,nO (fun d hd=>by rw[aD,kA (Ne.symm hd)]) (fun C hC=>by rw[hnm];exact rT C hC) (fun C hC hl=>.inr (fresh C hC hl).1),by omega⟩
 ·rw[q1];refine bFp ((gM s).length+1) _ _ h (k2.no 17 _ _ (by decide)) ?_;have e6:aGg (CI D) _ (fun x0 x1 x5 h=>aPu h x0 x1 x5 fun x4 h=>some (x4,h)) _ (.int .i64 ((gM s).length:Int)) (.int .i64 0) v (aB (nm .chk)) (.int .i64 op) (aB h3.next) h5=_:=e6;simp only[F17,aRm,bIa,aQv,bHz,RaK.S,e1,e2,e3,e4,e5,Nat.zero_add,c0,e25,ln,e6];simp only[aPu,RaK.S,c2,u7]
 ·refine r.sub1 hB.next (by omega) (fun d hd=>by rw[aD,kA (Ne.symm hd)]) (fun C hC=>by rw[hnm];exact rT C hC) True (fun C hl hC ht=>?_) (fun h=>absurd trivial h) (fun _=>?_) (fun y hy=>?_) (fun C hC hl=>.inr ?_) (fun C C' hC hC' hl hl' _ he=>?_)
  ·rw[o7 _ fun e=>ht trivial (r.inj _ _ hl trivial e)];exact s6.ext.get _ (r.lt C hl).2
  ·have:=fP (a:=b) (f:=fun d=>aB (nm (.sb d))) (g:=fun d=>aB (nm' (.sb d))) (c:=op) (fun d hd=>by rw[hnm,rT (.sb d) hd]) r.keysU;rw[q1]at this;rw[←this];exact m7
  ·rw[gX]at hy;cases hy;refine⟨?_,fun h=>absurd (hd.symm.trans h) (by simp),⟨mv,?_,fun t ms ht=>?_⟩,?_,?_⟩
   ·rw[q1,o7 _ (by omega),s6.cell];simp only[mR,q2,q3,q4,hd,show b.client=[]from congrArg Sb.client s6.eq,show b.open_=false from congrArg Sb.open_ s6.eq,show b.last=[]from congrArg Sb.last s6.eq,show b.some_=false from congrArg Sb.some_ s6.eq,pB,if_false]
   ·rw[q2];exact s6.past.congr (o7 _ (by omega))
   ·obtain⟨a1,a2,a3,a4⟩:=s6.msgs t ms ht;exact⟨a1.but (S:=fun _=>False) (by omega) fun i hi=>by rw[a2]at hi;cases hi;exact o7 _ (by omega),by rw[q5];exact a2⟩
   ·rw[q3];exact s6.still.congr (o7 _ (by omega))
   ·rw[q4,show b.got=[]from congrArg Sb.got s6.eq];exact s6.got.congr (o7 _ (by omega))
  ·exact fresh C hC hl
  ·rcases lead C hC hl with rfl|rfl|rfl|rfl|⟨t,ms,rfl,hm⟩<;>rcases lead C' hC' hl' with rfl|rfl|rfl|rfl|⟨t',ms',rfl,hm'⟩<;>simp only[q1,q2,q3,q4,q5]at he
   any_goals rfl
   any_goals omega
   any_goals (obtain⟨_,_,a3,a4⟩:=s6.msgs t ms hm;omega)
   any_goals (obtain⟨_,_,a3,a4⟩:=s6.msgs t' ms' hm';omega)
   rw[s6.inj t t' ms ms' hm hm' he]
end
end Go.Proofs.YtpanfoafajepcaaGreatDoor.Ra

set_option maxRecDepth 100000
namespace Go.Proofs.YtpanfoafajepcaaGreatDoor.Ra
open Tryz (prog)
open Go Go.AM RaA RaI RaW RaX RaY
open _root_.Ra
structure InvS (K:Nat)(s:St):Prop where
 opn:Inv s
 past:∀o b t ms,aE s.subs o=some b→aE b.past t=some ms→ms.length≤K
 kept:KeysOk K s.kept
 seats:s.seats.length≤K
theorem aSl (a b:List UInt8):(decide (a<b)||decide (a=b))=decide (a≤b):=by
 rw[Bool.eq_iff_iff];simp only[Bool.or_eq_true,pJ];exact List.le_iff_lt_or_eq.symm
theorem aDj (a b:List UInt8):Op.bytesLess a b=decide (a<b):=by
 induction a generalizing b with
 |nil=>cases b<;>simp[Op.bytesLess]
 |cons x a ih=>
  cases b with
  |nil=>simp[Op.bytesLess]
  |cons y b=>
   rw[Op.bytesLess,ih b,Bool.eq_iff_iff];simp only[Bool.or_eq_true,kO,pJ,beq_iff_eq,List.cons_lt_cons_iff]
theorem bMc (a b:List UInt8):A.zA prog .leq 9 (str a) (str b)=some (.bool (decide (a≤b))):=by
 show some (Value.bool (Op.bytesLess a b||a==b))=_;rw[aDj,eqB,aSl]
theorem aYh (m m':Msg):A.zA prog .eql 31 (.agg ⟨aR m⟩) (.agg ⟨aR m'⟩)=some (.bool (decide (m=m'))):=by
 obtain⟨a,b,c,d⟩:=m;obtain⟨a',b',c',d'⟩:=m';have e:A.zA prog .eql 31 (.agg ⟨[.string ⟨⟨a⟩⟩,.string ⟨⟨b⟩⟩,.int .u8 (c:Int),.bool d]⟩) (.agg ⟨[.string ⟨⟨a'⟩⟩,.string ⟨⟨b'⟩⟩,.int .u8 (c':Int),.bool d']⟩)=
  (match(bif (a==a')then bif (b==b')then bif ((c:Int)==(c':Int))then bif (d==d')then some true else some false else some false else some false else some false)with|some r=>some (.bool r)|none=>none):=by kernel_rfl
 refine e.trans ?_;rw[eqB,eqB];have hm:decide ((⟨a,b,c,d⟩:Msg)=⟨a',b',c',d'⟩)=(decide (a=a')&&(decide (b=b')&&(decide (c=c')&&decide (d=d')))):=by
  by_cases h1:a=a'<;>by_cases h2:b=b'<;>by_cases h3:c=c'<;>by_cases h4:d=d'<;>simp[h1,h2,h3,h4]
 have hc:((c:Int)==(c':Int))=decide (c=c'):=by
  by_cases h:c=c'
  ·subst h;simp
  ·rw[kD h,beq_eq_false_iff_ne];omega
 have hd:(d==d')=decide (d=d'):=by cases d<;>cases d'<;>rfl
 rw[hm,hc,hd];cases decide (a=a')<;>cases decide (b=b')<;>cases decide (c=c')<;>cases decide (d=d')<;>rfl
section
variable {D:CF}{T0:H}{fil nam:Bs→Bool}{tak:Bs→Bs→Bool}(k3:K3 D T0 fil nam tak)
include k3
theorem T33 {h:H}{nb qb q:Nat}{e:Nat→Value}{v:Value}{n:cU}(gn:h.get nb=some (.cells (bH e v n) (some 0)))(gq:h.get qb=some (.cells [.int .u8 (q:Int)] (some 0)))(ln:nb<h.next)(lq:qb<h.next)(m:Msg):
 ∃h',CI D 33 [.agg ⟨aR m⟩,aB nb,aB qb] h=some (.bool (decide (n.msg=eG m q true)),h')∧Ext h h':=by
 have k2:=k3.k2;obtain⟨h1,hh1⟩:∃h1,h1=h.push (.cells (aR m) (some 0)):=⟨_,rfl⟩;have e1:A.box 4 (.agg ⟨aR m⟩) h=some (aB h.next,h1):=by rw[hh1];rfl
 have x1:Ext h h1:=by rw[hh1];exact Ext.push h _
 have g1:h1.get h.next=some (.cells (aR m) (some 0)):=by rw[hh1,H.get_push,kB rfl]
 have lm:A.load true 4 (aB h.next) h1=some (.agg ⟨aR m⟩):=by rw[aV,g1];rfl
 have l28:A.load true 4 (.pointer (some ⟨nb,28,none⟩)) h1=some (.agg ⟨aR n.msg⟩):=by rw[aV,x1.get _ ln,gn];rfl
 have lq':A.load false 1 (aB qb) h1=some (.int .u8 (q:Int)):=by rw[qK,x1.get _ lq,gq];rfl
 obtain⟨h2,e31,x2⟩:=T31 k2 (h:=h1) m q true;have l28':A.load true 4 (.pointer (some ⟨nb,28,none⟩)) h2=some (.agg ⟨aR n.msg⟩):=by rw[aV,x2.get _ (by have:=x1.next;omega),x1.get _ ln,gn];rfl
 have ck:AM.chk (bnd (A.load true 4 (.pointer (some ⟨nb,28,none⟩)) h2) fun v=>some v) (.agg ⟨aR n.msg⟩)=true:=gU (by rw[l28'];rfl) (yT n.msg);refine⟨h2,bFh 0 _ _ _ h (k2.no 33 _ _ (by decide)) ?_,x1.trans x2⟩;simp only[F33,aWp,e1,RaK.S,Nat.zero_add,l28,lm,lq',e31,ck,Bool.and_true,aYh]
theorem bLs {nb qb q:Nat}{e:Nat→Value}{v:Value}{n:cU}{x0:Value}{ms:List Msg}(hms:ms.length≤2^40)(kr:Pk.K1 (Value×H))(kx:Pk.K0 (Value×H)){L:Nat}:
 ∀(d i m:Nat) (h:H),i+d=ms.length→d<m→h.get nb=some (.cells (bH e v n) (some 0))→h.get qb=some (.cells [.int .u8 (q:Int)] (some 0))→nb<h.next→qb<h.next→SliceE 4 h x0 (ms.map aR)→
  ∃h',Ext h h'∧((((ms.drop i).any fun m=>decide (n.msg=eG m q true))=false∧xR (CI D) L kr kx m (.int .i64 (ms.length:Int)) (.int .i64 (i:Int)) x0 (.func (.func 33) ⟨[]⟩ ⟨[aB nb,aB qb]⟩) h=kx h')∨
   (((ms.drop i).any fun m=>decide (n.msg=eG m q true))=true∧∃j:Nat,xR (CI D) L kr kx m (.int .i64 (ms.length:Int)) (.int .i64 (i:Int)) x0 (.func (.func 33) ⟨[]⟩ ⟨[aB nb,aB qb]⟩) h=kr (.int .i64 (j:Int)) h')):=by
 intro d
 induction d with
 |zero=>
  intro i m h hi hm _ _ _ _ _;obtain⟨m,rfl⟩:∃r,m=r+1:=⟨m-1,by omega⟩;have hd:decide ((i:Int)<(ms.length:Int))=false:=kD (by omega);refine⟨h,Ext.refl h,.inl ⟨by rw[pM (by omega)];rfl,?_⟩⟩;simp only[xR,aIo,zZ,hd,RaK.S]
 |succ d ih=>
  intro i m h hi hm gn gq ln lq sx;obtain⟨m,rfl⟩:∃r,m=r+1:=⟨m-1,by omega⟩;have hd:decide ((i:Int)<(ms.length:Int))=true:=kC (by omega);obtain⟨y,hy⟩:∃y,ms[i]?=some y:=⟨_,kN (by omega)⟩;obtain⟨off,qq,ei,lm⟩:=aIj k3 sx hy;obtain⟨h1,e33,x1⟩:=T33 k3 gn gq ln lq y;have e33:callM prog (CI D) (.func (.func 33) ⟨[]⟩ ⟨[aB nb,aB qb]⟩) [.agg ⟨aR y⟩] h=_:=e33;have w2:A.zA prog .add 3 (.int .i64 (i:Int)) (.int .i64 1)=some (.int .i64 ((i+1:Nat):Int)):=by rw[bG,aS (by omega)]
  rw[show ms.drop i=y::ms.drop (i+1)from bT hy,List.any_cons]
  cases hb:decide (n.msg=eG y q true)with
  |true=>
   rw[hb]at e33;refine⟨h1,x1,.inr ⟨rfl,i,?_⟩⟩;simp only[xR,aIo,zZ,hd,RaK.S,ei,lm,e33]
  |false=>
   rw[hb]at e33;obtain⟨h',x',r⟩:=ih (i+1) m h1 (by omega) (by omega) (by rw[x1.get _ ln];exact gn) (by rw[x1.get _ lq];exact gq) (kH ln x1.next) (kH lq x1.next) (sx.ext x1);refine⟨h',x1.trans x',?_⟩;rw[Bool.false_or];rcases r with⟨r1,r2⟩|⟨r1,j,r2⟩
   ·exact .inl ⟨r1,by simp only[xR,aIo,zZ,hd,RaK.S,ei,lm,e33,w2,r2]⟩
   ·exact .inr ⟨r1,j,by simp only[xR,aIo,zZ,hd,RaK.S,ei,lm,e33,w2,r2]⟩
theorem T34 {h:H}{nb qb q:Nat}{e:Nat→Value}{v:Value}{n:cU}{x0:Value}{ms:List Msg}(hms:ms.length≤2^40)(gn:h.get nb=some (.cells (bH e v n) (some 0)))(gq:h.get qb=some (.cells [.int .u8 (q:Int)] (some 0)))(ln:nb<h.next)(lq:qb<h.next)(sx:SliceE 4 h x0 (ms.map aR)):
 ∃h',CI D 34 [x0,.func (.func 33) ⟨[]⟩ ⟨[aB nb,aB qb]⟩] h=some (.bool (ms.any fun m=>decide (n.msg=eG m q true)),h')∧Ext h h':=by
 have k2:=k3.k2;have lx:A.zH x0=some (.int .i64 (ms.length:Int)):=by have:=sx.len.1;rwa [pA]at this
 obtain⟨h',x',r⟩:=bLs k3 (L:=ms.length+1) hms (fun x2 h=>some (x2,h)) (fun h=>aMf h fun x2 h=>some (x2,h)) ms.length 0 (ms.length+1) h (by omega) (by omega) gn gq ln lq sx;rw[List.drop_zero]at r;refine⟨h',bFg 0 _ _ h (k2.no 34 _ _ (by decide)) ?_,x'⟩;rcases r with⟨r1,r2⟩|⟨r1,j,r2⟩
 ·have r2:xR (CI D) _ (fun x2 h=>some (x2,h)) (fun h=>aMf h fun x2 h=>some (x2,h)) _ (.int .i64 (ms.length:Int)) (.int .i64 0) x0 _ h=_:=r2;have e48:CI D 48 [x0,.func (.func 33) ⟨[]⟩ ⟨[aB nb,aB qb]⟩] h=some (.int .i64 (-1),h'):=aOm (ms.length+1) _ _ h (k2.no 48 _ _ (by decide)) (by
   simp only[F48,aNp,aUa,aNc,aTz,lx,RaK.S,r2];simp only[aMf])
  rw[r1];simp only[F34,aRi,e48,RaK.S,gD];rfl
 ·have r2:xR (CI D) _ (fun x2 h=>some (x2,h)) (fun h=>aMf h fun x2 h=>some (x2,h)) _ (.int .i64 (ms.length:Int)) (.int .i64 0) x0 _ h=_:=r2;have e48:CI D 48 [x0,.func (.func 33) ⟨[]⟩ ⟨[aB nb,aB qb]⟩] h=some (.int .i64 (j:Int),h'):=aOm (ms.length+1) _ _ h (k2.no 48 _ _ (by decide)) (by
   simp only[F48,aNp,aUa,aNc,aTz,lx,RaK.S,r2])
  rw[r1];have d0:decide ((0:Int)≤(j:Int))=true:=kC (by omega);simp only[F34,aRi,e48,RaK.S,gD,d0]
theorem T22 {B h:H}{nm:Col→Nat}{s:St}{a K:Nat}(hT:HasT T0 B)(hB3:3≤B.next)(r:Rep B h nm s a)(hB:Ext B h)(inv:InvS K s)(hK:K≤2^40)(e:Nat→Value)(v:Value)(n:cU):
 ∃h' v',CI D 22 [aB (nm .chk),cD e v n] h=some (v',h')∧eL B (nm .chk) a h (eA tak s n) v' h':=by
 have k2:=k3.k2;obtain⟨h1,hh1⟩:∃h1,h1=h.push (.cells (bH e v n) (some 0)):=⟨_,rfl⟩;have e1:A.box 35 (cD e v n) h=some (aB h.next,h1):=by rw[hh1];rfl
 have x1:Ext h h1:=by rw[hh1];exact Ext.push h _
 have n1:h1.next=h.next+1:=by rw[hh1];rfl
 have g1:h1.get h.next=some (.cells (bH e v n) (some 0)):=by rw[hh1,H.get_push,kB rfl]
 have r1:=r.ext hB.next x1;have hB1:=hB.trans x1;have c2:=ld k2 (r1.ok .chk) 2 rfl;have n_1:=ld k2 g1 1 rfl;have n_3:=ld k2 g1 3 rfl;have n_28:=ld k2 g1 28 rfl;have lks:=aFh r1 n.op;have q:=fun L v' h'=>bFo L (aB (nm .chk)) (cD e v n) h (r:=(v',h')) (k2.no 22 _ _ (by decide));have post:∀{h2:H},Ext h h2→eA tak s n=(false,s)→eL B (nm .chk) a h (eA tak s n) (.bool false) h2:=fun x he=>⟨by rw[he],⟨nm,rfl,by rw[he];exact r.ext hB.next x⟩,hB.trans x,x.next⟩
 cases hb:aE s.subs n.op with
 |none=>
  rw[hb]at lks;have n0:A.zA prog .eql 58 (.pointer none) (.pointer none)=some (.bool true):=by kernel_rfl
  refine⟨h1,.bool false,q 0 _ _ ?_,post x1 (by simp only[eA,hb])⟩;simp only[F22,aCs,aFv,aCq,aFu,aFt,e1,RaK.S,Nat.zero_add,c2,n_1,show RaI.Z58=.pointer none from rfl,lks,Option.map_none,fD,n0]
 |some b=>
  rw[hb]at lks;have n0:=tE (t:=58) (by kernel_rfl) (nm (.sb n.op));have gb:=r1.ok (.sb n.op) b hb;have b2:=ld k2 gb 2 rfl;have b0:=ld k2 gb 0 rfl;have b8:=ld k2 gb 8 rfl;have b7:=ld k2 gb 7 rfl;have cne:A.zA prog .neq 9 (str n.client) (str b.client)=_:=rS n.client b.client;have cle:=bMc n.msg.topic b.last;have first:(b.open_=false∨n.client≠b.client∨(b.some_=true∧n.msg.topic≤b.last))→∃h' v',CI D 22 [aB (nm .chk),cD e v n] h=some (v',h')∧eL B (nm .chk) a h (eA tak s n) v' h':=fun hc=>by
   refine⟨h1,.bool false,q 0 _ _ ?_,post x1 (by simp only[eA,hb,kB hc])⟩
   cases ho:b.open_ with
   |false=>
    rw[ho]at b2;simp only[F22,aCs,aFv,aCq,aFu,aFt,e1,RaK.S,Nat.zero_add,c2,n_1,show RaI.Z58=.pointer none from rfl,lks,Option.map_some,fD,n0,b2]
   |true=>
    rw[ho]at b2;by_cases hcl:n.client=b.client
    ·rw[kC hcl]at cne;have hs:b.some_=true∧n.msg.topic≤b.last:=by
      rcases hc with h|h|h
      ·rw[ho]at h;cases h
      ·exact absurd hcl h
      ·exact h
     rw[hs.1]at b8;rw[kC hs.2]at cle;simp only[F22,aCs,aFv,aCq,aFu,aFt,e1,RaK.S,Nat.zero_add,Nat.add_zero,c2,n_1,show RaI.Z58=.pointer none from rfl,lks,Option.map_some,fD,n0,b2,n_3,b0,cne,b8,n_28,b7,cle]
    ·rw[kD hcl]at cne;simp only[F22,aCs,aFv,aCq,aFu,aFt,e1,RaK.S,Nat.zero_add,c2,n_1,show RaI.Z58=.pointer none from rfl,lks,Option.map_some,fD,n0,b2,n_3,b0,cne]
  by_cases hc:(b.open_=false∨n.client≠b.client∨(b.some_=true∧n.msg.topic≤b.last))
  ·exact first hc
  have ho:b.open_=true:=by cases h:b.open_ with|true=>rfl|false=>exact absurd (.inl h) hc
  have hcl:n.client=b.client:=Classical.byContradiction fun h=>hc (.inr (.inl h));have hsl:¬(b.some_=true∧n.msg.topic≤b.last):=fun h=>hc (.inr (.inr h));rw[ho]at b2;rw[kC hcl]at cne;have hd:=inv.opn n.op b hb ho;have b3:A.load false 1 (.pointer (some ⟨nm (.sb n.op),3,none⟩)) h1=some (aB (nm (.flst n.op))):=ld k2 gb 3 (by simp[mR,hd]);obtain⟨h16,vv,lr,_⟩:=r1.ok (.flst n.op) b hb hd;obtain⟨h2,e32,x2⟩:=T32 k2 (hT.ext k2.tab hB3 hB1) (kG hB3 hB1.next) h16 lr n.msg.topic;obtain⟨best,hbest⟩:∃best,best=eV tak b.filters n.msg.topic:=⟨_,rfl⟩;rw[←hbest]at e32;obtain⟨h3,hh3⟩:∃h3,h3=h2.push (.cells RaI.Z5L (some 0)):=⟨_,rfl⟩;have e3:A.box 1 RaI.Z5 h2=some (aB h2.next,h3):=by rw[hh3];rfl
  have g3:h3.get h2.next=some (.cells RaI.Z5L (some 0)):=by rw[hh3,H.get_push,kB rfl]
  obtain⟨h4,hh4⟩:∃h4,h4=h3.put h2.next (.cells [.int .u8 (best.1:Int)] (some 0)):=⟨_,rfl⟩;have e4:A.store 1 (aB h2.next) (.int .u8 (best.1:Int)) h3=some h4:=by rw[qU,g3,hh4];rfl
  have g4:h4.get h2.next=some (.cells [.int .u8 (best.1:Int)] (some 0)):=by rw[hh4,H.get_put,kB rfl]
  have x24:Ext h2 h4:=by rw[hh4,hh3];exact Ext.put (Ext.push h2 _) _ _ (kF _)
  have n4:h4.next=h2.next+1:=by rw[hh4,hh3];rfl
  have x14:=x2.trans x24;have x4:=x1.trans x14;have nx2:=x2.next;have r4:=r.ext hB.next x4;have gn4:h4.get h.next=some (.cells (bH e v n) (some 0)):=by rw[x14.get _ (by omega)];exact g1
  have m_34:=ld k2 gn4 34 rfl;have m_30:=ld k2 gn4 30 rfl;have m_28:=ld k2 gn4 28 rfl;have gb4:=r4.ok (.sb n.op) b hb;have f4:=ld k2 gb4 4 rfl;have t0:A.zB 0 (.tuple ⟨[.int .u8 (best.1:Int),.bool best.2]⟩)=some (.int .u8 (best.1:Int)):=rfl;have t1:A.zB 1 (.tuple ⟨[.int .u8 (best.1:Int),.bool best.2]⟩)=some (.bool best.2):=rfl;have front:∀L,F22 (CI D) L (aB (nm .chk)) (cD e v n) h=aEz (CI D) h4 (aB h.next) (aB (nm (.sb n.op))) (.bool best.2) (.func (.func 33) ⟨[]⟩ ⟨[aB h.next,aB h2.next]⟩) (fun x4 h=>some (x4,h)) (fun x3 x5 h=>aUr h x3 x5 fun x5 h=>aUq h x5 fun x4 h=>some (x4,h)):=fun L=>by
   cases hs:b.some_ with
   |false=>
    rw[hs]at b8;simp only[F22,aCs,aFv,aCq,aFu,aFt,aUs,e1,RaK.S,Nat.zero_add,Nat.add_zero,c2,n_1,show RaI.Z58=.pointer none from rfl,lks,Option.map_some,fD,n0,b2,n_3,b0,cne,b8,b3,n_28,e32,t0,t1,e3,e4]
   |true=>
    rw[hs]at b8;have hle:¬n.msg.topic≤b.last:=fun h=>hsl ⟨hs,h⟩;rw[kD hle]at cle;simp only[F22,aCs,aFv,aCq,aFu,aFt,aUs,e1,RaK.S,Nat.zero_add,Nat.add_zero,c2,n_1,show RaI.Z58=.pointer none from rfl,lks,Option.map_some,fD,n0,b2,n_3,b0,cne,b8,n_28,b7,cle,b3,e32,t0,t1,e3,e4]
  cases hb2:best.2 with
  |false=>
   rw[hb2]at front;refine⟨h4,.bool false,q 0 _ _ ?_,post x4 ?_⟩
   ·rw[front];simp only[aEz,aMl,aMk,RaK.S]
   ·simp only[eA,hb,kA hc,←hbest,hb2,true_or,if_true]
  |true=>
   rw[hb2]at front;by_cases hq:n.qos=n.msg.qos
   case neg=>
    have dq:decide ((n.qos:Int)=(n.msg.qos:Int))=false:=kD (by omega);refine⟨h4,.bool false,q 0 _ _ ?_,post x4 ?_⟩
    ·rw[front];simp only[aEz,aMl,aMk,RaK.S,m_34,Nat.add_zero,m_30,bP,dq]
    ·simp only[eA,hb,kA hc,←hbest,kB (show best.2=false∨n.qos≠n.msg.qos∨_ from .inr (.inl hq))]
   have dq:decide ((n.qos:Int)=(n.msg.qos:Int))=true:=kC (by omega);obtain⟨mv,mp,hmv⟩:=r4.ok (.past n.op) b hb;have lk:=uI mp RaI.Z71 false n.msg.topic;rw[fR (fun t (_:List Msg)=>mv t)]at lk;obtain⟨ms,hms⟩:∃ms,ms=(aE b.past n.msg.topic).getD []:=⟨_,rfl⟩;obtain⟨x0,lk,sx,hl⟩:∃x0,A.zE true RaI.Z71 false (str n.msg.topic) (aP (nm (.past n.op))) h4=some x0∧SliceE 4 h4 x0 (ms.map aR)∧ms.length≤2^40:=by
    cases hp:aE b.past n.msg.topic with
    |none=>
     rw[hp]at lk hms;exact⟨gF,lk,by rw[hms];exact⟨by simp,.inl ⟨rfl,rfl⟩⟩,by rw[hms];simp⟩
    |some l=>
     rw[hp]at lk hms;exact⟨mv n.msg.topic,lk,by rw[hms];exact(hmv _ _ hp).1.slice,by rw[hms];exact kG (inv.past _ _ _ _ hb hp) hK⟩
   obtain⟨h5,e34,x5⟩:=T34 k3 (q:=best.1) hl gn4 g4 (by omega) (by omega) sx;have x05:=x4.trans x5;rw[hms]at e34
   cases han:((aE b.past n.msg.topic).getD []).any fun m=>decide (n.msg=eG m best.1 true)with
   |false=>
    rw[han]at e34;refine⟨h5,.bool false,q 0 _ _ ?_,post x05 ?_⟩
    ·rw[front];simp only[aEz,aMl,aMk,RaK.S,m_34,Nat.add_zero,m_30,bP,dq,f4,m_28,lk,e34]
    ·simp only[eA,hb,kA hc,←hbest,han,or_true,if_true]
   |true=>
    rw[han]at e34;have r5:=r.ext hB.next x05;have hB5:=hB.trans x05;have gn5:h5.get h.next=some (.cells (bH e v n) (some 0)):=by rw[x5.get _ (by omega)];exact gn4
    have p28:=ld k2 gn5 28 rfl;have gb5:=r5.ok (.sb n.op) b hb;have lsb:=r5.lt (.sb n.op) ⟨b,hb⟩;have lgt:=r5.lt (.got n.op) ⟨b,hb⟩;obtain⟨h6,hh6⟩:∃h6,h6=h5.put (nm (.sb n.op)) (.cells (mR nm n.op {b with last:=n.msg.topic}) (some 0)):=⟨_,rfl⟩;have e6:A.store 1 (.pointer (some ⟨nm (.sb n.op),7,none⟩)) (str n.msg.topic) h5=some h6:=by rw[qU,gb5,hh6];rfl
    have g6:h6.get (nm (.sb n.op))=some (.cells (mR nm n.op {b with last:=n.msg.topic}) (some 0)):=by rw[hh6,H.get_put,kB rfl]
    obtain⟨h7,hh7⟩:∃h7,h7=h6.put (nm (.sb n.op)) (.cells (mR nm n.op {b with last:=n.msg.topic,some_:=true}) (some 0)):=⟨_,rfl⟩;have e7:A.store 1 (.pointer (some ⟨nm (.sb n.op),8,none⟩)) (.bool true) h6=some h7:=by rw[qU,g6,hh7];rfl
    have g7:h7.get (nm (.sb n.op))=some (.cells (mR nm n.op {b with last:=n.msg.topic,some_:=true}) (some 0)):=by rw[hh7,H.get_put,kB rfl]
    have f6:=ld k2 g7 6 rfl;have f7:=ld k2 g7 7 rfl;have ne:nm (.got n.op)≠nm (.sb n.op):=fun e=>by have:=r5.inj (.got n.op) (.sb n.op) ⟨b,hb⟩ ⟨b,hb⟩ e;cases this
    have o7:∀j,j≠nm (.sb n.op)→h7.get j=h5.get j:=fun j hj=>by rw[hh7,H.get_put,kA hj,hh6,H.get_put,kA hj]
    have b74:A.zN RaI.Z74L []=some dI:=rfl;obtain⟨h8,u8',m8,a8⟩:=aEm ((r5.ok (.got n.op) b hb).congr (o7 _ ne)) n.msg.topic dI;rw[gH]at m8;have n8:h8.next=h5.next:=by rw[a8.1,hh7,hh6];rfl
    have o8:∀j,j≠nm (.sb n.op)→j≠nm (.got n.op)→h8.get j=h5.get j:=fun j h1 h2=>by rw[a8.2 _ h2,o7 _ h1]
    have sv:eA tak s n=(true,{s with subs:=aL s.subs n.op {b with last:=n.msg.topic,some_:=true,got:=lR b.got n.msg.topic}}):=by
     have:¬(best.2=false∨n.qos≠n.msg.qos∨(((aE b.past n.msg.topic).getD []).any fun m=>decide (n.msg=eG m best.1 true))=false):=by
      rintro(h|h|h)
      ·rw[hb2]at h;cases h
      ·exact h hq
      ·rw[han]at h;cases h
     simp only[eA,hb,kA hc,←hbest,kA this]
    refine⟨h8,.bool true,q 0 _ _ ?_,by rw[sv],⟨nm,rfl,?_⟩,⟨by rw[n8];exact hB5.next,fun j hj=>by rw[o8 j (by omega) (by omega)];exact hB5.get j hj⟩,by rw[n8];exact x05.next⟩
    ·rw[front];simp only[aEz,aMl,aMk,aUr,aUq,RaK.S,m_34,Nat.add_zero,Nat.zero_add,m_30,bP,dq,f4,m_28,lk,e34,p28,e6,e7,f6,f7,b74,u8']
    ·rw[sv];refine r5.sub hB5.next hb (by rw[n8];exact kF _) (fun C=>C=.sb n.op∨C=.got n.op) (fun C h=>h) (fun C hl hn=>o8 _ (fun e=>hn (.inl (r5.inj _ _ hl ⟨b,hb⟩ e))) fun e=>hn (.inr (r5.inj _ _ hl ⟨b,hb⟩ e))) ⟨rfl,rfl,rfl,rfl⟩ (fun h=>absurd (.inl rfl) h) (fun h=>absurd (.inr rfl) h) (fun _=>?_) (fun _=>m8);rw[a8.2 _ (Ne.symm ne),g7];rfl
end
end Go.Proofs.YtpanfoafajepcaaGreatDoor.Ra

set_option maxRecDepth 100000
namespace Go.Proofs.YtpanfoafajepcaaGreatDoor.Ra
open Tryz (prog)
open Go Go.AM RaA RaI RaW RaX RaY
open _root_.Ra
theorem gI {κ α:Type}[DecidableEq κ](f:κ×α→α)(o:κ):∀l:List (κ×α),aE (l.map fun x=>(x.1,f x)) o=(aE l o).map fun p=>f (o,p)
 |[]=>rfl
 |(k,a)::r=>by
  simp only[List.map_cons,aE];split
  ·rename_i e;subst e;rfl
  ·exact gI f o r
theorem nQ {κ α:Type}[DecidableEq κ]{f g:κ×α→α}{o:κ}{v:α}:∀{l:List (κ×α)},(l.map (·.1)).Nodup→(∃x∈l,x.1=o)→(∀x∈l,x.1≠o→f x=g x)→(∀x∈l,x.1=o→g x=v)→aL (l.map fun x=>(x.1,f x)) o v=l.map fun x=>(x.1,g x)
 |[],_,h,_,_=>by obtain⟨_,h,_⟩:=h;cases h
 |(k,a)::r,hn,hx,h1,h2=>by
  simp only[List.map_cons,List.nodup_cons]at hn;simp only[List.map_cons,aL];by_cases e:k=o
  ·rw[kB e,h2 (k,a) List.mem_cons_self e];congr 1;exact List.map_congr_left fun x hx=>by rw[h1 x (List.mem_cons_of_mem _ hx) fun he=>hn.1 (by rw[e,←he];exact List.mem_map_of_mem (f:=(·.1)) hx)]
  ·rw[kA e,h1 (k,a) List.mem_cons_self e];congr 1;refine nQ hn.2 ?_ (fun x hx=>h1 x (List.mem_cons_of_mem _ hx)) fun x hx=>h2 x (List.mem_cons_of_mem _ hx);obtain⟨x,hx,hxo⟩:=hx;rcases List.mem_cons.1 hx with rfl|hx
   ·exact absurd hxo e
   ·exact⟨x,hx,hxo⟩
def stp (tak:Bs→Bs→Bool)(s:St)(c:Bs)(sk:List Int):St:={s with pubs:=s.pubs.map fun x=>(x.1,if x.1∈sk then eU tak s c x.2 else x.2)}
theorem aKi (tak:Bs→Bs→Bool)(s:St)(c:Bs):stp tak s c []=s:=by
 unfold stp;have:(s.pubs.map fun x=>(x.1,if x.1∈([]:List Int)then eU tak s c x.2 else x.2))=s.pubs:=by
  conv=>rhs;rw[←List.map_id s.pubs]
  exact List.map_congr_left fun x _=>by simp
 rw[this]
theorem aKj {tak:Bs→Bs→Bool}{s:St}{c:Bs}{sk:List Int}{o:Int}{p:Pub}(hp:aE s.pubs o=some p)(ho:o∉sk):aE (stp tak s c sk).pubs o=some p:=by
 have:=gI (fun x:Int×Pub=>if x.1∈sk then eU tak s c x.2 else x.2) o s.pubs
 rw[hp]at this;exact this.trans (by simp[ho])
theorem aGw {tak:Bs→Bs→Bool}{s:St}{c:Bs}{sk:List Int}{o:Int}{p:Pub}(hk:(s.pubs.map (·.1)).Nodup)(hp:aE s.pubs o=some p):{stp tak s c sk with pubs:=aL (stp tak s c sk).pubs o (eU tak s c p)}=stp tak s c (sk++[o]):=by
 have:=nQ (f:=fun x:Int×Pub=>if x.1∈sk then eU tak s c x.2 else x.2) (g:=fun x:Int×Pub=>if x.1∈sk++[o]then eU tak s c x.2 else x.2) (o:=o) (v:=eU tak s c p) hk ⟨(o,p),sE hp,rfl⟩ (fun x hx hne=>by simp[hne]) (fun x hx he=>by
  obtain⟨k,y⟩:=x;simp only at he;subst he;have:=eI hk hx;rw[hp]at this;cases this;simp)
 simp only[stp,this]
theorem aDe {tak:Bs→Bs→Bool}{s:St}{c:Bs}{sk:List Int}(h:∀x∈s.pubs,x.1∈sk):stp tak s c sk={s with pubs:=s.pubs.map fun x=>(x.1,eU tak s c x.2)}:=by
 unfold stp;have:(s.pubs.map fun x=>(x.1,if x.1∈sk then eU tak s c x.2 else x.2))=s.pubs.map fun x=>(x.1,eU tak s c x.2):=List.map_congr_left fun x hx=>by rw[kB (h x hx)]
 rw[this]
theorem xX {tak:Bs→Bs→Bool}{s:St}{c:Bs}{sk:List Int}{nm:Col→Nat}(C:Col):live (stp tak s c sk) nm C↔live s nm C:=by
 have:∀o,(∃x,aE (stp tak s c sk).pubs o=some x)↔∃x,aE s.pubs o=some x:=fun o=>by
  have:=gI (fun x:Int×Pub=>if x.1∈sk then eU tak s c x.2 else x.2) o s.pubs
  have e:aE (stp tak s c sk).pubs o=_:=this;rw[e];cases aE s.pubs o<;>simp
 cases C<;>first|exact Iff.rfl|exact this _
section
variable {D:CF}{T0:H}{fil nam:Bs→Bool}{tak:Bs→Bs→Bool}(k3:K3 D T0 fil nam tak){B:H}{a:Nat}{dm:Pw.Dm}{rl:Pw.Rl}
include k3
theorem aYb (hT:HasT T0 B)(hB3:3≤B.next){hb:H}{nm:Col→Nat}{s:St}(r:Rep B hb nm s a)(hB:Ext B hb){e:Nat→Value}{v x5:Value}{n:cU}{x3 it:Nat}(hx3:∀C,live s nm C→nm C≠x3)(lx3:x3<it)(hit:hb.next≤it)
 (kx:Pk.K3 Unit) (k1:∀h2,Rep B h2 nm {s with pubs:=s.pubs.map fun x=>(x.1,eU tak s n.client x.2)} a→Ext B h2→h2.get x3=some (.cells (bH e v n) (some 0))→hb.next≤h2.next→it<h2.next→kx (aB (nm .chk)) (aB x3) x5 h2=some ())
 {L:Nat} {h2:H} {m:Nat} (hm:s.pubs.length<m) (i0:ItK h2 it (nm .pubs) jQ (s.pubs.map fun x=>(x.1,aB (nm (.pub x.1)))) []) (x0:Ext hb h2) (g0:h2.get x3=some (.cells (bH e v n) (some 0))) (hi2:it<h2.next):
 aJb (CI D) L dm rl kx m (aB it) (aB (nm .chk)) (aB x3) x5 h2=some ():=by
 have k2:=k3.k2;have lpubs:=(r.lt .pubs trivial);have nm_it:∀C,live s nm C→nm C≠it:=fun C hC e=>by have:=(r.lt C hC).2;omega
 refine gR (W:=fun n (_:Unit) h=>aJb (CI D) L dm rl kx n (aB it) (aB (nm .chk)) (aB x3) x5 h) (I:=fun sk _ h2=>Rep B h2 nm (stp tak s n.client sk) a∧Ext B h2∧h2.get x3=some (.cells (bH e v n) (some 0))∧it<h2.next∧hb.next≤h2.next) (by omega) (fun n s h hh=>by simp only[aJb,aVd];exact hh) ?_ ?_ s.pubs.length [] () h2 m List.nodup_nil (by simp) (by simp) hm i0 ⟨by rw[aKi];exact r.ext hB.next x0,hB.trans x0,g0,hi2,x0.next⟩
 ·intro k sk _ h2 i2 it2 y hy hys h3 a3 i3 e3 next
  obtain⟨r2,hB2,gn2,hit2,hn2⟩:=i2;simp only[List.mem_map]at hy;obtain⟨⟨o,p⟩,hmem,rfl⟩:=hy;have hp:=eI r.keysP hmem;have hys:o∉sk:=hys;have hp2:=aKj (tak:=tak) (c:=n.client) hp hys;have lv:∀C,live (stp tak s n.client sk) nm C↔live s nm C:=xX;have e3:A.zT (aB it) h3=some (.tuple ⟨[.int .i64 o,aB (nm (.pub o))]⟩):=e3;have r3:Rep B h3 nm (stp tak s n.client sk) a:=r2.frame hB2.next (by rw[a3.1];exact kF _) fun C hC=>a3.2 _ (nm_it C ((lv C).1 hC));have hB3':Ext B h3:=a3.ext hB2 (by have:=r.lt .pubs trivial;omega);have gn3:h3.get x3=some (.cells (bH e v n) (some 0)):=by rw[a3.2 _ (by omega)];exact gn2
  have c0:=ld k2 (r3.ok .chk) 0 rfl;have n_3:=ld k2 gn3 3 rfl;have gp:=r3.ok (.pub o) p hp2;have p1:=ld k2 gp 1 rfl;obtain⟨h4,e27,x4⟩:=T27 k2 hT hB3 hB3' r3 n.client p.msg.topic;obtain⟨best,hbest⟩:∃best,best=cG tak s n.client p.msg.topic:=⟨_,rfl⟩;rw[show cG tak (stp tak s n.client sk) n.client p.msg.topic=best from hbest.symm]at e27;have n34:=x4.next;have n3it:it<h3.next:=by rw[a3.1];exact hit2
  have r4:=r3.ext hB3'.next x4;have hB4:=hB3'.trans x4;have gn4:h4.get x3=some (.cells (bH e v n) (some 0)):=by rw[x4.get _ (by omega)];exact gn3
  have nn4:hb.next≤h4.next:=by have:=a3.1;omega
  have hh:eU tak s n.client p=if best.2 then p else{p with holds:=p.holds.erase n.client}:=by rw[hbest];rfl
  have snoc:=aGw (tak:=tak) (c:=n.client) (sk:=sk) r.keysP hp;have i4:ItK h4 it (nm .pubs) jQ (s.pubs.map fun x=>(x.1,aB (nm (.pub x.1)))) (sk++[o]):=i3.congr (x4.get _ n3it) (x4.get _ (by have:=(r3.lt .pubs trivial).2;omega))
  cases hb2:best.2 with
  |true=>
   rw[hb2]at e27 hh;simp only[if_true]at hh;rw[hh,eO hp2]at snoc;have nx:=next () h4 ⟨by rw[←show stp tak s n.client sk=stp tak s n.client (sk++[o])from snoc];exact r4,hB4,gn4,by omega,nn4⟩ i4
   simp only[aCt,qG,qH,RaK.S,aPt,aPs,aPr,e3,c0,n_3,p1,Nat.zero_add,Nat.add_zero,e27];exact nx
  |false=>
   rw[hb2]at e27 hh;simp only[pB,if_false]at hh;rw[hh]at snoc;have gp4:=r4.ok (.pub o) p hp2;have p7:=ld k2 gp4 7 rfl;have n_3':=ld k2 gn4 3 rfl;have lh:=r.lt (.holds o) ⟨p,hp⟩;obtain⟨h5,u5,m5,a5⟩:=aRo (r4.ok (.holds o) p hp2) n.client;rw[nV]at m5;have hne:x3≠nm (.holds o):=fun e=>hx3 (.holds o) ⟨p,hp⟩ e.symm;have r5:Rep B h5 nm (stp tak s n.client (sk++[o])) a:=by
    rw[←snoc];exact r4.pub hB4.next hp2 (by rw[a5.1];exact kF _) (fun C=>C=.holds o) (fun C h=>.inr (.inl h)) (fun C hl hne=>a5.2 _ fun e=>hne (r4.inj _ _ hl ((lv _).2 ⟨p,hp⟩) e)) (fun _=>⟨rfl,rfl,rfl,rfl⟩) (fun h=>absurd rfl h) (fun _=>rfl) (fun e=>by cases e) (fun _=>m5) (fun e=>by cases e)
   have nx:=next () h5 ⟨r5,a5.ext hB4 lh.1,by rw[a5.2 _ hne];exact gn4,by rw[a5.1];omega,by rw[a5.1];exact nn4⟩ (i4.congr (a5.2 _ fun e=>nm_it (.holds o) ⟨p,hp⟩ e.symm) (a5.2 _ fun e=>by have:=r.inj .pubs (.holds o) trivial ⟨p,hp⟩ e;cases this))
   simp only[aCt,qG,qH,RaK.S,aPt,aPs,aPr,e3,c0,n_3,p1,Nat.zero_add,Nat.add_zero,e27,p7,n_3',u5];exact nx
 ·intro k sk _ h2 i2 all hsub hnd;obtain⟨r2,hB2,gn2,hit2,hn2⟩:=i2;simp only[aJm,RaK.S];refine k1 h2 ?_ hB2 gn2 hn2 hit2;rw[aDe fun x hx=>all (x.1,aB (nm (.pub x.1))) (List.mem_map_of_mem (f:=fun x:Int×Pub=>(x.1,aB (nm (.pub x.1)))) hx)]at r2;exact r2
end
end Go.Proofs.YtpanfoafajepcaaGreatDoor.Ra

set_option maxRecDepth 100000
namespace Go.Proofs.YtpanfoafajepcaaGreatDoor.Ra
open Tryz (prog)
open Go Go.AM RaA RaI RaW RaX RaY
open _root_.Ra
def nmF (nm:Col→Nat)(o:Int)(rr:Nat):Col→Nat:=fun C=>if C=.frow o then rr else nm C
theorem aKu {nm:Col→Nat}{o:Int}{rr:Nat}(C:Col)(h:C≠.frow o):nmF nm o rr C=nm C:=kA h
theorem aSe (nm:Col→Nat)(o:Int)(rr:Nat):nmF nm o rr (.frow o)=rr:=kB rfl
theorem Rep.frow {B h h':H}{nm:Col→Nat}{s:St}{a:Nat}(r:Rep B h nm s a)(hB:Ext B h){o:Int}{b:Sb}(hb:aE s.subs o=some b)(hd:b.done=true){v:Value}(lr:ListR h (nm (.flst o)) v b.filters)(hsv:∀i,sid v=some i→i=nm (.frow o)){r':Row}(lt:ListTo h (nm (.flst o)) v h' r')(h16:r'.length≤16):
 ∃nm',nm' .chk=nm .chk∧nm' (.sb o)=nm (.sb o)∧Rep B h' nm' {s with subs:=aL s.subs o {b with filters:=r'}} a∧Ext B h'∧h.next≤h'.next:=by
 obtain⟨v',lr',hsv',xb⟩:=lt;obtain⟨rr,hrr⟩:∃rr,rr=(sid v').getD (nm (.flst o)):=⟨_,rfl⟩;have off:∀C,C≠.frow o→nmF nm o rr C=nm C:=aKu;have at_:=aSe nm o rr;have lf:live s nm (.flst o):=⟨b,hb,hd⟩;have lv:∀i,sid v=some i→live s nm (.frow o):=fun i hi=>⟨⟨b,hb,hd⟩,fun e=>lr.ne (by rw[hi,hsv i hi,e])⟩;have touched:∀j,(j=nm (.flst o)∨sid v=some j)→∃C,live s nm C∧(C=.flst o∨C=.frow o)∧nm C=j:=fun j hj=>by
  rcases hj with rfl|hj
  ·exact⟨.flst o,lf,.inl rfl,rfl⟩
  ·exact⟨.frow o,lv j hj,.inr rfl,(hsv j hj).symm⟩
 have keep:∀C,live s nm C→C≠.flst o→C≠.frow o→h'.get (nm C)=h.get (nm C):=fun C hl h1 h2=>xb.get _ (r.lt C hl).2 fun e=>by
  obtain⟨C',g1,g2,g3⟩:=touched _ e;have:=r.inj C' C g1 hl g3;subst this;exact g2.elim h1 h2
 have hg:aE (aL s.subs o {b with filters:=r'}) o=some {b with filters:=r'}:=by rw[aD,kB rfl]
 have lead:∀C,atO o C→live {s with subs:=aL s.subs o {b with filters:=r'}} (nmF nm o rr) C→(C≠.frow o∧live s nm C)∨(C=.frow o∧rr≠nm (.flst o)):=fun C hC hl=>by
  rcases gK hC with rfl|rfl|rfl|rfl|rfl|rfl|⟨t,rfl⟩
  ·exact .inl ⟨by simp,b,hb⟩
  ·exact .inl ⟨by simp,lf⟩
  ·exact .inr ⟨rfl,fun e=>hl.2 (by rw[at_,off _ (by simp),e])⟩
  ·exact .inl ⟨by simp,b,hb⟩
  ·exact .inl ⟨by simp,b,hb⟩
  ·exact .inl ⟨by simp,b,hb⟩
  ·obtain⟨x,ms,hx,hm⟩:=hl;rw[hg]at hx;cases hx;exact .inl ⟨by simp,b,ms,hb,hm⟩
 have newrow:rr≠nm (.flst o)→(live s nm (.frow o)∧rr=nm (.frow o))∨(h.next≤rr∧rr<h'.next):=fun hne=>by
  cases hv:sid v' with
  |none=>rw[hv]at hrr;exact absurd hrr hne
  |some i=>
   rw[hv]at hrr;have hrr:rr=i:=hrr;rcases hsv' i hv with h1|h1
   ·exact .inl ⟨lv i h1,hrr.trans (hsv i h1)⟩
   ·exact .inr ⟨by rw[hrr];exact h1,by rw[hrr];exact lr'.row.lt i hv⟩
 refine⟨nmF nm o rr,off _ (by simp),off _ (by simp),?_,⟨kG hB.next xb.next,fun j hj=>?_⟩,xb.next⟩
 ·refine r.sub1 hB.next xb.next (fun d hd=>by rw[aD,kA (Ne.symm hd)]) (fun C hC=>off C fun e=>hC (by rw[e];exact rfl)) False (fun C hl hC _=>keep C hl (fun e=>hC (by rw[e];exact rfl)) fun e=>hC (by rw[e];exact rfl)) (fun _=>⟨cP hb,off _ (by simp)⟩) (fun h=>h.elim) (fun y hy=>?_) (fun C hC hl=>?_) (fun C C' hC hC' hl hl' hge he=>?_)
  ·rw[hg]at hy;cases hy;have e1:nmF nm o rr (.sb o)=nm (.sb o):=off _ (by simp);have e2:nmF nm o rr (.flst o)=nm (.flst o):=off _ (by simp);have e3:nmF nm o rr (.past o)=nm (.past o):=off _ (by simp);have e4:nmF nm o rr (.still o)=nm (.still o):=off _ (by simp);have e5:nmF nm o rr (.got o)=nm (.got o):=off _ (by simp);have k1:=keep (.sb o) ⟨b,hb⟩ (by simp) (by simp);have k2:=keep (.past o) ⟨b,hb⟩ (by simp) (by simp);have k3:=keep (.still o) ⟨b,hb⟩ (by simp) (by simp);have k4:=keep (.got o) ⟨b,hb⟩ (by simp) (by simp);refine⟨?_,fun _=>?_,?_,?_,?_⟩
   ·rw[e1,k1,r.ok (.sb o) b hb];simp only[mR,e2,e3,e4,e5]
   ·rw[e2,at_];exact⟨h16,v',lr',fun i hi=>by rw[hrr,hi];rfl⟩
   ·obtain⟨mv,m1,m2⟩:=r.ok (.past o) b hb;refine⟨mv,by rw[e3];exact m1.congr k2,fun t ms ht=>?_⟩;obtain⟨g1,g2⟩:=m2 t ms ht;have e6:nmF nm o rr (.msgs o t)=nm (.msgs o t):=off _ (by simp);exact⟨g1.but (S:=fun _=>False) xb.next fun i hi=>by rw[g2]at hi;cases hi;exact keep (.msgs o t) ⟨b,ms,hb,ht⟩ (by simp) (by simp),by rw[e6];exact g2⟩
   ·rw[e4];exact(r.ok (.still o) b hb).congr k3
   ·rw[e5];exact(r.ok (.got o) b hb).congr k4
  ·rcases lead C hC hl with⟨h1,h2⟩|⟨rfl,h2⟩
   ·exact .inl ⟨h2,off C h1⟩
   ·rw[at_];exact newrow h2
  ·have old:∀C,C≠.frow o→live s nm C→nmF nm o rr C<h.next:=fun C h1 h2=>by rw[off C h1];exact(r.lt C h2).2
   rcases lead C hC hl with⟨h1,h2⟩|⟨rfl,h2⟩
   ·have:=old C h1 h2;omega
   ·rcases lead C' hC' hl' with⟨h1,h2⟩|⟨rfl,h2⟩
    ·have:=old C' h1 h2;omega
    ·rfl
 ·rw[xb.get j (kH hj hB.next) fun e=>?_]
  ·exact hB.get j hj
  ·obtain⟨C',g1,_,g3⟩:=touched _ e;have:=(r.lt C' g1).1;omega
theorem tI (fil:Bs→Bool):∀(l r:Row),(gL fil r l).1.length=l.length
 |[],r=>rfl
 |x::l,r=>by simp[gL,tI fil l]
theorem oG (fil:Bs→Bool):∀(l r:Row),(∀y∈l,y.2<256)→∀c∈(gL fil r l).1,c<256
 |[],r,_,c,h=>by simp[gL]at h
 |x::l,r,hs,c,h=>by
  simp only[gL,pV]at h;rcases h with rfl|h
  ·exact rC fil x.1 (hs x (by simp))
  ·exact oG fil l _ (fun y hy=>hs y (by simp[hy])) c h
section
variable {D:CF}{T0:H}{fil nam:Bs→Bool}{tak:Bs→Bs→Bool}(k3:K3 D T0 fil nam tak){B:H}{a:Nat}{dm:Pw.Dm}{rl:Pw.Rl}
include k3
theorem aYa (hT:HasT T0 B)(hB3:3≤B.next){v:Value}{n:cU}(no:NoteOk B v n){codes:List Nat}(hc:codes.length=n.subs.length)(hcs:∀c∈codes,c<256)(kx:Pk.K0 Unit){p pc q:Nat}{o:Int}{L:Nat}{s0:St}{b0:Sb}{f0:Row}(hb0:b0.done=true)
 (k1:∀h' nm',nm' .chk=pc→Rep B h' nm' {s0 with subs:=aL s0.subs o {b0 with filters:=(n.subs.zip codes).foldl (fun r x=>if x.2<128 then(gE fil r x.1.1 x.1.2).2 else r) f0}} a→Ext B h'→p≤h'.next→kx h'=some ()):
 ∀(d i m:Nat) (h:H) (nm:Col→Nat) (f:Row),i+d=n.subs.length→d<m→Rep B h nm {s0 with subs:=aL s0.subs o {b0 with filters:=f}} a→Ext B h→nm .chk=pc→p≤h.next→nm (.sb o)=q→
  ((n.subs.zip codes).drop i).foldl (fun r x=>if x.2<128 then(gE fil r x.1.1 x.1.2).2 else r) f=(n.subs.zip codes).foldl (fun r x=>if x.2<128 then(gE fil r x.1.1 x.1.2).2 else r) f0→
  aEv (CI D) L dm rl kx m (.int .i64 (n.subs.length:Int)) (.int .i64 (i:Int)) (aB q) (str (codes.map UInt8.ofNat)) v h=some ():=by
 have k2:=k3.k2;intro d
 induction d with
 |zero=>
  intro i m h nm f hi hm r hB hpc hp hq hf;obtain⟨m,rfl⟩:∃r,m=r+1:=⟨m-1,by omega⟩;have hd:decide ((i:Int)<(n.subs.length:Int))=false:=kD (by omega);rw[pM (by rw[List.length_zip,hc];omega)]at hf;simp only[aEv,aMs,zZ,hd,RaK.S];refine k1 h nm hpc ?_ hB hp;rw[←hf];exact r
 |succ d ih=>
  intro i m h nm f hi hm r hB hpc hp hq hf;obtain⟨m,rfl⟩:∃r,m=r+1:=⟨m-1,by omega⟩;have hd:decide ((i:Int)<(n.subs.length:Int))=true:=kC (by omega);obtain⟨y,hy⟩:∃y,n.subs[i]?=some y:=⟨_,kN (by omega)⟩;obtain⟨c,hci⟩:∃c,codes[i]?=some c:=⟨_,kN (by omega)⟩;have hcl:=hcs c (List.mem_of_getElem? hci);have hz:(n.subs.zip codes)[i]?=some (y,c):=List.getElem?_zip_eq_some.2 ⟨hy,hci⟩;have hys:=no.small y (List.mem_of_getElem? hy);obtain⟨off,qq,ei,l2⟩:=nH k2 (no.subs.ext hB) hy;obtain⟨h1,h2,e1,e2,l0,l1,x2,lt⟩:=jW k2 (h:=h) y;have hB2:=hB.trans x2;have r2:=r.ext hB.next x2;have ix:=ixS (l:=codes.map UInt8.ofNat) (i:=i) (b:=UInt8.ofNat c) (by rw[kX,hci];rfl);have uc:((UInt8.ofNat c).toNat:Int)=(c:Int):=by rw[UInt8.toNat_ofNat',Nat.mod_eq_of_lt hcl]
  have ix:A.zC (str (codes.map UInt8.ofNat)) (.int .i64 (i:Int))=some (.int .u8 (c:Int)):=by rw[ix,←uc]
  have hg:aE (aL s0.subs o {b0 with filters:=f}) o=some {b0 with filters:=f}:=by rw[aD,kB rfl]
  have w2:A.zA prog .add 3 (.int .i64 (i:Int)) (.int .i64 1)=some (.int .i64 ((i+1:Nat):Int)):=by rw[bG,aS (by have:=no.len;omega)]
  rw[bT hz,List.foldl_cons]at hf;have sl:A.load false 1 (.pointer (some ⟨q,3,none⟩)) h2=some (aB (nm (.flst o))):=by
   rw[←hq];exact ld k2 (r2.ok (.sb o) _ hg) 3 (by simp[mR,hb0])
  by_cases h128:c<128
  ·have dc:decide ((c:Int)<128)=true:=kC (by omega);rw[kB h128]at hf;obtain⟨h16,vv,lr,hsv⟩:=r2.ok (.flst o) _ hg hb0;obtain⟨h3,e29,lt3⟩:=T29 k2 (hT.ext k2.tab hB3 hB2) (kG hB3 hB2.next) h16 lr (by have:=(r2.lt (.flst o) ⟨_,hg,hb0⟩).1;omega) y.1 hys;obtain⟨nm3,g1,g3,r3,hB3',n23⟩:=r2.frow hB2 hg hb0 lr hsv lt3 (xZ fil y.1 y.2 h16);simp only[lC]at r3;have nx:=ih (i+1) m h3 nm3 (gE fil f y.1 y.2).2 (by omega) (by omega) r3 hB3' (g1.trans hpc) (by have:=x2.next;omega) (g3.trans hq) hf;simp only[aEv,aMs,aPo,aPn,zZ,hd,RaK.S,ei,l2,show RaW.Z52=RaI.Z52 from rfl,e1,e2,ix,dc,sl,Nat.zero_add,l0,l1,e29,w2];exact nx
  ·have dc:decide ((c:Int)<128)=false:=kD (by omega);rw[kA h128]at hf;have nx:=ih (i+1) m h2 nm f (by omega) (by omega) r2 hB2 hpc (by have:=x2.next;omega) hq hf;simp only[aEv,aMs,aPo,aPn,zZ,hd,RaK.S,ei,l2,show RaW.Z52=RaI.Z52 from rfl,e1,e2,ix,dc,w2];exact nx
theorem aHy (hT:HasT T0 B)(hB3:3≤B.next){e:Nat→Value}{v:Value}{n:cU}(no:NoteOk B v n){codes:List Nat}(hc:codes.length=n.subs.length)(hcs:∀c∈codes,c<256){h:H}{nm:Col→Nat}{s:St}(r:Rep B h nm s a)(hB:Ext B h){o:Int}{b:Sb}(hb:aE s.subs o=some b)
 {x3:Nat} (g3:h.get x3=some (.cells (bH e v n) (some 0))) (lx3:x3<h.next) (nx3:∀C,live s nm C→nm C≠x3) (kr:Pk.K1 Unit) (k0:b.done=true→kr (.bool true) h=some ())
 (k1:b.done=false→∀h' nm',nm' .chk=nm .chk→Rep B h' nm' {s with subs:=aL s.subs o {b with done:=true,open_:=true,client:=n.client,filters:=(n.subs.zip codes).foldl (fun r x=>if x.2<128 then(gE fil r x.1.1 x.1.2).2 else r) []}} a→Ext B h'→h.next≤h'.next→kr (.bool true) h'=some ()) {L:Nat} (hL:n.subs.length<L):
 aPp (CI D) h (aB x3) (str (codes.map UInt8.ofNat)) (aB (nm (.sb o))) kr (fun x3 x12 x5 h=>aNg (CI D) L dm rl h x3 x5 x12 fun h=>aMr h kr)=some ():=by
 have k2:=k3.k2;have gb:=r.ok (.sb o) b hb;have b1:=ld k2 gb 1 rfl
 cases hd:b.done with
 |true=>
  rw[hd]at b1;simp only[aPp,RaK.S,b1,Nat.zero_add];exact k0 hd
 |false=>
  rw[hd]at b1;have lsb:=r.lt (.sb o) ⟨b,hb⟩;have ne3:x3≠nm (.sb o):=fun e=>nx3 (.sb o) ⟨b,hb⟩ e.symm;obtain⟨h1,hh1⟩:∃h1,h1=h.put (nm (.sb o)) (.cells [str b.client,.bool true,.bool b.open_,.pointer none,aP (nm (.past o)),aP (nm (.still o)),aP (nm (.got o)),str b.last,.bool b.some_] (some 0)):=⟨_,rfl⟩;have e1:A.store 1 (.pointer (some ⟨nm (.sb o),1,none⟩)) (.bool true) h=some h1:=by rw[qU,gb,hh1];simp only[mR,hd,pB,if_false];rfl
  have g1:h1.get (nm (.sb o))=some (.cells [str b.client,.bool true,.bool b.open_,.pointer none,aP (nm (.past o)),aP (nm (.still o)),aP (nm (.got o)),str b.last,.bool b.some_] (some 0)):=by rw[hh1,H.get_put,kB rfl]
  obtain⟨h2,hh2⟩:∃h2,h2=h1.put (nm (.sb o)) (.cells [str b.client,.bool true,.bool true,.pointer none,aP (nm (.past o)),aP (nm (.still o)),aP (nm (.got o)),str b.last,.bool b.some_] (some 0)):=⟨_,rfl⟩;have e2:A.store 1 (.pointer (some ⟨nm (.sb o),2,none⟩)) (.bool true) h1=some h2:=by rw[qU,g1,hh2];rfl
  have g2:h2.get (nm (.sb o))=some (.cells [str b.client,.bool true,.bool true,.pointer none,aP (nm (.past o)),aP (nm (.still o)),aP (nm (.got o)),str b.last,.bool b.some_] (some 0)):=by rw[hh2,H.get_put,kB rfl]
  have g2n:h2.get x3=some (.cells (bH e v n) (some 0)):=by rw[hh2,H.get_put,kA ne3,hh1,H.get_put,kA ne3];exact g3
  have n_3:=ld k2 g2n 3 rfl;obtain⟨h3,hh3⟩:∃h3,h3=h2.put (nm (.sb o)) (.cells [str n.client,.bool true,.bool true,.pointer none,aP (nm (.past o)),aP (nm (.still o)),aP (nm (.got o)),str b.last,.bool b.some_] (some 0)):=⟨_,rfl⟩;have e3:A.store 1 (.pointer (some ⟨nm (.sb o),0,none⟩)) (str n.client) h2=some h3:=by rw[qU,g2,hh3];rfl
  have g3':h3.get (nm (.sb o))=some (.cells [str n.client,.bool true,.bool true,.pointer none,aP (nm (.past o)),aP (nm (.still o)),aP (nm (.got o)),str b.last,.bool b.some_] (some 0)):=by rw[hh3,H.get_put,kB rfl]
  have n3:h3.next=h.next:=by rw[hh3,hh2,hh1];rfl
  obtain⟨h4,e28,lr,x4⟩:=T28 k2 (h:=h3);obtain⟨q,hq⟩:∃q,q=h3.next:=⟨_,rfl⟩;rw[←hq]at e28 lr;have g4:h4.get (nm (.sb o))=some (.cells [str n.client,.bool true,.bool true,.pointer none,aP (nm (.past o)),aP (nm (.still o)),aP (nm (.got o)),str b.last,.bool b.some_] (some 0)):=by rw[x4.get _ (by omega)];exact g3'
  obtain⟨h5,hh5⟩:∃h5,h5=h4.put (nm (.sb o)) (.cells [str n.client,.bool true,.bool true,aB q,aP (nm (.past o)),aP (nm (.still o)),aP (nm (.got o)),str b.last,.bool b.some_] (some 0)):=⟨_,rfl⟩;have e5:A.store 1 (.pointer (some ⟨nm (.sb o),3,none⟩)) (aB q) h4=some h5:=by rw[qU,g4,hh5];rfl
  have g5:h5.get (nm (.sb o))=some (.cells [str n.client,.bool true,.bool true,aB q,aP (nm (.past o)),aP (nm (.still o)),aP (nm (.got o)),str b.last,.bool b.some_] (some 0)):=by rw[hh5,H.get_put,kB rfl]
  have n5:h5.next=h4.next:=by rw[hh5];rfl
  have nx4:=x4.next;have lq:=lr.lt;have o5:∀j,j<h.next→j≠nm (.sb o)→h5.get j=h.get j:=fun j hj hn=>by
   rw[hh5,H.get_put,kA hn,x4.get _ (by omega),hh3,H.get_put,kA hn,hh2,H.get_put,kA hn,hh1,H.get_put,kA hn]
  have hB5:Ext B h5:=⟨by have:=hB.next;omega,fun j hj=>by rw[o5 j (by have:=hB.next;omega) (by omega)];exact hB.get j hj⟩;have g5n:h5.get x3=some (.cells (bH e v n) (some 0)):=by rw[o5 _ lx3 ne3];exact g3
  have n_26:=ld k2 g5n 26 rfl;have ln:A.zH v=some (.int .i64 (n.subs.length:Int)):=by have:=(no.subs.ext hB).len.1;rwa [bM,pA]at this
  obtain⟨b0,hb0⟩:∃b0:Sb,b0={b with done:=true,open_:=true,client:=n.client,filters:=[]}:=⟨_,rfl⟩;have hd0:b0.done=true:=by rw[hb0]
  have hg:aE (aL s.subs o b0) o=some b0:=by rw[aD,kB rfl]
  obtain⟨nm5,hnm⟩:∃nm5:Col→Nat,nm5=fun C=>if C=.flst o∨C=.frow o then q else nm C:=⟨_,rfl⟩
  have off:∀C,C≠.flst o→C≠.frow o→nm5 C=nm C:=fun C h1 h2=>by rw[hnm];exact kA fun e=>e.elim h1 h2
  have q1:nm5 (.flst o)=q:=by rw[hnm];exact kB (.inl rfl)
  have q2:nm5 (.frow o)=q:=by rw[hnm];exact kB (.inr rfl)
  have f1:nm5 (.sb o)=nm (.sb o):=off _ (by simp) (by simp);have f2:nm5 (.past o)=nm (.past o):=off _ (by simp) (by simp);have f3:nm5 (.still o)=nm (.still o):=off _ (by simp) (by simp);have f4:nm5 (.got o)=nm (.got o):=off _ (by simp) (by simp);have keep:∀C,live s nm C→C≠.sb o→h5.get (nm C)=h.get (nm C):=fun C hl hn=>o5 _ (r.lt C hl).2 fun e=>hn (r.inj _ _ hl ⟨b,hb⟩ e);have lead:∀C,atO o C→live {s with subs:=aL s.subs o b0} nm5 C→(C=.flst o)∨(C≠.flst o∧C≠.frow o∧live s nm C):=fun C hC hl=>by
   rcases gK hC with rfl|rfl|rfl|rfl|rfl|rfl|⟨t,rfl⟩
   ·exact .inr ⟨by simp,by simp,b,hb⟩
   ·exact .inl rfl
   ·exact absurd (q2.trans q1.symm) hl.2
   ·exact .inr ⟨by simp,by simp,b,hb⟩
   ·exact .inr ⟨by simp,by simp,b,hb⟩
   ·exact .inr ⟨by simp,by simp,b,hb⟩
   ·obtain⟨x,ms,hx,hm⟩:=hl;rw[hg]at hx;cases hx;rw[hb0]at hm;exact .inr ⟨by simp,by simp,b,ms,hb,hm⟩
  have r5:Rep B h5 nm5 {s with subs:=aL s.subs o b0} a:=by
   refine r.sub1 hB.next (by omega) (fun d hd=>by rw[aD,kA (Ne.symm hd)]) (fun C hC=>off C (fun e=>hC (by rw[e];exact rfl)) fun e=>hC (by rw[e];exact rfl)) False (fun C hl hC _=>keep C hl fun e=>hC (by rw[e];exact rfl)) (fun _=>⟨cP hb,f1⟩) (fun h=>h.elim) (fun y hy=>?_) (fun C hC hl=>?_) (fun C C' hC hC' hl hl' hge he=>?_)
   ·rw[hg]at hy;cases hy;refine⟨?_,fun _=>?_,?_,?_,?_⟩
    ·rw[f1,g5,hb0];simp only[mR,q1,f2,f3,f4,if_true]
    ·rw[q1,q2,hb0];refine⟨by simp,gF,⟨?_,by omega,.inl ⟨rfl,rfl⟩,by simp[sid]⟩,by simp[sid]⟩;rw[hh5,H.get_put,kA (by omega)];exact lr.get
    ·rw[hb0];obtain⟨mv,m1,m2⟩:=r.ok (.past o) b hb;refine⟨mv,by rw[f2];exact m1.congr (keep (.past o) ⟨b,hb⟩ (by simp)),fun t ms ht=>?_⟩;obtain⟨a1,a2⟩:=m2 t ms ht;exact⟨a1.but (S:=fun _=>False) (by omega) fun i hi=>by rw[a2]at hi;cases hi;exact keep (.msgs o t) ⟨b,ms,hb,ht⟩ (by simp),by rw[off (.msgs o t) (by simp) (by simp)];exact a2⟩
    ·rw[f3,hb0];exact(r.ok (.still o) b hb).congr (keep (.still o) ⟨b,hb⟩ (by simp))
    ·rw[f4,hb0];exact(r.ok (.got o) b hb).congr (keep (.got o) ⟨b,hb⟩ (by simp))
   ·rcases lead C hC hl with rfl|⟨h1,h2,h3⟩
    ·rw[q1];exact .inr ⟨by omega,by omega⟩
    ·exact .inl ⟨h3,off C h1 h2⟩
   ·have old:∀C,C≠.flst o→C≠.frow o→live s nm C→nm5 C<h.next:=fun C h1 h2 h3=>by rw[off C h1 h2];exact(r.lt C h3).2
    rcases lead C hC hl with rfl|⟨h1,h2,h3⟩
    ·rcases lead C' hC' hl' with rfl|⟨h1,h2,h3⟩
     ·rfl
     ·have:=old C' h1 h2 h3;omega
    ·have:=old C h1 h2 h3;omega
  have fin:=aYa k3 (dm:=dm) (rl:=rl) hT hB3 no hc hcs (fun h=>aMr h kr) (p:=h.next) (pc:=nm .chk) (q:=nm (.sb o)) (o:=o) (L:=L) (s0:=s) (b0:=b0) (f0:=[]) hd0 (fun h' nm' c1 c2 c3 c4=>by
   simp only[aMr];refine k1 hd h' nm' c1 ?_ c3 c4;rw[hb0]at c2;exact c2) n.subs.length 0 L h5 nm5 [] (by omega) hL (by rw[hb0]at r5⊢;exact r5) hB5 (off _ (by simp) (by simp)) (by omega) f1 rfl
  have fin:aEv (CI D) L dm rl (fun h=>aMr h kr) L (.int .i64 (n.subs.length:Int)) (.int .i64 0) (aB (nm (.sb o))) (str (codes.map UInt8.ofNat)) v h5=some ():=fin;simp only[aPp,aNg,bHv,RaK.S,b1,Nat.zero_add,Nat.add_zero,e1,e2,n_3,e3,e28,e5,n_26,ln];exact fin
omit k3 in
theorem vC {fil nam:Bs→Bool}{s:St}{n:cU}(hk:n.kind=2)(h8:n.ptype=8)(hs:∀y∈n.subs,y.2<256){codes:List Nat}(h:(bL fil nam s n).1=some codes):codes.length=n.subs.length∧∀c∈codes,c<256:=by
 unfold bL at h;rw[kA (by omega),kA (by omega),kA (by omega)]at h;split at h
 ·cases h
 ·split at h
  ·cases h
  ·simp only[kE]at h;subst h;exact⟨tI fil _ _,oG fil _ _ hs⟩
theorem W18 (ok:RelOK prog 3 RaZ.isR dm rl)(hT:HasT T0 B)(hB3:3≤B.next){h:H}{nm:Col→Nat}{s:St}{K:Nat}(r:Rep B h nm s a)(hB:Ext B h)(e:Nat→Value)(v:Value)(n:cU)(no:NoteOk B v n)(hk:n.kind=2)(inv:InvS K (bL fil nam s n).2)(hK:K≤2^40):
 ∃L,dC prog (CI D) RaZ.isR dm rl L 3 18 [aB (nm .chk),cD e v n] h (eL B (nm .chk) a h (nJ fil nam tak s n)):=by
 have k2:=k3.k2;obtain⟨h1,hh1⟩:∃h1,h1=h.push (.cells (bH e v n) (some 0)):=⟨_,rfl⟩;have e1:A.box 35 (cD e v n) h=some (aB h.next,h1):=by rw[hh1];rfl
 have x1:Ext h h1:=by rw[hh1];exact Ext.push h _
 have n1:h1.next=h.next+1:=by rw[hh1];rfl
 have g1:h1.get h.next=some (.cells (bH e v n) (some 0)):=by rw[hh1,H.get_push,kB rfl]
 have r1:=r.ext hB.next x1;have hB1:=hB.trans x1;have c0:=ld k2 (r1.ok .chk) 0 rfl;have l35:A.load true 35 (aB h.next) h1=some (cD e v n):=by rw[aV,g1];rfl
 obtain⟨h2,nm2,bb,e26,k2',r2,hB2,f2⟩:=T26 k2 hT hB3 r1 hB1 e v n no;obtain⟨s2,hs2⟩:∃s2,s2=(bL fil nam s n).2:=⟨_,rfl⟩;obtain⟨oc,hoc⟩:∃oc,oc=(bL fil nam s n).1:=⟨_,rfl⟩;rw[←hs2]at r2 f2 inv;rw[←hoc]at e26;have hap:bL fil nam s n=(oc,s2):=by rw[hoc,hs2]
 have nm1:∀C,live s nm C→nm C≠h.next:=fun C hC e=>by have:=(r.lt C hC).2;omega
 have g2:h2.get h.next=some (.cells (bH e v n) (some 0)):=by rw[f2.1 _ (by omega) nm1];exact g1
 have nx2:∀C,live s2 nm2 C→nm2 C≠h.next:=fun C hC e=>by
  rcases f2.2.1 C hC with⟨C0,w1,w2⟩|w
  ·exact nm1 C0 w1 (w2.trans e)
  ·omega
 have n12:=f2.2.2;have t0:A.zB 0 (.tuple ⟨[str ((oc.getD []).map UInt8.ofNat),.bool bb,.bool oc.isSome]⟩)=some (str ((oc.getD []).map UInt8.ofNat)):=rfl;have t1:A.zB 1 (.tuple ⟨[str ((oc.getD []).map UInt8.ofNat),.bool bb,.bool oc.isSome]⟩)=some (.bool bb):=rfl;have t2:A.zB 2 (.tuple ⟨[str ((oc.getD []).map UInt8.ofNat),.bool bb,.bool oc.isSome]⟩)=some (.bool oc.isSome):=rfl
 cases hz:oc with
 |none=>
  have et:nJ fil nam tak s n=(false,s2):=by unfold nJ;rw[hap,hz]
  rw[hz]at e26 t0 t1 t2;have e26:CI D 26 [aB (nm .mdl),cD e v n] h1=some (.tuple ⟨[str (([]:List Nat).map UInt8.ofNat),.bool bb,.bool false]⟩,h2):=e26;have t0:A.zB 0 (.tuple ⟨[str (([]:List Nat).map UInt8.ofNat),.bool bb,.bool false]⟩)=some (str (([]:List Nat).map UInt8.ofNat)):=t0;have t1:A.zB 1 (.tuple ⟨[str (([]:List Nat).map UInt8.ofNat),.bool bb,.bool false]⟩)=some (.bool bb):=t1;have t2:A.zB 2 (.tuple ⟨[str (([]:List Nat).map UInt8.ofNat),.bool bb,.bool false]⟩)=some (.bool false):=t2;refine⟨0,bKh ok _ _ h ?_⟩;simp only[F18,aNs,aVf,aVe,e1,RaK.S,Nat.zero_add,c0,l35,e26,t0,t1,t2];rw[et];exact okU_iff.2 ⟨rfl,⟨nm2,k2',r2⟩,hB2,by omega⟩
 |some codes=>
  rw[hz]at e26 t0 t1 t2;have e26:CI D 26 [aB (nm .mdl),cD e v n] h1=some (.tuple ⟨[str (codes.map UInt8.ofNat),.bool bb,.bool true]⟩,h2):=e26;have t0:A.zB 0 (.tuple ⟨[str (codes.map UInt8.ofNat),.bool bb,.bool true]⟩)=some (str (codes.map UInt8.ofNat)):=t0;have t1:A.zB 1 (.tuple ⟨[str (codes.map UInt8.ofNat),.bool bb,.bool true]⟩)=some (.bool bb):=t1;have t2:A.zB 2 (.tuple ⟨[str (codes.map UInt8.ofNat),.bool bb,.bool true]⟩)=some (.bool true):=t2;obtain⟨s3,hs3⟩:∃s3:St,s3={s2 with pubs:=s2.pubs.map fun x=>(x.1,eU tak s2 n.client x.2)}:=⟨_,rfl⟩;have lv3:∀C,live s3 nm2 C→live s2 nm2 C:=fun C hC=>by
   rw[hs3,←aDe (sk:=s2.pubs.map (·.1)) fun x hx=>List.mem_map_of_mem hx]at hC;exact(xX C).1 hC
  have c1:=ld k2 (r2.ok .chk) 1 rfl;rw[k2']at c1;have lp2:=r2.lt .pubs trivial;obtain⟨bi,er,ei⟩:=gP (r2.ok .pubs) lp2.2;refine⟨s2.pubs.length+n.subs.length+1,bKh ok _ _ h ?_⟩;simp only[F18,aNs,aVf,aVe,aQt,bHw,e1,RaK.S,Nat.zero_add,c0,l35,e26,t0,t1,t2,c1,er];rw[←k2'];refine aYb k3 hT hB3 r2 hB2 nx2 (by omega) (kF _) _ (fun h4 r4 hB4 g4 n24 it4=>?_) (by omega) ei (Ext.push h2 bi) (by rw[(Ext.push h2 bi).get _ (by omega)];exact g2) (Nat.lt_succ_self _);rw[←hs3]at r4;have nx4:∀C,live s3 nm2 C→nm2 C≠h.next:=fun C hC=>nx2 C (lv3 C hC);have n_4:=ld k2 g4 4 rfl;have n_1:=ld k2 g4 1 rfl;by_cases h8:n.ptype=8
  case neg=>
   have d8:decide ((n.ptype:Int)=8)=false:=kD (by omega);have et:nJ fil nam tak s n=(true,s3):=by
    unfold nJ;rw[hap,hz];simp only[kB h8,←hs3]
   simp only[aPq,RaK.S,n_4,Nat.add_zero,bP,d8];rw[et];exact okU_iff.2 ⟨rfl,⟨nm2,rfl,r4⟩,hB4,by omega⟩
  have d8:decide ((n.ptype:Int)=8)=true:=kC (by omega);have h8':¬n.ptype≠8:=fun e=>e h8;obtain⟨hcl,hcs⟩:=vC hk h8 no.small (by rw[←hoc,hz]:(bL fil nam s n).1=some codes);have c2:=ld k2 (r4.ok .chk) 2 rfl;have lks:=aFh r4 n.op;have et:nJ fil nam tak s n=(let b:=(aE s3.subs n.op).getD (eB s3)
   let s:=if(aE s3.subs n.op).isSome then s3 else{s3 with subs:=aL s3.subs n.op b}
   if b.done then(true,s)
   else(true,{s with subs:=aL s.subs n.op {b with done:=true,open_:=true,client:=n.client,filters:=(n.subs.zip codes).foldl (fun r x=>if x.2<128 then(gE fil r x.1.1 x.1.2).2 else r) []}})):=by
   unfold nJ;rw[hap,hz,hs3];simp only[kA h8']
  have kl:KeysOk (2^40) s3.kept:=by rw[hs3];exact inv.kept.up hK
  cases hsb:aE s3.subs n.op with
  |some b=>
   rw[hsb]at lks et;simp only[pC,Option.isSome_some,if_true]at et;have n58:A.zA prog .eql 58 (aB (nm2 (.sb n.op))) (.pointer none)=some (.bool false):=tE (t:=58) (by kernel_rfl) _;simp only[aPq,aVc,RaK.S,n_4,Nat.add_zero,Nat.zero_add,bP,d8,c2,n_1,show RaW.Z58=.pointer none from rfl,lks,Option.map_some,fD,n58];refine aHy k3 hT hB3 no hcl hcs r4 hB4 hsb g4 (by omega) nx4 _ (fun hd=>?_) (fun hd h' nm' q1 q2 q3 q4=>?_) (by omega)
   ·rw[hd]at et;simp only[if_true]at et;rw[et];exact okU_iff.2 ⟨rfl,⟨nm2,rfl,r4⟩,hB4,by omega⟩
   ·rw[hd]at et;simp only[pB,if_false]at et;rw[et];exact okU_iff.2 ⟨rfl,⟨nm',q1,q2⟩,q3,by omega⟩
  |none=>
   rw[hsb]at lks et;simp only[Option.getD_none,Option.isSome_none,pB,if_false]at et;have n58:A.zA prog .eql 58 (.pointer none) (.pointer none)=some (.bool true):=by kernel_rfl
   obtain⟨h5,nm5,e17,k5,r5,hB5,f5⟩:=T17 k3 r4 hB4 kl hsb;have hsb5:aE (aL s3.subs n.op (eB s3)) n.op=some (eB s3):=by rw[aD,kB rfl]
   have g5:h5.get h.next=some (.cells (bH e v n) (some 0)):=by rw[f5.1 _ (by omega) nx4];exact g4
   have nx5:∀C,live {s3 with subs:=aL s3.subs n.op (eB s3)} nm5 C→nm5 C≠h.next:=fun C hC e=>by
    rcases f5.2.1 C hC with⟨C0,w1,w2⟩|w
    ·exact nx4 C0 w1 (w2.trans e)
    ·omega
   have n45:=f5.2.2;simp only[aPq,aVc,RaK.S,n_4,Nat.add_zero,Nat.zero_add,bP,d8,c2,n_1,show RaW.Z58=.pointer none from rfl,lks,Option.map_none,fD,n58,e17];refine aHy k3 hT hB3 no hcl hcs r5 hB5 hsb5 g5 (by omega) nx5 _ (fun hd=>?_) (fun hd h' nm' q1 q2 q3 q4=>?_) (by omega)
   ·rw[hd]at et;simp only[if_true]at et;rw[et];exact okU_iff.2 ⟨rfl,⟨nm5,k5,r5⟩,hB5,by omega⟩
   ·rw[hd]at et;simp only[pB,if_false]at et;rw[et];exact okU_iff.2 ⟨rfl,⟨nm',q1.trans (k5),q2⟩,q3,by omega⟩
end
end Go.Proofs.YtpanfoafajepcaaGreatDoor.Ra

set_option maxRecDepth 100000
namespace Go.Proofs.YtpanfoafajepcaaGreatDoor.Ra
open Tryz (prog)
open Go Go.AM RaA RaI RaW RaX RaY
open _root_.Ra
theorem dY {n bs:Nat}{h:H}{v x:Value}{es new:List (List Value)}(gv:GrowV n h v es)(sx:SliceE n h x new)(hne:new≠[])(hn:0<n)(hb:(es.length+new.length)*bs≤2^47)(hl:es.length+new.length≤2^47):
 ∃h',A.zI n bs v x h=some (.slice (some ⟨h.next,0,none⟩) (es.length+new.length) (2*(es.length+new.length)),h')∧
  GrowV n h' (.slice (some ⟨h.next,0,none⟩) (es.length+new.length) (2*(es.length+new.length))) (es++new)∧h'.next=h.next+1∧ExtBut (fun i=>sid v=some i) h h':=by
 have toG:∀{h':H},Vec n h' (.slice (some ⟨h.next,0,none⟩) (es.length+new.length) (2*(es.length+new.length))) (es++new)→GrowV n h' (.slice (some ⟨h.next,0,none⟩) (es.length+new.length) (2*(es.length+new.length))) (es++new):=fun vv=>by
  refine⟨vv.1,?_⟩;rcases vv.2 with⟨e,_⟩|⟨q,e,hq,hg⟩
  ·cases e
  ·exact⟨q,_,e,.inl rfl,hq,hg⟩
 obtain⟨h1,q,c,rfl,hc,hq,hg⟩:=gv;rcases hc with rfl|rfl
 ·obtain⟨h',e,v',n',x'⟩:=dT (bs:=bs) (v:=.slice (some ⟨q,0,none⟩) es.length (2*es.length)) ⟨h1,.inr ⟨q,rfl,hq,hg⟩⟩ sx hne hn hb hl;exact⟨h',e,toG v',n',x'⟩
 ·obtain⟨_,hlen⟩:=sx.len;have hel:=sx.elems;have hpos:0<new.length:=List.length_pos_iff.2 hne;have e0:Nat.beq new.length 0=false:=by rw[T.beq_dec];simp;omega
  have hall:∀e∈es++new,e.length=n:=fun e he=>by
   rcases List.mem_append.1 he with he|he
   ·exact h1 e he
   ·exact sx.1 e he
  have hfl:es.flatten.length=es.length*n:=bW h1;refine⟨h.push (.cells (es.flatten++new.flatten) (some n)),?_,⟨hall,h.next,_,by rw[kL],.inl (by rw[kL]),by simp,by rw[H.get_push,kB rfl,List.flatten_append]⟩,rfl,(Ext.push _ _).but⟩;simp only[A.zI,hel,hlen,e0,hg];have f1:Nat.ble (es.length+new.length) ((2*es.length+1) / 2)=false:=by
   cases hb1:Nat.ble (es.length+new.length) ((2*es.length+1) / 2)with
   |false=>rfl
   |true=>have:=ble_iff.1 hb1;omega
  have f2:Nat.ble ((es.length+new.length)*bs) (2^47)=true:=ble_iff.2 hb;have f3:Nat.ble (es.length+new.length) (2^47)=true:=ble_iff.2 hl;have f4:Nat.ble (0+es.length*n) es.flatten.length=true:=ble_iff.2 (by omega);have f5:Nat.beq ((2*es.length+1)%2) 1=true:=beq_iff.2 (by omega);have e4:(es.flatten.drop 0).take (es.length*n)=es.flatten:=by rw[List.drop_zero,pN (by omega)]
  rw[f1,f2,f3,f4,f5,e4];rfl
section
variable {D:CF}{T0:H}{fil nam:Bs→Bool}{tak:Bs→Bs→Bool}(k3:K3 D T0 fil nam tak){B:H}{a:Nat}{dm:Pw.Dm}{rl:Pw.Rl}
include k3
theorem aSf {h:H}{nm:Col→Nat}{s:St}(r:Rep B h nm s a)(hB:Ext B h){o:Int}{b:Sb}(hb:aE s.subs o=some b)(hd:b.done=false){m:Msg}{mb:Nat}(gm:h.get mb=some (.cells (aR m) (some 0)))(lmb:mb<h.next)(nmb:∀C,live s nm C→nm C≠mb)(hlen:∀t ms,aE b.past t=some ms→ms.length≤2^40):
 ∃h4,A.zY true (str m.topic) (aP (nm (.still o))) h=some h4∧∃h' nm',(∀(x30:Value) (kn:Pk.K2 Unit),aMq h4 (aB mb) (aB (nm (.sb o))) x30 kn=kn (aB mb) x30 h')∧(∀C,(∀o t,C≠.msgs o t)→nm' C=nm C)∧h'.get (nm .subs)=h.get (nm .subs)∧
  Rep B h' nm' {s with subs:=aL s.subs o (dB m b)} a∧Ext B h'∧FrameR h nm s h' nm' {s with subs:=aL s.subs o (dB m b)}:=by
 have k2:=k3.k2;obtain⟨h4,u4,m4,a4⟩:=aRo (r.ok (.still o) b hb) m.topic;rw[nV]at m4;have lst:=r.lt (.still o) ⟨b,hb⟩;have inj:=fun C hl (e:nm C=nm (.still o))=>r.inj C (.still o) hl ⟨b,hb⟩ e;have hB4:Ext B h4:=a4.ext hB lst.1;have gm4:h4.get mb=some (.cells (aR m) (some 0)):=by rw[a4.2 _ fun e=>nmb (.still o) ⟨b,hb⟩ e.symm];exact gm
 have l1:=ld k2 gm4 1 rfl;have l0:=ld k2 gm4 0 rfl;have ep:A.zA prog .neq 9 (str m.payload) (.string ⟨⟨[]⟩⟩)=_:=rS m.payload [];have keep4:∀C,live s nm C→C≠.still o→h4.get (nm C)=h.get (nm C):=fun C hl hn=>a4.2 _ fun e=>hn (inj C hl e);refine⟨h4,u4,?_⟩;by_cases hp:m.payload=[]
 ·rw[kC hp]at ep;have hm:dB m b={b with still:=b.still.erase m.topic}:=by unfold dB;rw[hd];simp[hp]
  rw[hm];have hg:aE (aL s.subs o {b with still:=b.still.erase m.topic}) o=some {b with still:=b.still.erase m.topic}:=by rw[aD,kB rfl]
  have lead:∀C,atO o C→live {s with subs:=aL s.subs o {b with still:=b.still.erase m.topic}} nm C→live s nm C:=fun C hC hl=>by
   rcases gK hC with rfl|rfl|rfl|rfl|rfl|rfl|⟨t,rfl⟩
   ·exact⟨b,hb⟩
   ·obtain⟨x,hx,hxd⟩:=hl;rw[hg]at hx;cases hx;exact absurd (hd.symm.trans hxd) (by simp)
   ·obtain⟨⟨x,hx,hxd⟩,_⟩:=hl;rw[hg]at hx;cases hx;exact absurd (hd.symm.trans hxd) (by simp)
   ·exact⟨b,hb⟩
   ·exact⟨b,hb⟩
   ·exact⟨b,hb⟩
   ·obtain⟨x,ms,hx,hm⟩:=hl;rw[hg]at hx;cases hx;exact⟨b,ms,hb,hm⟩
  refine⟨h4,nm,fun x30 kn=>?_,fun _ _=>rfl,keep4 .subs trivial (by simp),?_,hB4,?_⟩
  ·simp only[aMq,RaK.S,l1,ep]
  ·refine r.sub1 hB.next (by rw[a4.1];exact kF _) (fun d hd=>by rw[aD,kA (Ne.symm hd)]) (fun _ _=>rfl) False (fun C hl hC _=>keep4 C hl fun e=>hC (by rw[e];exact rfl)) (fun _=>⟨cP hb,rfl⟩) (fun h=>h.elim) (fun y hy=>?_) (fun C hC hl=>.inl ⟨lead C hC hl,rfl⟩) (fun C C' hC hC' hl hl' hge he=>?_)
   ·rw[hg]at hy;cases hy;refine⟨?_,fun h=>absurd (hd.symm.trans h) (by simp),?_,m4,?_⟩
    ·rw[keep4 (.sb o) ⟨b,hb⟩ (by simp),r.ok (.sb o) b hb];rfl
    ·obtain⟨mv,m1,m2⟩:=r.ok (.past o) b hb;refine⟨mv,m1.congr (keep4 (.past o) ⟨b,hb⟩ (by simp)),fun t ms ht=>?_⟩;obtain⟨a1,a2⟩:=m2 t ms ht;exact⟨a1.but (S:=fun _=>False) (by rw[a4.1];exact kF _) fun i hi=>by rw[a2]at hi;cases hi;exact keep4 (.msgs o t) ⟨b,ms,hb,ht⟩ (by simp),a2⟩
    ·exact(r.ok (.got o) b hb).congr (keep4 (.got o) ⟨b,hb⟩ (by simp))
   ·have:=(r.lt C (lead C hC hl)).2;omega
  ·exact⟨fun j hj hn=>a4.2 j fun e=>hn (.still o) ⟨b,hb⟩ e.symm,nO (fun d hd=>by rw[aD,kA (Ne.symm hd)]) (fun _ _=>rfl) (fun C hC hl=>.inl ⟨lead C hC hl,rfl⟩),by rw[a4.1];exact kF _⟩
 ·rw[kD hp]at ep;obtain⟨mv,m1,m2⟩:=r.ok (.past o) b hb;obtain⟨ms,hms⟩:∃ms,ms=(aE b.past m.topic).getD []:=⟨_,rfl⟩;have hm:dB m b={b with still:=b.still.erase m.topic,past:=aL b.past m.topic (ms++[m])}:=by unfold dB;rw[hd,hms];simp[hp]
  rw[hm];obtain⟨b',hb'⟩:∃b',b'={b with still:=b.still.erase m.topic,past:=aL b.past m.topic (ms++[m])}:=⟨_,rfl⟩;rw[←hb'];have hd':b'.done=false:=by rw[hb'];exact hd
  have hg:aE (aL s.subs o b') o=some b':=by rw[aD,kB rfl]
  have lps:=r.lt (.past o) ⟨b,hb⟩;have lsb:=r.lt (.sb o) ⟨b,hb⟩;have m14:MapR h4 (nm (.past o)) bO (b.past.map fun x=>(x.1,mv x.1)):=m1.congr (keep4 (.past o) ⟨b,hb⟩ (by simp));have gs4:=keep4 (.sb o) ⟨b,hb⟩ (by simp);rw[r.ok (.sb o) b hb]at gs4;have s4:=ld k2 gs4 4 rfl;have lk:=uI m14 RaW.Z71 false m.topic;rw[fR (fun t (_:List Msg)=>mv t)]at lk;have lm:A.load true 4 (aB mb) h4=some (.agg ⟨aR m⟩):=by rw[aV,gm4];rfl
  have hb1:=bY (n:=4) (zs:=RaW.Z31L) (v:=.agg ⟨aR m⟩) (vs:=aR m) h4 rfl rfl rfl;have sx:=gG (h:=h4) (n:=4) (vs:=aR m) rfl;obtain⟨h5,hh5⟩:∃h5,h5=h4.push (.cells (aR m) (some 4)):=⟨_,rfl⟩;rw[←hh5]at hb1 sx;have x5:Ext h4 h5:=hh5▸Ext.push h4 _;have n4:=a4.1;have n5:h5.next=h.next+1:=by rw[hh5];show h4.next+1=_;rw[n4]
  obtain⟨q,hq⟩:∃q,q=h5.next:=⟨_,rfl⟩;obtain⟨x0,lk,h6,w,ew,gw,sw,n6,x6,sx0⟩:∃x0,A.zE true RaW.Z71 false (str m.topic) (aP (nm (.past o))) h4=some x0∧∃h6 w,A.zI 4 40 x0 (.slice (some ⟨h4.next,0,none⟩) 1 3) h5=some (w,h6)∧GrowV 4 h6 w ((ms++[m]).map aR)∧sid w=some q∧h6.next=h5.next+1∧ExtBut (fun i=>sid x0=some i) h5 h6∧∀i,sid x0=some i→live s nm (.msgs o m.topic)∧i=nm (.msgs o m.topic):=by
   cases hpt:aE b.past m.topic with
   |none=>
    rw[hpt]at lk hms;subst hms;obtain⟨h6,e6,v6,n6,x6⟩:=dT (bs:=40) (Vec.nil 4 h5) sx (by simp) (by omega) (by simp) (by simp);refine⟨gF,lk,h6,_,e6,⟨v6.1,?_⟩,by rw[hq];rfl,n6,x6,fun i hi=>by simp[sid]at hi⟩;rcases v6.2 with⟨e,_⟩|⟨q',e,hq',hg'⟩
    ·cases e
    ·exact⟨q',_,e,.inl rfl,hq',hg'⟩
   |some l=>
    rw[hpt]at lk hms;have hms:ms=l:=hms;subst hms;obtain⟨gv,gs⟩:=m2 _ _ hpt;have hl:=hlen _ _ hpt;have gv5:GrowV 4 h5 (mv m.topic) (ms.map aR):=gv.but (S:=fun _=>False) (by omega) fun i hi=>by
     rw[gs]at hi;cases hi;have lmm:=r.lt (.msgs o m.topic) ⟨b,ms,hb,hpt⟩;rw[x5.get _ (by omega)];exact keep4 (.msgs o m.topic) ⟨b,ms,hb,hpt⟩ (by simp)
    obtain⟨h6,e6,v6,n6,x6⟩:=dY (bs:=40) gv5 sx (by simp) (by omega) (by simp;omega) (by simp;omega);refine⟨mv m.topic,lk,h6,_,e6,by rw[List.map_append];exact v6,by rw[hq];rfl,n6,x6,fun i hi=>?_⟩;rw[gs]at hi;cases hi;exact⟨⟨b,ms,hb,hpt⟩,rfl⟩
  have keep6:∀C,live s nm C→C≠.still o→C≠.msgs o m.topic→h6.get (nm C)=h.get (nm C):=fun C hl h1 h2=>by
   rw[x6.get _ (by have:=(r.lt C hl).2;omega) fun e=>h2 ?_,x5.get _ (by have:=(r.lt C hl).2;omega)]
   ·exact keep4 C hl h1
   ·obtain⟨w1,w2⟩:=sx0 _ e;exact r.inj _ _ hl w1 w2
  have gm6:h6.get mb=some (.cells (aR m) (some 0)):=by
   rw[x6.get _ (by omega) fun e=>?_,x5.get _ (by omega)]
   ·exact gm4
   ·obtain⟨w1,w2⟩:=sx0 _ e;exact nmb _ w1 w2.symm
  have gs6:=keep6 (.sb o) ⟨b,hb⟩ (by simp) (by simp);rw[r.ok (.sb o) b hb]at gs6;have ck1:AM.chk (bnd (A.load false 1 (.pointer (some ⟨mb,0,none⟩)) h6) fun v=>some v) (str m.topic)=true:=gU (by rw[ld k2 gm6 0 rfl];rfl) (by simp[AM.same]);have ck2:AM.chk (bnd (A.load false 1 (.pointer (some ⟨nm (.sb o),4,none⟩)) h6) fun v=>some v) (aP (nm (.past o)))=true:=gU (by rw[ld k2 gs6 4 rfl];rfl) (by simp[AM.same]);have m16:MapR h6 (nm (.past o)) bO (b.past.map fun x=>(x.1,mv x.1)):=m1.congr (keep6 (.past o) ⟨b,hb⟩ (by simp) (by simp));obtain⟨h7,u7,m7,a7⟩:=aEm m16 m.topic w;have kn:(b.past.map (·.1)).Nodup:=by have:=m1.nodup;rwa [List.map_map]at this
  obtain⟨mv',hmv⟩:∃mv':Bs→Value,mv'=fun t=>if t=m.topic then w else mv t:=⟨_,rfl⟩
  have aJl:=fP (a:=ms++[m]) (f:=mv) (g:=mv') (c:=m.topic) (fun d hd=>by rw[hmv];simp only[kA hd]) kn;rw[show mv' m.topic=w by rw[hmv];exact kB rfl]at aJl;rw[aJl]at m7;have n7:h7.next=h6.next:=a7.1;obtain⟨nm',hnm⟩:∃nm':Col→Nat,nm'=fun C=>if C=.msgs o m.topic then q else nm C:=⟨_,rfl⟩
  have off:∀C,C≠.msgs o m.topic→nm' C=nm C:=fun C hC=>by rw[hnm];exact kA hC
  have at_:nm' (.msgs o m.topic)=q:=by rw[hnm];exact kB rfl
  have keep7:∀C,live s nm C→C≠.still o→C≠.msgs o m.topic→C≠.past o→h7.get (nm C)=h.get (nm C):=fun C hl h1 h2 h3=>by
   rw[a7.2 _ fun e=>h3 (r.inj _ _ hl ⟨b,hb⟩ e)];exact keep6 C hl h1 h2
  have hpm:∀t,t≠m.topic→aE b'.past t=aE b.past t:=fun t ht=>by rw[hb'];simp only[aD,kA (Ne.symm ht)]
  have hpt:aE b'.past m.topic=some (ms++[m]):=by rw[hb'];simp only[aD,kB]
  have lead:∀C,atO o C→live {s with subs:=aL s.subs o b'} nm' C→C=.msgs o m.topic∨(C≠.msgs o m.topic∧live s nm C):=fun C hC hl=>by
   rcases gK hC with rfl|rfl|rfl|rfl|rfl|rfl|⟨t,rfl⟩
   ·exact .inr ⟨by simp,b,hb⟩
   ·obtain⟨x,hx,hxd⟩:=hl;rw[hg]at hx;cases hx;exact absurd (hd'.symm.trans hxd) (by simp)
   ·obtain⟨⟨x,hx,hxd⟩,_⟩:=hl;rw[hg]at hx;cases hx;exact absurd (hd'.symm.trans hxd) (by simp)
   ·exact .inr ⟨by simp,b,hb⟩
   ·exact .inr ⟨by simp,b,hb⟩
   ·exact .inr ⟨by simp,b,hb⟩
   ·by_cases ht:t=m.topic
    ·subst ht;exact .inl rfl
    ·obtain⟨x,l,hx,hm⟩:=hl;rw[hg]at hx;cases hx;rw[hpm t ht]at hm;exact .inr ⟨by simp[ht],b,l,hb,hm⟩
  refine⟨h7,nm',fun x30 kn=>?_,fun C hC=>off C (hC o m.topic),keep7 .subs trivial (by simp) (by simp) (by simp),?_,?_,?_⟩
  ·simp only[aMq,RaK.S,l1,ep,s4,Nat.zero_add,l0,lk,lm,hb1,ew,ck1,ck2,Bool.and_true,u7]
  ·refine r.sub1 hB.next (by omega) (fun d hd=>by rw[aD,kA (Ne.symm hd)]) (fun C hC=>off C fun e=>hC (by rw[e];exact rfl)) False (fun C hl hC _=>keep7 C hl (fun e=>hC (by rw[e];exact rfl)) (fun e=>hC (by rw[e];exact rfl)) fun e=>hC (by rw[e];exact rfl)) (fun _=>⟨cP hb,off _ (by simp)⟩) (fun h=>h.elim) (fun y hy=>?_) (fun C hC hl=>?_) (fun C C' hC hC' hl hl' hge he=>?_)
   ·rw[hg]at hy;cases hy;have f1:nm' (.sb o)=nm (.sb o):=off _ (by simp);have f2:nm' (.past o)=nm (.past o):=off _ (by simp);have f3:nm' (.still o)=nm (.still o):=off _ (by simp);have f4:nm' (.got o)=nm (.got o):=off _ (by simp);refine⟨?_,fun h=>absurd (hd'.symm.trans h) (by simp),⟨mv',?_,fun t l ht=>?_⟩,?_,?_⟩
    ·rw[f1,keep7 (.sb o) ⟨b,hb⟩ (by simp) (by simp) (by simp),r.ok (.sb o) b hb];simp only[mR,f2,f3,f4,hd,hd',pB,if_false];rw[hb']
    ·rw[f2,hb'];exact m7
    ·by_cases e:t=m.topic
     ·subst e;rw[hpt]at ht;cases ht;rw[hmv];simp only[if_true];refine⟨gw.but (S:=fun _=>False) (by omega) fun i hi=>?_,by rw[at_];exact sw⟩;rw[sw]at hi;cases hi;exact a7.2 _ (by omega)
     ·rw[hpm t e]at ht;rw[hmv];simp only[e,if_false];obtain⟨a1,a2⟩:=m2 t l ht;refine⟨a1.but (S:=fun _=>False) (by omega) fun i hi=>?_,by rw[off _ (by simp[e])];exact a2⟩;rw[a2]at hi;cases hi;exact keep7 (.msgs o t) ⟨b,l,hb,ht⟩ (by simp) (by simp[e]) (by simp)
    ·rw[f3,hb'];refine m4.congr ?_;rw[a7.2 _ (fun e=>by have:=r.inj (.still o) (.past o) ⟨b,hb⟩ ⟨b,hb⟩ e;cases this),x6.get _ (by omega) fun e=>?_,x5.get _ (by omega)];obtain⟨w1,w2⟩:=sx0 _ e;have:=r.inj (.still o) (.msgs o m.topic) ⟨b,hb⟩ w1 w2;cases this
    ·rw[f4,hb'];exact(r.ok (.got o) b hb).congr (keep7 (.got o) ⟨b,hb⟩ (by simp) (by simp) (by simp))
   ·rcases lead C hC hl with rfl|⟨h1,h2⟩
    ·rw[at_];exact .inr ⟨by omega,by omega⟩
    ·exact .inl ⟨h2,off C h1⟩
   ·have old:∀C,C≠.msgs o m.topic→live s nm C→nm' C<h.next:=fun C h1 h2=>by rw[off C h1];exact(r.lt C h2).2
    rcases lead C hC hl with rfl|⟨h1,h2⟩
    ·rcases lead C' hC' hl' with rfl|⟨h1,h2⟩
     ·rfl
     ·have:=old C' h1 h2;omega
    ·have:=old C h1 h2;omega
  ·refine⟨by have:=hB.next;omega,fun j hj=>?_⟩;have hjn:j<h.next:=by have:=hB.next;omega
   rw[a7.2 _ (by omega),x6.get _ (by omega) fun e=>?_,x5.get _ (by omega)]
   ·exact hB4.get j hj
   ·obtain⟨w1,w2⟩:=sx0 _ e;have:=(r.lt _ w1).1;omega
  ·refine⟨fun j hj hn=>?_,nO (fun d hd=>by rw[aD,kA (Ne.symm hd)]) (fun C hC=>off C fun e=>hC (by rw[e];exact rfl)) (fun C hC hl=>?_),by omega⟩
   ·rw[a7.2 _ fun e=>hn (.past o) ⟨b,hb⟩ e.symm,x6.get _ (by omega) fun e=>?_,x5.get _ (by omega),a4.2 _ fun e=>hn (.still o) ⟨b,hb⟩ e.symm];obtain⟨w1,w2⟩:=sx0 _ e;exact hn _ w1 w2.symm
   ·rcases lead C hC hl with rfl|⟨h1,h2⟩
    ·rw[at_];exact .inr (by omega)
    ·exact .inl ⟨h2,off C h1⟩
def stu (s:St)(m:Msg)(sk:List Int):St:={s with subs:=s.subs.map fun x=>(x.1,if x.1∈sk then dB m x.2 else x.2)}
omit k3 in
theorem aDc (s:St)(m:Msg):stu s m []=s:=by
 unfold stu;have:(s.subs.map fun x=>(x.1,if x.1∈([]:List Int)then dB m x.2 else x.2))=s.subs:=by
  conv=>rhs;rw[←List.map_id s.subs]
  exact List.map_congr_left fun x _=>by simp
 rw[this]
omit k3 in
theorem aKg {s:St}{m:Msg}{sk:List Int}{o:Int}{b:Sb}(hb:aE s.subs o=some b)(ho:o∉sk):aE (stu s m sk).subs o=some b:=by
 have:=gI (fun x:Int×Sb=>if x.1∈sk then dB m x.2 else x.2) o s.subs
 rw[hb]at this;exact this.trans (by simp[ho])
omit k3 in
theorem aGv {s:St}{m:Msg}{sk:List Int}{o:Int}{b:Sb}(hk:(s.subs.map (·.1)).Nodup)(hb:aE s.subs o=some b):{stu s m sk with subs:=aL (stu s m sk).subs o (dB m b)}=stu s m (sk++[o]):=by
 have:=nQ (f:=fun x:Int×Sb=>if x.1∈sk then dB m x.2 else x.2) (g:=fun x:Int×Sb=>if x.1∈sk++[o]then dB m x.2 else x.2) (o:=o) (v:=dB m b) hk ⟨(o,b),sE hb,rfl⟩ (fun x hx hne=>by simp[hne]) (fun x hx he=>by
  obtain⟨k,y⟩:=x;simp only at he;subst he;have:=eI hk hx;rw[hb]at this;cases this;simp)
 simp only[stu,this]
omit k3 in
theorem aKh {s:St}{m:Msg}{sk:List Int}(h:∀x∈s.subs,x.1∈sk):stu s m sk={s with subs:=s.subs.map fun x=>(x.1,dB m x.2)}:=by
 unfold stu;have:(s.subs.map fun x=>(x.1,if x.1∈sk then dB m x.2 else x.2))=s.subs.map fun x=>(x.1,dB m x.2):=List.map_congr_left fun x hx=>by rw[kB (h x hx)]
 rw[this]
theorem bLz {hb:H}{nm:Col→Nat}{s:St}(r:Rep B hb nm s a)(hB:Ext B hb){m:Msg}{mb it:Nat}(lmb:hb.next≤mb)(lit:mb<it)(hlen:∀o b t ms,aE s.subs o=some b→aE b.past t=some ms→ms.length≤2^40)
 (kx:Pk.K0 Unit) (k1:∀h2 nm',nm' .chk=nm .chk→Rep B h2 nm' {s with subs:=s.subs.map fun x=>(x.1,dB m x.2)} a→Ext B h2→hb.next≤h2.next→kx h2=some ())
 {L:Nat} {h2:H} {k:Nat} (hk:s.subs.length<k) (i0:ItK h2 it (nm .subs) jQ (s.subs.map fun x=>(x.1,aB (nm (.sb x.1)))) []) (x0:Ext hb h2) (g0:h2.get mb=some (.cells (aR m) (some 0))) (hi2:it<h2.next):
 aGf (CI D) L dm rl kx k (aB mb) (aB it) h2=some ():=by
 have k2:=k3.k2;have lsubs:=(r.lt .subs trivial);refine gR (W:=fun n (_:Unit) h=>aGf (CI D) L dm rl kx n (aB mb) (aB it) h) (I:=fun sk _ h2=>∃nm',(∀C,(∀o t,C≠.msgs o t)→nm' C=nm C)∧Rep B h2 nm' (stu s m sk) a∧Ext B h2∧h2.get mb=some (.cells (aR m) (some 0))∧it<h2.next∧(∀C,live (stu s m sk) nm' C→nm' C≠mb∧nm' C≠it)∧hb.next≤h2.next) (by omega) (fun n s h hh=>by simp only[aGf,aVa];exact hh) ?_ ?_ s.subs.length [] () h2 k List.nodup_nil (by simp) (by simp) hk i0
  ⟨nm,fun _ _=>rfl,by rw[aDc];exact r.ext hB.next x0,hB.trans x0,g0,hi2,fun C hC=>by rw[aDc]at hC;have:=(r.lt C hC).2;omega,x0.next⟩
 ·intro k sk _ h2 i2 it2 y hy hys h3 a3 i3 e3 next
  obtain⟨nm',w1,r2,hB2,gm2,hit2,wn,hn2⟩:=i2;simp only[List.mem_map]at hy;obtain⟨⟨o,b⟩,hmem,rfl⟩:=hy;have hbb:=eI r.keysU hmem;have hys:o∉sk:=hys;have hb2:=aKg (m:=m) hbb hys;have e3:A.zT (aB it) h3=some (.tuple ⟨[.int .i64 o,aB (nm (.sb o))]⟩):=e3;have r3:Rep B h3 nm' (stu s m sk) a:=r2.frame hB2.next (by rw[a3.1];exact kF _) fun C hC=>a3.2 _ (wn C hC).2;have hB3':Ext B h3:=a3.ext hB2 (by omega);have gm3:h3.get mb=some (.cells (aR m) (some 0)):=by rw[a3.2 _ (by omega)];exact gm2
  have n3:=a3.1;have q1:nm' (.sb o)=nm (.sb o):=w1 _ (by simp);have q2:nm' .subs=nm .subs:=w1 _ (by simp);have gs:=r3.ok (.sb o) b hb2;rw[q1]at gs;have s1:=ld k2 gs 1 rfl;have s5:=ld k2 gs 5 rfl;have m0:=ld k2 gm3 0 rfl;have snoc:=aGv (m:=m) (sk:=sk) r.keysU hbb
  cases hd:b.done with
  |true=>
   rw[hd]at s1;have hm:dB m b=b:=by unfold dB;rw[hd];rfl
   rw[hm,eO hb2]at snoc;have snoc:stu s m sk=stu s m (sk++[o]):=snoc;have nx:=next () h3 ⟨nm',w1,by rw[←snoc];exact r3,hB3',gm3,by omega,by rw[←snoc];exact wn,by omega⟩ i3
   simp only[aCt,qG,qH,RaK.S,aPm,e3,s1,Nat.zero_add];exact nx
  |false=>
   rw[hd]at s1;obtain⟨h4,u4,h',nm2,ec,w2,gsub,r5,hB5,f5⟩:=aSf k3 r3 hB3' hb2 hd gm3 (by omega) (fun C hC=>(wn C hC).1) (fun t ms ht=>hlen o b t ms hbb ht);rw[q1]at ec;have snoc:{stu s m sk with subs:=aL (stu s m sk).subs o (dB m b)}=stu s m (sk++[o]):=snoc;rw[snoc]at r5 f5;have hnn:=f5.2.2;have nx:=next () h' ⟨nm2,fun C hC=>(w2 C hC).trans (w1 C hC),r5,hB5,by rw[f5.1 _ (by omega) fun C hC=>(wn C hC).1];exact gm3,by omega,fun C hC=>by
    rcases f5.2.1 C hC with⟨C0,v1,v2⟩|v
    ·rw[←v2];exact wn C0 v1
    ·omega,by omega⟩ (i3.congr (f5.1 _ (by omega) fun C hC=>(wn C hC).2) (by rw[←q2];exact gsub))
   simp only[aCt,qG,qH,RaK.S,aPm,e3,s1,Nat.zero_add,s5,m0,u4,ec];exact nx
 ·intro k sk _ h2 i2 all hsub hnd;obtain⟨nm',w1,r2,hB2,gm2,hit2,wn,hn2⟩:=i2;simp only[aJm,RaK.S];rw[aKh fun x hx=>all (x.1,aB (nm (.sb x.1))) (List.mem_map_of_mem (f:=fun x:Int×Sb=>(x.1,aB (nm (.sb x.1)))) hx)]at r2;exact k1 h2 nm' (w1 _ (by simp)) r2 hB2 hn2
theorem W19 (ok:RelOK prog 3 RaZ.isR dm rl)(hT:HasT T0 B)(hB3:3≤B.next){h:H}{nm:Col→Nat}{s:St}{K:Nat}(r:Rep B h nm s a)(hB:Ext B h)(e:Nat→Value)(v:Value)(n:cU)(no:NoteOk B v n)(inv:InvS K (bL fil nam s n).2)(hK:K≤2^40):
 ∃L,dC prog (CI D) RaZ.isR dm rl L 3 19 [aB (nm .chk),cD e v n] h (eL B (nm .chk) a h (lW fil nam s n)):=by
 have k2:=k3.k2;obtain⟨h1,hh1⟩:∃h1,h1=h.push (.cells (bH e v n) (some 0)):=⟨_,rfl⟩;have e1:A.box 35 (cD e v n) h=some (aB h.next,h1):=by rw[hh1];rfl
 have x1:Ext h h1:=by rw[hh1];exact Ext.push h _
 have n1:h1.next=h.next+1:=by rw[hh1];rfl
 have g1:h1.get h.next=some (.cells (bH e v n) (some 0)):=by rw[hh1,H.get_push,kB rfl]
 have r1:=r.ext hB.next x1;have hB1:=hB.trans x1;have c0:=ld k2 (r1.ok .chk) 0 rfl;have l35:A.load true 35 (aB h.next) h1=some (cD e v n):=by rw[aV,g1];rfl
 obtain⟨h2,nm2,bb,e26,k2',r2,hB2,f2⟩:=T26 k2 hT hB3 r1 hB1 e v n no;obtain⟨s2,hs2⟩:∃s2,s2=(bL fil nam s n).2:=⟨_,rfl⟩;obtain⟨oc,hoc⟩:∃oc,oc=(bL fil nam s n).1:=⟨_,rfl⟩;rw[←hs2]at r2 f2 inv;rw[←hoc]at e26;have hap:bL fil nam s n=(oc,s2):=by rw[hoc,hs2]
 have nm1:∀C,live s nm C→nm C≠h.next:=fun C hC e=>by have:=(r.lt C hC).2;omega
 have g2:h2.get h.next=some (.cells (bH e v n) (some 0)):=by rw[f2.1 _ (by omega) nm1];exact g1
 have n12:=f2.2.2;have t0:∀(x y z:Value),A.zB 0 (.tuple ⟨[x,y,z]⟩)=some x:=fun _ _ _=>rfl;have t1:∀(x y z:Value),A.zB 1 (.tuple ⟨[x,y,z]⟩)=some y:=fun _ _ _=>rfl;have t2:∀(x y z:Value),A.zB 2 (.tuple ⟨[x,y,z]⟩)=some z:=fun _ _ _=>rfl
 cases hz:oc with
 |none=>
  have et:lW fil nam s n=(false,s2):=by unfold lW;rw[hap,hz]
  rw[hz]at e26;have e26:CI D 26 [aB (nm .mdl),cD e v n] h1=some (.tuple ⟨[str (([]:List Nat).map UInt8.ofNat),.bool bb,.bool false]⟩,h2):=e26;refine⟨0,bKg ok _ _ h ?_⟩;simp only[F19,aNr,aVw,aVb,e1,RaK.S,Nat.zero_add,c0,l35,e26,t0,t1,t2];rw[et];exact okU_iff.2 ⟨rfl,⟨nm2,k2',r2⟩,hB2,by omega⟩
 |some codes=>
  have et:lW fil nam s n=(true,{s2 with subs:=s2.subs.map fun x=>(x.1,dB {n.msg with retain:=true} x.2)}):=by unfold lW;rw[hap,hz]
  rw[hz]at e26;have e26:CI D 26 [aB (nm .mdl),cD e v n] h1=some (.tuple ⟨[str (codes.map UInt8.ofNat),.bool bb,.bool true]⟩,h2):=e26;have l28:A.load true 4 (.pointer (some ⟨h.next,28,none⟩)) h2=some (.agg ⟨aR n.msg⟩):=by rw[aV,g2];rfl
  obtain⟨h3,hh3⟩:∃h3,h3=h2.push (.cells RaW.Z31L (some 0)):=⟨_,rfl⟩;have e3:A.box 4 RaW.Z31 h2=some (aB h2.next,h3):=by rw[hh3];rfl
  have g3:h3.get h2.next=some (.cells RaW.Z31L (some 0)):=by rw[hh3,H.get_push,kB rfl]
  obtain⟨h4,hh4⟩:∃h4,h4=h3.put h2.next (.cells (aR n.msg) (some 0)):=⟨_,rfl⟩;have e4:A.store 4 (aB h2.next) (.agg ⟨aR n.msg⟩) h3=some h4:=by rw[qU,g3,hh4];rfl
  have g4:h4.get h2.next=some (.cells (aR n.msg) (some 0)):=by rw[hh4,H.get_put,kB rfl]
  obtain⟨h5,hh5⟩:∃h5,h5=h4.put h2.next (.cells (aR {n.msg with retain:=true}) (some 0)):=⟨_,rfl⟩;have e5:A.store 1 (.pointer (some ⟨h2.next,3,none⟩)) (.bool true) h4=some h5:=by rw[qU,g4,hh5];rfl
  have g5:h5.get h2.next=some (.cells (aR {n.msg with retain:=true}) (some 0)):=by rw[hh5,H.get_put,kB rfl]
  have x5:Ext h2 h5:=by rw[hh5,hh4,hh3];exact((Ext.push h2 _).put _ _ (kF _)).put _ _ (kF _)
  have n5:h5.next=h2.next+1:=by rw[hh5,hh4,hh3];rfl
  have r5:=r2.ext hB2.next x5;have c2:=ld k2 (r5.ok .chk) 2 rfl;rw[k2']at c2;obtain⟨bi,er,ei⟩:=gP (r5.ok .subs) (r5.lt .subs trivial).2;refine⟨s2.subs.length+1,bKg ok _ _ h ?_⟩;simp only[F19,aNr,aVw,aVb,bJl,aQq,bHu,e1,RaK.S,Nat.zero_add,c0,l35,e26,t0,t1,t2,l28,e3,e4,e5,c2,er];refine bLz k3 r2 hB2 (mb:=h2.next) (m:={n.msg with retain:=true}) (kF _) (by omega) (fun o b t ms h1 h2=>kG (inv.past o b t ms h1 h2) hK) _ (fun h6 nm6 w1 w2 w3 w4=>?_) (Nat.lt_succ_self _) ei (x5.trans (Ext.push h5 bi)) (by rw[(Ext.push h5 bi).get _ (by omega)];exact g5) (Nat.lt_succ_self _);simp only[bJm];rw[et];exact okU_iff.2 ⟨rfl,⟨nm6,w1.trans k2',w2⟩,w3,by omega⟩
end
end Go.Proofs.YtpanfoafajepcaaGreatDoor.Ra

set_option maxRecDepth 100000
namespace Go.Proofs.YtpanfoafajepcaaGreatDoor.Ra
open Tryz (prog)
open Go Go.AM RaA RaI RaW RaX RaY
open _root_.Ra
def bF (l:List (Bs×Bs)):List (List Value):=l.map fun x=>[str x.1,str x.2]
theorem aDz (l:List (Bs×Bs)):(bF l).length=l.length:=by simp[bF]
structure K4 (D:CF)(T0:H)(fil nam:Bs→Bool)(tak:Bs→Bs→Bool):Prop where
 k3:K3 D T0 fil nam tak
 sf:∀h v (es:List (Bs×Bs)),Vec 2 h v (bF es)→es.length≤2^41→∃h' u,D 43 [v,.func (.func 44) ⟨[]⟩ ⟨[]⟩] h=some (u,h')∧SliceE 2 h' v (bF (es.mergeSort hle))∧ExtBut (fun i=>sid v=some i) h h'
def qA (c:Bs)(r:Row):List (Bs×Bs):=r.map fun y=>(y.1,c)
def cM (s:St)(sk:List Bs):List (Bs×Bs):=sk.flatMap fun c=>match aE s.seats c with|some x=>qA c x.row|none=>[]
theorem aDy {s:St}{sk:List Bs}(hk:(s.seats.map (·.1)).Nodup)(hs:sk.Nodup)(hall:∀x∈s.seats,x.1∈sk)(hsub:∀c∈sk,c∈s.seats.map (·.1)):(cM s sk).mergeSort hle=iV s:=by
 have hp:sk.Perm (s.seats.map (·.1)):=(List.perm_ext_iff_of_nodup hs hk).2 fun c=>⟨hsub c,fun hc=>by
  obtain⟨x,hx,rfl⟩:=List.mem_map.1 hc;exact hall x hx⟩
 refine aBo ?_;have h1:(cM s sk).Perm (cM s (s.seats.map (·.1))):=hp.flatMap_right _;refine h1.trans (List.Perm.of_eq ?_);unfold cM;rw[List.flatMap_map];have:∀x∈s.seats,(match aE s.seats x.1 with|some x_1=>qA x.1 x_1.row|none=>[])=x.2.row.map fun y=>(y.1,x.1):=fun x hx=>by
  obtain⟨c,y⟩:=x;rw[eI hk hx];rfl
 rw[List.flatMap_def,List.flatMap_def];exact congrArg List.flatten (List.map_congr_left this)
def aCi (s:St)(h:H)(v:Value)(h':H):Prop:=SliceE 2 h' v (bF (iV s))∧Ext h h'∧(iV s).length≤2^41∧∀i,sid v=some i→h.next≤i
section
variable {D:CF}{T0:H}{fil nam:Bs→Bool}{tak:Bs→Bs→Bool}(k4:K4 D T0 fil nam tak){B:H}{a:Nat}{dm:Pw.Dm}{rl:Pw.Rl}
include k4
theorem aXx {row:Row}{c:Bs}{it:Value}{x24:Value}{h0:H}{x30:Value}(hrow:row.length≤16)(kx:Pk.K2 Unit)(s24:∀i,sid x24=some i→i<h0.next∧sid x30≠some i){es0:List (Bs×Bs)}(hes0:es0.length≤2^40)
 (k1:∀h' x3,Vec 2 h' x3 (bF (es0++qA c row))→ExtBut (fun j=>sid x30=some j) h0 h'→(∀j,sid x3=some j→sid x30=some j∨h0.next≤j)→kx it x3 h'=some ()) {L:Nat}:
 ∀(d i m:Nat) (h:H) (x3:Value),i+d=row.length→d<m→SliceE 2 h x24 (bM row)→Vec 2 h x3 (bF (es0++qA c (row.take i)))→ExtBut (fun j=>sid x30=some j) h0 h→(∀j,sid x3=some j→sid x30=some j∨h0.next≤j)→
  aFz (CI D) L dm rl kx m (.int .i64 (row.length:Int)) (.int .i64 (i:Int)) (str c) x24 it x3 h=some ():=by
 have k2:=k4.k3.k2;intro d
 induction d with
 |zero=>
  intro i m h x3 hi hm sx vv xb hx;obtain⟨m,rfl⟩:∃r,m=r+1:=⟨m-1,by omega⟩;have hd:decide ((i:Int)<(row.length:Int))=false:=kD (by omega);rw[pN (by omega)]at vv;simp only[aFz,aPc,zZ,hd,RaK.S];exact k1 h x3 vv xb hx
 |succ d ih=>
  intro i m h x3 hi hm sx vv xb hx;obtain⟨m,rfl⟩:∃r,m=r+1:=⟨m-1,by omega⟩;have hd:decide ((i:Int)<(row.length:Int))=true:=kC (by omega);obtain⟨y,hy⟩:∃y,row[i]?=some y:=⟨_,kN (by omega)⟩;obtain⟨off,qq,ei,l2⟩:=nH k2 sx hy;obtain⟨h1,h2,e1,e2,l0,l1,x2,lt⟩:=jW k2 (h:=h) y;have b86:A.zN RaW.Z86L [(0,1,str y.1),(1,1,str c)]=some (.agg ⟨[str y.1,str c]⟩):=rfl;have hb1:=bY (n:=2) (zs:=RaW.Z86L) (v:=.agg ⟨[str y.1,str c]⟩) (vs:=[str y.1,str c]) h2 rfl rfl rfl;have so:=gG (h:=h2) (n:=2) (vs:=[str y.1,str c]) rfl;obtain⟨h3,hh3⟩:∃h3,h3=h2.push (.cells [str y.1,str c] (some 2)):=⟨_,rfl⟩;rw[←hh3]at hb1 so;have x3':Ext h2 h3:=hh3▸Ext.push h2 _;have v3:=(vv.ext x2).ext x3';have hle:(bF (es0++qA c (row.take i))).length≤2^40+16:=by simp[bF,qA];omega
  obtain⟨h4,ea,v4,n4,y4⟩:=dT (bs:=32) v3 so (by simp) (by omega) (by simp only[List.length_singleton];omega) (by simp only[List.length_singleton];omega);generalize hw:Value.slice (some ⟨h3.next,0,none⟩) ((bF (es0++qA c (row.take i))).length+[[str y.1,str c]].length) (2*((bF (es0++qA c (row.take i))).length+[[str y.1,str c]].length))=w at ea v4;have hsw:sid w=some h3.next:=by rw[←hw];rfl
  have w2:A.zA prog .add 3 (.int .i64 (i:Int)) (.int .i64 1)=some (.int .i64 ((i+1:Nat):Int)):=by rw[bG,aS (by omega)]
  have ev:bF (es0++qA c (row.take i))++[[str y.1,str c]]=bF (es0++qA c (row.take (i+1))):=by
   have hil:=(List.getElem?_eq_some_iff.1 hy).1;have:row.take (i+1)=row.take i++[y]:=by rw[List.take_add_one,hy];rfl
   rw[this];simp[bF,qA]
  rw[ev]at v4;have nx2:=x2.next;have nx3:=x3'.next;have nxb:=xb.next;have nx:=ih (i+1) m h4 w (by omega) (by omega) (((sx.ext x2).ext x3').extBut y4 fun j hj e=>by
   have:=(s24 j hj).1;rcases hx j e with h1|h1
   ·exact(s24 j hj).2 h1
   ·omega) v4 ⟨by omega,fun j hj hn=>by
    rw[y4.get j (by omega) fun e=>?_,x3'.get j (by omega),x2.get j (by omega)]
    ·exact xb.get j hj hn
    ·rcases hx j e with h1|h1
     ·exact hn h1
     ·omega⟩ fun j hj=>by rw[hsw]at hj;cases hj;exact .inr (by omega)
  simp only[aFz,aPc,zZ,hd,RaK.S,ei,l2,show RaW.Z52=RaI.Z52 from rfl,e1,e2,Nat.zero_add,l0,b86,hb1,ea,w2];exact nx
theorem W30 (ok:RelOK prog 3 RaZ.isR dm rl){h:H}{nm:Col→Nat}{s:St}(r:Rep B h nm s a)(hB:Ext B h)(hlen:s.seats.length≤2^36):∃L,dC prog (CI D) RaZ.isR dm rl L 3 30 [aB (nm .mdl)] h (aCi s h):=by
 have k3:=k4.k3;have k2:=k3.k2;have z43:=tE (t:=43) (by kernel_rfl) (nm .mdl);have m0:=ld k2 (r.ok .mdl) 0 rfl;obtain⟨bi,er,ei⟩:=gP (r.ok .seats) (r.lt .seats trivial).2;have lseats:=r.lt .seats trivial;have hrows:∀c x,aE s.seats c=some x→x.row.length≤16:=fun c x hx=>(r.ok (.lst c) x hx).1;have hcount:∀sk:List Bs,(cM s sk).length≤sk.length*16:=fun sk=>by
  induction sk with
  |nil=>simp[cM]
  |cons c sk ih=>
   have:(cM s (c::sk)).length=(match aE s.seats c with|some x=>qA c x.row|none=>[]).length+(cM s sk).length:=by simp[cM]
   rw[this,kM];have:(match aE s.seats c with|some x=>qA c x.row|none=>[]).length≤16:=by
    cases hx:aE s.seats c with
    |none=>simp
    |some x=>have:=hrows c x hx;simpa[qA]using this
   omega
 refine⟨s.seats.length+17,bOl ok _ h ?_⟩;simp only[F30,aRk,bHe,aQu,bHd,z43,RaK.S,Nat.zero_add,m0,er];refine gR (ek:=bO) (it:=h.next) (m:=nm .seats) (l:=s.seats.map fun x=>(x.1,aB (nm (.seat x.1)))) (σ:=Value) (W:=fun n x3 h'=>aIz (CI D) (s.seats.length+17) dm rl (fun x3 h=>aPb (CI D) h x3 fun x2 h'=>okU (aCi s _ x2 h')) n (aB h.next) x3 h')
  (I:=fun sk x3 h2=>Vec 2 h2 x3 (bF (cM s sk))∧Ext h h2∧h.next<h2.next∧(∀j,sid x3=some j→h.next<j)∧sk.Nodup∧∀c∈sk,c∈s.seats.map (·.1)) (by omega) (fun n s h hh=>by simp only[aIz,aUj];exact hh) ?_ ?_ s.seats.length [] _ _ (s.seats.length+17) List.nodup_nil (by simp) (by simp) (by omega) ei
  ⟨Vec.nil 2 _,Ext.push h bi,Nat.lt_succ_self _,fun j hj=>by simp[sid]at hj,List.nodup_nil,by simp⟩
 ·intro n sk x3 h2 i2 it2 y hy hys h3 a3 i3 e3 next
  obtain⟨v2,x2,lt2,fr2,nd2,sb2⟩:=i2;simp only[List.mem_map]at hy;obtain⟨⟨c,x⟩,hmem,rfl⟩:=hy;have hx:=eI r.keysS hmem;have hys:c∉sk:=hys;have e3:A.zT (aB h.next) h3=some (.tuple ⟨[str c,aB (nm (.seat c))]⟩):=e3;have x03:Ext h h3:=a3.ext x2 (kF _);have n3:=a3.1;have r3:=r.ext hB.next x03;have s0:=ld k2 (r3.ok (.seat c) x hx) 0 rfl;obtain⟨h16,vv,lr,_⟩:=r3.ok (.lst c) x hx;obtain⟨h4,w,e42,sw,x4,fw⟩:=bKc k2 h16 lr;have v3:Vec 2 h3 x3 (bF (cM s sk)):=v2.extBut (S:=fun j=>j=h.next) ⟨by omega,fun j _ hn=>a3.2 j hn⟩ fun j hj e=>by have:=fr2 j hj;omega
  have v4:=v3.ext x4;have ln:A.zH w=some (.int .i64 (x.row.length:Int)):=by have:=sw.len.1;rwa [bM,pA]at this
  have nx4:=x4.next;have l3:=v3.slice.sid_lt;have hsl:sk.length≤s.seats.length:=by have:=rR sk (s.seats.map (·.1)) nd2 sb2;simpa using this
  have hc:=hcount sk;have hsnoc:cM s (sk++[c])=cM s sk++qA c x.row:=by
   unfold cM;rw[List.flatMap_append];simp[hx]
  have fin:=aXx k4 (dm:=dm) (rl:=rl) (L:=s.seats.length+17) (row:=x.row) (c:=c) (it:=aB h.next) (x24:=w) (h0:=h4) (x30:=x3) h16 (fun x14 x3 h'=>aIz (CI D) (s.seats.length+17) dm rl (fun x3 h=>aPb (CI D) h x3 fun x2 h'=>okU (aCi s _ x2 h')) n x14 x3 h') (fun i hi=>by
   have h1:=fw i hi;exact⟨sw.sid_lt i hi,fun e=>by have:=l3 i e;omega⟩) (es0:=cM s sk) (by omega) (fun h' x3' v' xb hx'=>next x3' h' ⟨by rw[hsnoc];exact v',⟨by have:=xb.next;have:=x03.next;omega,fun j hj=>by
    rw[xb.get j (by omega) fun e=>by have:=fr2 j e;omega,x4.get j (by omega)];exact x03.get j hj⟩,by have:=xb.next;omega,fun j hj=>by
     rcases hx' j hj with h1|h1
     ·exact fr2 j h1
     ·omega,by
      rw[List.nodup_append];exact⟨nd2,by simp,fun a ha b hb=>by rw[List.mem_singleton.1 hb];exact fun e=>hys (by have e:a=c:=e;rw[←e];exact ha)⟩,fun k hk=>by
      rcases List.mem_append.1 hk with hk|hk
      ·exact sb2 k hk
      ·rw[List.mem_singleton.1 hk];exact List.mem_map_of_mem (f:=(·.1)) hmem⟩ (i3.congr (by rw[xb.get _ (by omega) fun e=>by have:=fr2 _ e;omega,x4.get _ (by omega)]) (by rw[xb.get _ (by omega) fun e=>by have:=fr2 _ e;omega,x4.get _ (by omega)]))) x.row.length 0 (s.seats.length+17) h4 x3 (by omega) (by omega) sw (by simpa[qA]using v4) ⟨kF _,fun _ _ _=>rfl⟩ (fun j hj=>.inl hj)
  simp only[aCt,qG,qH,RaK.S,aUi,e3,s0,Nat.zero_add,e42,ln];exact fin
 ·intro n sk x3 h2 i2 all hsub hnd;obtain⟨v2,x2,lt2,fr2,nd2,sb2⟩:=i2;have hsl:sk.length≤s.seats.length:=by have:=rR sk (s.seats.map (·.1)) nd2 sb2;simpa using this
  have hc:=hcount sk;have ha:=aDy (s:=s) (sk:=sk) r.keysS nd2 (fun x hx=>all (x.1,aB (nm (.seat x.1))) (List.mem_map_of_mem (f:=fun x:Bs×tG=>(x.1,aB (nm (.seat x.1)))) hx)) sb2;obtain⟨h5,u,e43,s43,y43⟩:=k4.sf h2 x3 (cM s sk) v2 (by omega);have e43:CI D 43 [x3,.func (.func 44) ⟨[]⟩ ⟨[]⟩] h2=some (u,h5):=eK e43;simp only[aJm,RaK.S,aPb,e43];rw[ha]at s43;refine okU_iff.2 ⟨s43,⟨by have:=x2.next;have:=y43.next;omega,fun j hj=>?_⟩,?_,fun i hi=>by have:=fr2 i hi;omega⟩
  ·rw[y43.get j (by omega) fun e=>by have:=fr2 j e;omega];exact x2.get j hj
  ·rw[←ha,List.length_mergeSort];omega
end
end Go.Proofs.YtpanfoafajepcaaGreatDoor.Ra
