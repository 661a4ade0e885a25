import Derived.Test.YtbmdhjdgpeleoaaGreatDoorGa
import Derived.Laws.Strings
import Derived.Laws.StructEq
import Derived.Laws.Small
import Derived.RangeFuncLeaves
import Derived.RangeFuncRecord
import Derived.OrdersIn
import Derived.LoopNIn
set_option linter.defProp false
namespace Go.AM
open Go
variable {Z:Act}{o:BinOp}{J:Bool}{b:Builtin}{s:ByteArray}{c:Call}{e:Ent}{h j:H}{M:Mu}{NG i n nt:Nat}{p pos:String}{Y:Type}{v x z:kA}{g guard u:kB (Nat×Bool)}{d dst:kB Tmp}{cl l:kC kJ}{W w:kE}{t type y:kF}{consts:kH Bool}{a after:kH Edge}{O ops:kH Oper}{f:kK}
section
variable (P:kD){μ:Mu}
def aLn (r:RH NG μ h w){t2 e:kF}(hu:P.underlying t=some (.slice e))(hn:szP P e=some n){c cd:kA}(f:A.yP n v x h=some (c,j))(rd:VR μ v cd)(rx:VR μ x z)(ty:kF):
 ∃cv V,(Builtin.copy_ #[t,t2] ty #[cd,z]).run P w=.ok cv V∧Step NG μ h w μ j V∧VR μ c cv:=by
 unfold A.yP at f;split at f
 ·simp at f
 ·rename_i R b;obtain⟨W,M,Z,e3,b3⟩:=qR P r b rx;have C:W.length=A.zG x*n:=by rw[←Z.1];exact b3
  have a3:=xK P (w:=w) b rx;have u:∀k,k≤A.zG x→(Builtin.firstCells n k z).run P w=.ok ⟨W.take (k*n)⟩ w:=by
   intro k hk;have O:k*n≤A.zG x*n:=Nat.mul_le_mul_right n hk;unfold A.elems at b;split at b
   ·have:=rx.nilslice_inv;subst this;simp only[A.zG,Nat.zero_mul]at C;have:=pY.1 C;subst this;simp[Builtin.firstCells]
   ·rename_i id o m n3;obtain⟨l,a',c',Y,rfl,p,hle,q⟩:=rx.slice_inv;by_cases f3:k=0
    ·subst f3;simp[Builtin.firstCells,loadCells,loadCellsFrom]
    ·simp only[A.zG]at hk O C;have g3:Nat.beq m 0=false:=by
      cases hb:Nat.beq m 0 with
      |false=>rfl
      |true=>have:=beq_iff.1 hb;omega
     rw[g3]at b;simp only[sW]at b;have L:c'≠0:=by unfold fL at p;split at p<;>omega
     split at b
     ·rename_i S own X;obtain⟨U,b⟩:=aB b;have U:=ble_iff.1 U;obtain⟨g,y,fz,h1,h2,h3,h4,h5,_⟩:=r.cells X Y;have K:=M w rfl;simp only[A.zG,Builtin.firstCells,q L]at K⊢;rw[nN P w l.blk (l.off+o) g y fz h1 (m*n) (by omega)]at K;rw[nN P w l.blk (l.off+o) g y fz h1 (k*n) (by omega)];simp only[Result.ok.injEq,Array.mk.injEq,and_true]at K;rw[←K,List.take_take,dU O]
     ·simp at b
   ·rename_i s;obtain⟨U,b⟩:=aB b;have U:=beq_iff.1 U;subst U;rw[rx.string_inv]at M⊢;have K:=M w rfl;simp only[A.zG,Builtin.firstCells,pG,Result.ok.injEq,and_true]at K⊢;simp only[A.zG]at hk;apply Array.ext';have e1:=sX Array.toList K;simp at e1⊢;rw[←e1,←List.map_take]
   ·simp at b
  split at f
  ·simp only[kP,kW]at f;obtain⟨rfl,rfl⟩:=f;rw[rd.nilslice_inv];refine⟨.int .i64 0,w,?_,Step.refl r,.int .i64 0⟩;have:=u 0 (sE _);simp only[Builtin.copy_,pU,pM,pN,pD,sU hu,pC,bM P hn,a3,Nat.min_def,Nat.le_zero_eq];rw[show(if A.zG x=0 then A.zG x else 0)=0 by split<;>omega,this]
   simp[goInt]
  ·rename_i id o d n3;obtain⟨l,a',c',Y,rfl,p,hle,q⟩:=rd.slice_inv;have I:Nat.min (A.zG x) d≤A.zG x:=Nat.min_le_left _ _;have i3:Nat.min (A.zG x) d≤d:=Nat.min_le_right _ _;have j3:=u _ I;have J:∀V,(storeCells a' (W.take (Nat.min (A.zG x) d*n))).run P w=.ok () V→(Builtin.copy_ #[t,t2] ty #[.slice (some a') d c',z]).run P w=.ok (goInt (Nat.min (A.zG x) d:Nat)) V:=by
    intro V Q;simp only[Builtin.copy_,pU,pM,pN,pD,sU hu,pC,bM P hn,a3,j3,Q,pG]
   cases B:Nat.beq (Nat.min (A.zG x) d) 0 with
   |true=>
    rw[B]at f;simp only[sV,kP,kW]at f;obtain⟨rfl,rfl⟩:=f;have B:=beq_iff.1 B;refine⟨_,w,J w (by rw[B];simp[storeCells]),Step.refl r,?_⟩;rw[B];exact .int .i64 0
   |false=>
    rw[B]at f;simp only[sW]at f;have B:Nat.min (A.zG x) d≠0:=fun e=>by rw[e]at B;simp at B
    have L:c'≠0:=by unfold fL at p;split at p<;>omega
    split at f
    ·rename_i S es X;obtain⟨E,f⟩:=aB f;simp only[kP,kW]at f;obtain⟨rfl,rfl⟩:=f;have E:=ble_iff.1 E;obtain⟨g,y,fz,h1,h2,h3,h4,h5,h6,h7⟩:=r.cells X Y;have O:Nat.min (A.zG x) d*n≤A.zG x*n:=Nat.mul_le_mul_right n I;have m3:(W.take (Nat.min (A.zG x) d*n)).length=Nat.min (A.zG x) d*n:=by simp[C]
     have k3:(R.take (Nat.min (A.zG x) d*n)).length=Nat.min (A.zG x) d*n:=by simp[b3]
     have G:=Z.take (Nat.min (A.zG x) d*n);have D:∀a∈R.take (Nat.min (A.zG x) d*n),cellish a=true:=fun a q=>e3 a (mU q);generalize hT:W.take (Nat.min (A.zG x) d*n)=T at*;generalize hN:R.take (Nat.min (A.zG x) d*n)=N at*;have Q:=jQ P T w l.blk (l.off+o) 0 g y fz h1 (by omega) (by rw[h2];exact h6 rfl) (G.cell_all D);refine⟨_,_,J _ (by rw[q L];simpa using Q),Step.write r X rfl rfl Y ?_,.int .i64 _⟩;have l3:(splice g.toList (l.off+o) T).length=g.size:=by rw[aZ _ _ _ (by simp;omega)];simp
     have d3:(splice S o N).length=S.length:=aZ _ _ _ (by omega);refine BR.mk_cells (bJ (BR.lt (r.br _ _ _ X Y))) (by omega) (by omega) ?_ ?_ h6 h7
     ·have e:((splice g.toList (l.off+o) T).drop l.off).take S.length=splice ((g.toList.drop l.off).take S.length) o T:=by
       apply mT;intro i;rw[sK];by_cases hi:i<S.length
       ·rw[kM hi,sL,dK _ _ _ (by simp;omega),dK _ _ _ (by simp;omega)];by_cases h8:i<o
        ·rw[kM (by omega),kM h8,sK,kM hi,sL]
        ·rw[kL (by omega),kL h8];by_cases h9:i<o+T.length
         ·rw[kM (by omega),kM h9];congr 1;omega
         ·rw[kL (by omega),kL h9,sK,kM hi,sL]
       ·rw[kL hi,List.getElem?_eq_none];rw[aZ _ _ _ (by simp;omega)];simp;omega
      rw[d3,e];exact h4.splice G o
     ·intro a q;unfold splice at q;simp only[mP]at q;rcases q with(q|q)|q
      ·exact h5 a (mU q)
      ·exact D a q
      ·exact h5 a (mX q)
    ·simp at f
  ·simp at f
def aHg (r:RH NG μ h w){e:kF}{a:kC kA}(S:P.underlying t=some (.slice e))(hz:jN P e=some z)(X:aN z=some a)(W:cQ a=true)(U:a.length=n)(a3:0<n)(d:A.clear n a v h=some j)(rx:VR μ v x)(ty:kF):
 ∃w',(Builtin.clear_ #[t] ty #[x]).run P w=.ok (.tuple #[]) w'∧Step NG μ h w μ j w':=by
 unfold A.clear at d;split at d
 ·simp only[kP]at d;subst d;rw[rx.nilslice_inv];refine⟨w,?_,Step.refl r⟩;simp[Builtin.clear_,sU S]
 ·rename_i id f b c;obtain⟨l,a',c',N,rfl,q,hle,k⟩:=rx.slice_inv
  cases y:Nat.beq b 0 with
  |true=>
   rw[y]at d;simp only[sV,kP]at d;subst d;have y:=beq_iff.1 y;subst y;refine⟨w,?_,Step.refl r⟩;simp[Builtin.clear_,sU S]
  |false=>
   rw[y]at d;simp only[sW]at d;have Q:b≠0:=fun e=>by rw[e]at y;simp at y
   have L:c'≠0:=by unfold fL at q;split at q<;>omega
   split at d
   ·rename_i C es M;obtain⟨s,d⟩:=aB d;simp only[kP]at d;subst d;have s:=ble_iff.1 s;obtain⟨g,u,K,h1,h2,h3,h4,Y,Z,h7⟩:=r.cells M N;have I:=qF W;have p:=jL X;have e1:(Builtin.zeroCells z.cells b).toList=A.zeros a b:=by
     rw[p];have e2:=vL a (by omega) b;simp only[Builtin.zeroCells,tN,Array.toList_range];exact e2
    have V:(A.zeros a b).length=b*n:=by rw[nR,U]
    have D:∀B∈A.zeros a b,cellish B=true:=fun B k=>(I B (iM a b B k)).2;have O:LR μ (A.zeros a b) (A.zeros a b):=LR.of_plain_mem μ (fun B k=>(I B (iM a b B k)).1);generalize hT:A.zeros a b=T at*;have R:=jQ P T w l.blk (l.off+f) 0 g u K h1 (by omega) (by rw[h2];exact Z rfl) D;refine⟨_,?_,Step.write r M rfl rfl N (o:=.cells ⟨splice g.toList (l.off+f) T⟩ u K) ?_⟩
    ·simp only[Builtin.clear_,pU,pM,pD,sU S,pC];rw[k L];have G:(storeCells ⟨l.blk,l.off+f,none⟩ T).run P w=.ok () (setObj w l.blk (.cells ⟨splice g.toList (l.off+f) T⟩ u K)):=by simpa using R
     cases b with
     |zero=>exact dC rfl Q
     |succ m=>simp only[gY P hz,pC,e1,G,pG]
    ·have b3:(splice g.toList (l.off+f) T).length=g.size:=by rw[aZ _ _ _ (by simp;omega)];simp
     have E:(splice C f T).length=C.length:=aZ _ _ _ (by omega);refine BR.mk_cells (bJ (BR.lt (r.br _ _ _ M N))) (by omega) (by omega) ?_ ?_ Z h7
     ·have e:((splice g.toList (l.off+f) T).drop l.off).take C.length=splice ((g.toList.drop l.off).take C.length) f T:=by
       apply mT;intro i;rw[sK];by_cases J:i<C.length
       ·rw[kM J,sL,dK _ _ _ (by simp;omega),dK _ _ _ (by simp;omega)];by_cases h8:i<f
        ·rw[kM (by omega),kM h8,sK,kM J,sL]
        ·rw[kL (by omega),kL h8];by_cases h9:i<f+T.length
         ·rw[kM (by omega),kM h9];congr 1;omega
         ·rw[kL (by omega),kL h9,sK,kM J,sL]
       ·rw[kL J,List.getElem?_eq_none];rw[aZ _ _ _ (by simp;omega)];simp;omega
      rw[E,e];exact h4.splice O f
     ·intro B k;unfold splice at k;simp only[mP]at k;rcases k with(k|k)|k
      ·exact Y B (mU k)
      ·exact D B k
      ·exact Y B (mX k)
   ·simp at d
 ·simp at d
def aLa {e:kF}(u:P.underlying t=some (.slice e)){c:kA}(b:A.zE v=some x)(r:VR μ v c)(y:kF):
 (Builtin.len_ #[t] y #[c]).run P w=.ok x w∧VR μ x x:=by
 unfold A.zE at b;split at b
 ·rename_i a n g;simp only[kP]at b;subst b;refine⟨?_,.int .i64 n⟩;have:∃d f,c=.slice d n f:=by
   cases r with
   |sliceNil=>exact⟨_,_,rfl⟩
   |slice=>exact⟨_,_,rfl⟩
  obtain⟨d,f,rfl⟩:=this;simp[Builtin.len_,sU u,goInt]
 ·simp at b
def aEx (u:P.underlying t=some .string){c:kA}(a:A.zH v=some x)(r:VR μ v c)(y:kF):
 (Builtin.len_ #[t] y #[c]).run P w=.ok x w∧VR μ x x:=by
 unfold A.zH at a;split at a
 ·rename_i s;simp only[kP]at a;subst a;rw[r.string_inv];exact⟨by simp[Builtin.len_,sU u,goInt],.int .i64 s.size⟩
 ·simp at a
def aLb (r:RH NG μ h w){e:kF}(u:P.underlying t=some (.map e y)){c:kA}(a:A.lenM v h=some x)(i:VR μ v c)(n:kF):
 (Builtin.len_ #[t] n #[c]).run P w=.ok x w∧VR μ x x:=by
 unfold A.lenM at a;split at a
 ·simp only[kP]at a;subst a;have:c=.map none:=by cases i;rfl
  subst this;exact⟨by simp[Builtin.len_,sU u,goInt],.int .i64 0⟩
 ·rename_i id;have:∃l,μ id=some l∧c=.map (some l.blk):=by cases i with|map f=>exact⟨_,f,rfl⟩
  obtain⟨l,f,rfl⟩:=this;split at a
  ·rename_i s b m;simp only[kP]at a;subst a;obtain⟨d,j,k,_⟩:=r.br _ _ _ m f;refine⟨?_,.int .i64 _⟩;have g:(getObj l.blk).run P w=.ok (.map d b) w:=by simp only[getObj,Sem.run,j]
   simp only[Builtin.len_,pU,pM,pD,sU u,pC,g,pG,goInt,k]
  ·simp at a
 ·simp at a
def xB (f:kA→ByteArray→Sem (ForInStep ByteArray))(d:∀n s,f (.int .u8 n) s=pure (.yield (s.push (UInt8.ofNat n.toNat)))):
 ∀(b:kC kA) (l:kC kG) (a:ByteArray) (w:kE),A.zV b=some l→
 (forIn (m:=Sem) b a f).run P w=.ok (⟨⟨a.data.toList++l⟩⟩:ByteArray) w
 |[],l,a,w,h=>by
  simp only[A.zV,kP]at h;subst h;simp[forIn,pG]
 |v::b,l,a,w,h=>by
  cases v with
  |int k n=>
   cases k with
   |u8=>
    simp only[A.zV]at h;obtain⟨e,c,rfl⟩:=sZ.1 h;have i:=xB f d b e (a.push (UInt8.ofNat n.toNat)) w c;simp only[List.forIn_cons,d,pD,pG,pC];rw[i];congr 3;simp[ByteArray.push]
   |_=>simp[A.zV]at h
  |_=>simp[A.zV]at h
def aPu (r:RH NG μ h w){e:kF}(R:P.underlying t=some (.slice y))(O:P.underlying e=some .string)(Q:P.underlying y=some (.int .u8)){c:kA}(f:A.b2s v h=some x)(J:VR μ v c):∃M,(convert t e c).run P w=.ok M w∧VR μ x M:=by
 unfold A.b2s at f;split at f
 ·simp only[kP]at f;subst f;rw[J.nilslice_inv];refine⟨.string .empty,?_,.string _⟩;simp only[convert,pD,sU R,sU O,pC,sU Q,Conv.bytesToString,pG]
 ·rename_i a n W;split at f
  ·rename_i j q;obtain⟨l,p,rfl⟩:=sZ.1 f;obtain⟨N,o,g,B,E⟩:=qR P r q J;have:∃K L,c=.slice (some K) n L:=by cases J with|slice=>exact⟨_,_,rfl⟩
   obtain⟨K,L,rfl⟩:=this;have G:eU j=true:=by
    clear o g B E q f
    induction j generalizing l with
    |nil=>rfl
    |cons x j S=>
     cases x with
     |int k m=>
      cases k with
      |u8=>
       simp only[A.zV]at p;obtain⟨U,D,_⟩:=sZ.1 p;simp only[eU,aJ,mF];exact S U D
      |_=>simp[A.zV]at p
     |_=>simp[A.zV]at p
   have C:N=j:=by
    apply mT;intro i
    cases u:j[i]? with
    |none=>rw[mS]at u⊢;rw[←g.1];exact u
    |some b=>
     obtain⟨V,z,I⟩:=g.get u;rw[z,I.eq_of_plain (fD j G i b u)]
   subst C;have d:=o w rfl;simp only[A.zG,Builtin.firstCells,tA]at d;refine⟨_,?_,.string _⟩;simp only[convert,pD,sU R,sU O,pC,sU Q,Conv.bytesToString,d];rw[←Array.forIn_toList,xB P _ (fun n s=>rfl) N l .empty w p];simp
  ·simp at f
 ·simp at f
def aOz (r:RH NG μ h w)(C:μ h.next=none){e:kF}(L:P.underlying t=some .string)(J:P.underlying e=some (.slice y))(K:P.underlying y=some (.int .u8))(g:A.s2b v h=some (x,j))(M:VR μ v z):∃E f u,(convert t e z).run P w=.ok E f∧Step NG μ h w u j f∧VR u x E:=by
 unfold A.s2b at g;split at g
 ·rename_i s;obtain⟨G,g⟩:=aB g;simp only[kP,kW]at g;obtain⟨rfl,rfl⟩:=g;have G:=ble_iff.1 G;rw[M.string_inv];have B:∃q,q=(Question.appendCap s.size 0 y).cut (w.tape w.drawn (.appendCap s.size 0 y)):=⟨_,rfl⟩;obtain⟨q,B⟩:=B;have I:s.size≤q:=by rw[B];simp only[Question.cut];omega
  have n:s.data.size=s.size:=rfl;let d:kC kA:=(s.data.toList.map fun b=>Value.int .u8 b.toNat)++List.replicate (q-s.size) (.int .u8 0);have m:d.length=q:=by simp[d,n];omega
  let f:kE:=(w.drew.alloc (.cells ⟨d⟩ y)).freeze ⟨w.heap.size,q,none⟩ 1;have p:f.heap=w.heap.push (.cells ⟨d⟩ y (q,q+1)):=by
   simp only[f,World.freeze,World.alloc,World.drew];rw[kL (by omega)];apply Array.ext_getElem?;intro i;rw[Array.getElem?_modify,Array.getElem?_push,Array.getElem?_push];by_cases k:w.heap.size=i
   ·subst k;simp
   ·rw[kL k,kL (mV k),kL (mV k)]
  refine⟨.slice (some ⟨w.heap.size,0,none⟩) s.size q,f,_,?_,Step.push (l:=⟨w.heap.size,0,1,q⟩) (o:=.cells ⟨d⟩ y (q,q+1)) r C rfl p ?_ ?_ ?_ rfl ?_,?_⟩
  ·have a:(s.data.map (fun b=>Value.int .u8 b.toNat)++Array.replicate (q-s.size) (.int .u8 0))=(⟨d⟩:kH kA):=by
    apply Array.ext';simp[d]
   simp only[convert,pD,sU L,sU J,pC,sU K,Conv.stringToBytes,run_choose,Question.forced,pP,mD,←B,World.drew_eq,newRow,run_newObj,pG,a,markStringish,run_shape];have D:({w.drew with heap:=w.drew.heap.push (.cells ⟨d⟩ y)}:kE).shape? w.drew.heap.size=some (y,q):=by
    show(match(w.heap.push (.cells ⟨d⟩ y))[w.heap.size]? with|some (.cells c elem _)=>some (elem,c.size)|_=>none)=_
    rw[show(w.heap.push (.cells ⟨d⟩ y))[w.heap.size]?=some (.cells ⟨d⟩ y)from by simp];simp[m]
   rw[D];simp only[run_freeze,pC];rfl
  ·simp only[f,World.freeze];rfl
  ·simp only[f,World.freeze];rfl
  ·simp only[f,World.freeze];rfl
  ·refine BR.mk_cells (ds:=d) (ty:=y) (fz:=(q,q+1)) (by rw[p];simp) m (by simp[n];omega) ?_ (by simp[cellish]) (fun _ i k=>by simp only at k⊢;omega) (fun _ y=>by simpa using y);have:(d.drop 0).take (s.data.toList.map fun b=>Value.int .u8 b.toNat).length=s.data.toList.map fun b=>Value.int .u8 b.toNat:=by
    simp[d]
   rw[this];exact LR.of_plain_mem _ (by simp[aJ])
  ·refine .slice (l:=⟨w.heap.size,0,1,q⟩) (Mu.set_same _ _ _) ?_ (by omega) (fun _=>rfl);unfold fL;rw[kL (by omega)];simp only;exact⟨by omega,by omega⟩
 ·simp at g
def aHd {c:kA}(a:A.yI P t v x=some J)(b:VR μ v c)(r:VR μ x z)(w:kE):
 (Op.equal t c z).run P w=.ok J w:=by
 suffices key:∀d,(Op.equalIn (d+1) t c z).run P w=.ok J w from key 9999
 intro d;unfold A.yI at a;split at a
 ·rename_i e p q u
  cases b with
  |ptrNil=>
   simp only[Option.isNone_none,sV,kP]at a
   cases r with
   |ptrNil=>subst a;simp[Op.equalIn,sU u]
   |ptr l=>subst a;simp[Op.equalIn,sU u]
  |ptr l=>
   simp only[Option.isNone_some,sW]at a
   cases r with
   |ptrNil=>simp only[Option.isNone_none,sV,kP]at a;subst a;simp[Op.equalIn,sU u]
   |ptr l=>simp at a
 ·rename_i e p f c1 q g c2 u
  cases b with
  |sliceNil=>
   simp only[Option.isNone_none,sV,kP]at a
   cases r with
   |sliceNil=>subst a;simp[Op.equalIn,sU u]
   |slice l=>subst a;simp[Op.equalIn,sU u]
  |slice l=>
   simp only[Option.isNone_some,sW]at a
   cases r with
   |sliceNil=>simp only[Option.isNone_none,sV,kP]at a;subst a;simp[Op.equalIn,sU u]
   |slice l=>simp at a
 ·rename_i k e p q u
  cases b with
  |mapNil=>
   simp only[Option.isNone_none,sV,kP]at a
   cases r with
   |mapNil=>subst a;simp[Op.equalIn,sU u]
   |map l=>subst a;simp[Op.equalIn,sU u]
  |map l=>
   simp only[Option.isNone_some,sW]at a
   cases r with
   |mapNil=>simp only[Option.isNone_none,sV,kP]at a;subst a;simp[Op.equalIn,sU u]
   |map l=>simp at a
 ·rename_i u;simp only[kP]at a;subst a;cases r
  cases b with
  |func=>simp[Op.equalIn,sU u]
  |yield=>simp[Op.equalIn,sU u]
  |methOf=>simp[Op.equalIn,sU u]
 ·rename_i u;simp only[kP]at a;subst a;cases b
  cases r with
  |func=>simp[Op.equalIn,sU u]
  |yield=>simp[Op.equalIn,sU u]
  |methOf=>simp[Op.equalIn,sU u]
 ·simp at a
end
section
variable (P:kD){μ:Mu}
def aZu {X:Type}(P:kD):∀(s:Sem Y) (f:Y→Sem X) (b:X),ev P (s>>=f)=some b→∃a,ev P s=some a∧ev P (f a)=some b:=by
 intro s
 induction s with
 |pure a=>intro f b h;exact⟨a,rfl,h⟩
 |program k i=>intro f b h;exact i P f b h
 |mark m k i=>intro f b h;exact i f b h
 |_=>intro f b h;simp[ev,Bind.bind,Sem.bind]at h
def qP {x y:kK}{c:kA}(g:(eqGuard o t (.tmp 0) (.tmp 0) v c).run P w=.ok () w):
 (eqGuard o t x y v c).run P w=.ok () w:=by
 by_cases n:v=.nilIface∧c=.nilIface
 ·obtain⟨rfl,rfl⟩:=n;cases o<;>cases x<;>cases y<;>first|exact g|rfl
 ·cases v<;>cases c<;>first|exact g|exact dC ⟨rfl,rfl⟩ n
def aFd {x y:kK}{c d f:kA}(a:A.yO P o t v c=some z)(r:VR μ v d)(b:VR μ c f):
 ∃l,(do eqGuard o t x y d f;binOp o t d f:Sem kA).run P w=.ok l w∧VR μ z l:=by
 unfold A.yO at a
 cases p:(aJ v&&aJ c)with
 |true=>
  rw[p]at a;simp only[sV]at a;simp only[pA]at p;rw[r.eq_of_plain p.1,b.eq_of_plain p.2];split at a
  ·rename_i u n;obtain⟨k,a⟩:=aB a;simp only[kP]at a;subst a;obtain⟨_,j,m⟩:=aZu P _ _ _ n;have r1:=qP P (x:=x) (y:=y) (aCn P _ _ j w);have r2:=aCn P _ _ m w;exact⟨u,by simp only[pD,r1,pC,r2],VR.of_plain μ u k⟩
  ·simp at a
 |false=>
  rw[p]at a;simp only[sW]at a;have g:∀(x:Bool),A.yI P t v c=some x→(eqGuard o t (.tmp 0) (.tmp 0) d f).run P w=.ok () w:=by
   intro x e;unfold A.yI at e;split at e
   ·cases r<;>cases b<;>cases o<;>rfl
   ·cases r<;>cases b<;>cases o<;>rfl
   ·cases r<;>cases b<;>cases o<;>rfl
   ·cases r<;>cases b<;>cases o<;>rfl
   ·cases r<;>cases b<;>cases o<;>rfl
   ·simp at e
  have i:∀(x:Bool),A.yI P t v c=some x→(binOp .eql t d f).run P w=.ok (.bool x) w∧(binOp .neq t d f).run P w=.ok (.bool (!x)) w:=by
   intro x e;have q:=aHd P e r b w;have j:binOp .eql t d f=(do pure (.bool (←Op.equal t d f)):Sem kA)∧binOp .neq t d f=(do pure (.bool (!(←Op.equal t d f))):Sem kA):=by
    unfold A.yI at e;split at e
    ·cases r<;>cases b<;>exact⟨rfl,rfl⟩
    ·cases r<;>cases b<;>exact⟨rfl,rfl⟩
    ·cases r<;>cases b<;>exact⟨rfl,rfl⟩
    ·cases r<;>cases b<;>exact⟨rfl,rfl⟩
    ·cases r<;>cases b<;>exact⟨rfl,rfl⟩
    ·simp at e
   rw[j.1,j.2];simp[q]
  cases o with
  |eql=>
   simp only at a;obtain⟨x,e,rfl⟩:=sZ.1 a;exact⟨.bool x,by simp only[pD,qP P (g x e),pC,(i x e).1],.bool x⟩
  |neq=>
   simp only at a;obtain⟨x,e,rfl⟩:=sZ.1 a;exact⟨.bool (!x),by simp only[pD,qP P (g x e),pC,(i x e).2],.bool (!x)⟩
  |_=>simp at a
def aLl {C:kF→kA→kA→kB Bool}(u:∀t e b r,aJ e=true→aJ b=true→C t e b=some r→∀w,(Op.equalIn n t e b).run P w=.ok r w){a d:kC kA}(Q:aJ (.agg ⟨a⟩)=true)(R:aJ (.agg ⟨d⟩)=true):∀(fs:kC Field) (r:Bool),A.eqFs P C (.agg ⟨a⟩) (.agg ⟨d⟩) fs=some r→∀w,(Op.eqFields n ⟨a⟩ ⟨d⟩ fs).run P w=.ok r w:=by
 have x:cQ a=true:=by simpa[aJ,uE]using Q
 have y:cQ d=true:=by simpa[aJ,uE]using R
 have s:∀l:kC kA,cQ l=true→LR (fun _=>none) l l∧∀e∈l,cellish e=true:=fun l o=>
  ⟨⟨rfl,fun i e b c k=>oE _ l o i e b c k⟩,fun e c=>by
   obtain⟨i,G⟩:=mM.1 c;exact(eD l o i e G).2⟩
 have p:∀(l:kC kA),cQ l=true→∀g S B v,A.part g S B (.agg ⟨l⟩)=some v→aJ v=true:=by
  intro l o g S B v j;simp only[A.part]at j
  cases g with
  |false=>exact(eD l o _ _ j).1
  |true=>
   simp only[sV]at j;obtain⟨_,j⟩:=aB j;simp only[kP]at j;subst j;simp only[aJ,uE];have:∀(m:kC kA),(∀e∈m,aJ e=true∧cellish e=true)→cQ m=true:=by
    intro m;induction m with
    |nil=>intro _;rfl
    |cons e m E=>intro h;simp only[cQ,pA];exact⟨h e (by simp),E fun b k=>h b (by simp[k])⟩
   refine this _ fun e c=>?_;have c:=mX (mU c);obtain⟨i,G⟩:=mM.1 c;exact eD l o i e G
 intro fs
 induction fs with
 |nil=>intro r h w;simp only[A.eqFs,kP]at h;subst h;rfl
 |cons f fs E=>
  intro r h w;simp only[A.eqFs]at h;simp only[Op.eqFields]
  cases D:(f.name== "_")with
  |true=>
   rw[D]at h;simp only[sV]at h;rw[kL (by simpa using D)];exact E r h w
  |false=>
   rw[D]at h;simp only[sW]at h;rw[kM (by simpa using D)];split at h
   ·rename_i g S I z;split at h
    ·rename_i e b c k;obtain⟨W,L,U⟩:=oD P (w:=w) I z c (s a x).1 (s a x).2;obtain⟨X,M,V⟩:=oD P (w:=w) I z k (s d y).1 (s d y).2;have J:=p a x _ _ _ _ c;have K:=p d y _ _ _ _ k;have:=U.eq_of_plain J;subst this;have:=V.eq_of_plain K;subst this;split at h
     ·rename_i q O;have N:=u _ _ _ _ J K O w;simp only[pD,L,M,N,pC]
      cases q with
      |true=>simp only[sV]at h;simpa using E r h w
      |false=>simp only[sW,kP]at h;subst h;simp
     ·simp at h
    ·simp at h
   ·simp at h
def aDq:∀(d D:Nat),d≤D→∀(t:kF) (a b:kA) (r:Bool),aJ a=true→aJ b=true→A.eqV P d t a b=some r→∀w,(Op.equalIn D t a b).run P w=.ok r w:=by
 intro d
 induction d with
 |zero=>intro D _ t a b r _ _ h;simp[A.eqV]at h
 |succ d i=>
  intro D l t a b r g j h w;obtain⟨D,rfl⟩:∃D',D=D'+1:=⟨D-1,by omega⟩;simp only[A.eqV]at h;split at h
  ·rename_i u;split at h
   ·simp only[kP]at h;subst h;exact run_equalIn_bool' w D t _ _ u
   ·simp at h
  ·rename_i u;split at h
   ·obtain⟨k,c⟩:=aB h;clear h;replace k:=eq_of_beq k;subst k;simp only[kP]at c;subst c;exact run_equalIn_int w D t _ _ _ _ u
   ·simp at h
  ·rename_i u;split at h
   ·simp only[kP]at h;subst h;have:=run_equalIn_string w D t ‹ByteArray› ‹ByteArray› u;rw[run_equalIn_string w D t _ _ u,Go.ByteArray.toList_eq,Go.ByteArray.toList_eq]
   ·simp at h
  ·rename_i fs u;split at h
   ·rename_i x y;obtain⟨m⟩:=x;obtain⟨n⟩:=y
    cases s:P.stoodInHeld t with
    |true=>rw[s]at h;simp at h
    |false=>
     rw[s]at h;simp only[sW]at h;have f:P.fieldsOf t=fs:=by simp[Program.fieldsOf,u]
     rw[run_equalIn_struct w D t _ _ (by rw[f];exact u) s,f];exact aLl P (fun t a b r p q e w=>i D (by omega) t a b r p q e w) g j fs.toList r h w
   ·simp at h
  ·simp at h
def aPj {x y:kK}{k j:IntKind}{I b:Int}:(eqGuard o t x y (.int k I) (.int j b)).run P w=.ok () w:=by
 cases o<;>rfl
def aPi {x y:kK}{a b:ByteArray}:(eqGuard o t x y (.string a) (.string b)).run P w=.ok () w:=by
 cases o<;>rfl
def aPt {x y:kK}{c f O Q:kA}(a:A.z P o t v c=some f)(K:VR μ v O)(L:VR μ c Q):
 ∃U,(do eqGuard o t x y O Q;binOp o t O Q:Sem kA).run P w=.ok U w∧VR μ f U:=by
 unfold A.z at a;split at a
 ·rename_i M N;unfold A.eqA at a;obtain⟨p,a⟩:=aB a;simp only[pA]at p;rw[K.eq_of_plain p.1,L.eq_of_plain p.2]
  cases C:P.eqGuardType P.depth t with
  |true=>rw[C]at a;simp at a
  |false=>
   rw[C]at a;simp only[sW]at a;simp only[pD,run_eqGuard_agg w _ _ _ _ _ _ C,pC];split at a
   ·split at a
    ·rename_i q S;simp only[kP]at a;subst a;rw[run_eql_struct,aDq P 20 10000 (by omega) t _ _ _ p.1 p.2 S w];exact⟨_,rfl,.bool _⟩
    ·simp at a
   ·split at a
    ·rename_i q S;simp only[kP]at a;subst a;rw[run_neq_struct,aDq P 20 10000 (by omega) t _ _ _ p.1 p.2 S w];exact⟨_,rfl,.bool _⟩
    ·simp at a
   ·simp at a
 ·rename_i M N;have r:=K.bool_inv;have B:=L.bool_inv;subst r;subst B;have C:(eqGuard o t x y (.bool M) (.bool N)).run P w=.ok () w:=by cases o<;>rfl
  simp only[pD,C,pC];split at a
  ·split at a
   ·rename_i b;simp only[kP]at a;subst a;refine⟨_,?_,.bool _⟩;have:=run_equal_bool w t M N b;simp only[binOp,pD,this,pC];rfl
   ·simp at a
  ·split at a
   ·rename_i b;simp only[kP]at a;subst a;refine⟨_,?_,.bool _⟩;have:=run_equal_bool w t M N b;simp only[binOp,pD,this,pC];rfl
   ·simp at a
  ·simp at a
 ·rename_i k m j n;have r:=K.int_inv;have B:=L.int_inv;subst r;subst B;simp only[pD,aPj P,pC];have s:∀u,A.shI o k m n=some u→(Op.shift o k m j n).run P w=.ok u w∧aJ u=true:=by
   intro u b;unfold A.shI at b;unfold Op.shift;by_cases g:n<0
   ·simp[g]at b
   ·simp only[g,decide_false,sW]at b;simp only[g,mD];cases o<;>simp only[kP,reduceCtorEq]at b<;>subst b<;>exact⟨rfl,rfl⟩
  have G:∀u,A.binI o k m n=some u→(o≠.shl)→(o≠.shr)→(binOp o t (.int k m) (.int k n)).run P w=.ok u w∧aJ u=true:=by
   intro u b V W;unfold A.binI at b;cases o<;>simp only[kP,reduceCtorEq]at b
   all_goals first|exact dC rfl V|exact dC rfl W|skip
   all_goals first
    |(subst b;refine⟨?_,rfl⟩;simp only[binOp,ne_eq,not_true_eq_false,mD,Op.intArith,Op.intBits,Op.intCmp];rfl)
    |skip
   all_goals
    by_cases g:n=0
    ·subst g;simp at b
    ·have R:(n==0)=false:=by simpa using g
     rw[R]at b;simp only[sW,kP]at b;subst b;refine⟨?_,rfl⟩;simp only[binOp,ne_eq,not_true_eq_false,mD,Op.intDiv,g];rfl
  by_cases i:o=.shl
  ·subst i;obtain⟨I,J⟩:=s f a;exact⟨f,I,VR.of_plain μ f J⟩
  ·by_cases l:o=.shr
   ·subst l;obtain⟨I,J⟩:=s f a;exact⟨f,I,VR.of_plain μ f J⟩
   ·have e:(bif k==j then A.binI o k m n else none)=some f:=by
     cases o<;>first|exact a|exact dC rfl i|exact dC rfl l
    cases d:k==j with
    |false=>rw[d]at e;simp at e
    |true=>
     rw[d]at e;have d:=eq_of_beq d;subst d;obtain⟨I,J⟩:=G f e i l;exact⟨f,I,VR.of_plain μ f J⟩
 ·rename_i m n;have r:=K.string_inv;have B:=L.string_inv;subst r;subst B;simp only[pD,aPi P,pC];have X:binOp o t (.string m) (.string n)=Op.stringOp o m n:=by cases o<;>rfl
  rw[X];have E:(Op.stringOp o m n).run P w=.ok f w∧aJ f=true:=by
   unfold A.binS at a;unfold Op.stringOp;simp only[Go.ByteArray.toList_eq];cases o<;>simp only[kP,reduceCtorEq]at a
   all_goals first
    |(subst a;exact⟨rfl,rfl⟩)
    |skip
   obtain⟨hle,a⟩:=aB a;have hle:=ble_iff.1 hle;simp only[kP]at a;subst a;refine⟨?_,rfl⟩;have D:IntKind.i64.max=9223372036854775807:=by decide
   simp only[D];rw[kL (by omega)];have:(m++n:ByteArray)=⟨⟨m.data.toList++n.data.toList⟩⟩:=by
    apply jV;simp[ByteArray.data_append]
   rw[this];rfl
  exact⟨f,E.1,VR.of_plain μ f E.2⟩
 ·exact aFd P a K L
def aTp {o:UnOp}{c:kA}(a:A.un P o v=some x)(r:VR μ v c):∃b,(Op.unary o c).run P w=.ok b w∧VR μ x b:=by
 unfold A.un at a;split at a
 ·have e:=r.bool_inv;subst e;simp only[kP]at a;subst a;exact⟨_,rfl,.bool _⟩
 obtain⟨d,a⟩:=aB a;rw[r.eq_of_plain d];split at a
 ·rename_i u f;obtain⟨p,a⟩:=aB a;simp only[kP]at a;subst a;exact⟨u,aCn P _ _ f w,VR.of_plain μ u p⟩
 ·simp at a
def aLo {e:kF}{c:kA}(a:A.conv P t e v=some x)(r:VR μ v c):∃b,(convert t e c).run P w=.ok b w∧VR μ x b:=by
 unfold A.conv at a;split at a
 ·rename_i s f;have d:=r.int_inv;subst d;simp only[kP]at a;subst a;refine⟨_,?_,.int _ _⟩;simp only[convert,pD,sU s,sU f,pC];rfl
 obtain⟨g,a⟩:=aB a;rw[r.eq_of_plain g];split at a
 ·rename_i u i;obtain⟨p,a⟩:=aB a;simp only[kP]at a;subst a;exact⟨u,aCn P _ _ i w,VR.of_plain μ u p⟩
 ·simp at a
def LR.eq_of_plain {a d:kC kA}(r:LR μ a d)(p:eU a=true):d=a:=by
 apply mT;intro i
 cases c:a[i]? with
 |none=>rw[mS]at c⊢;rw[←r.1];exact c
 |some b=>
  obtain⟨g,e,f⟩:=r.get c;rw[e,f.eq_of_plain (fD a p i b c)]
def aGp {c:kH kF}{a d:kC kA}(e:A.zS P b c t a=some v)(r:LR μ a d):
 ∃g,(builtin b c t consts ⟨d⟩).run P w=.ok (.value g) w∧VR μ v g:=by
 unfold A.zS at e;obtain⟨i,e⟩:=aB e;rw[r.eq_of_plain i];split at e
 ·rename_i u f;obtain⟨p,e⟩:=aB e;simp only[kP]at e;subst e;refine⟨u,?_,VR.of_plain μ u p⟩;cases b<;>simp only at f<;>first
   |(simp at f;done)
   |(simp only[builtin,pD,aCn P _ _ f w,pC,pG])
 ·simp at e
end
section
variable {P:kD}{μ:Mu}
def aNu (a b:ByteArray):(a==b)=(a.data.toList==b.data.toList):=by
  cases a with|mk a=>cases b with|mk b=>
  show(a==b)=_;rw[mR,beq_iff_eq,beq_iff_eq];exact⟨fun e=>by rw[e],fun e=>Array.toList_inj.1 e⟩
def fF (k:A.yB P t v=true):∃d,P.underlying t=some d∧((∃j,d=.int j∧∃n i,v=.int n i)∨(d=.string∧∃s,v=.string s)):=by
  unfold A.yB at k;split at k
  ·rename_i j a x u;exact⟨_,u,.inl ⟨_,rfl,_,_,rfl⟩⟩
  ·rename_i x u;exact⟨_,u,.inr ⟨rfl,_,rfl⟩⟩
  ·simp at k
def aNk (a:A.keyT P t=some J)(s:A.keyS J v=true):A.yB P t v=true:=by
  unfold A.keyT at a;unfold A.yB;split at a
  ·rename_i j u;simp only[kP]at a;subst a;cases v<;>simp_all [A.keyS]
  ·rename_i u;simp only[kP]at a;subst a;cases v<;>simp_all [A.keyS]
  ·simp at a
def aGw (k:A.yB P t v=true)(e:A.yD v x=some J):
    ∃d,P.underlying t=some d∧Instr.sameNow d v x=some J∧(J=true→v=x):=by
  obtain⟨d,u,h⟩:=fF k;refine⟨d,u,?_⟩;rcases h with⟨j,rfl,n,i,rfl⟩|⟨rfl,s,rfl⟩
  ·cases x with
   |int m z=>
     simp only[A.yD]at e;obtain⟨a,c⟩:=aB e;have a:n=m:=by simpa using a
     subst a;have h3:=pB c;subst h3;exact⟨by simp[Instr.sameNow],fun b=>by rw[eq_of_beq b]⟩
   |_=>simp[A.yD]at e
  ·cases x with
   |string z=>
     simp only[A.yD,kP]at e;subst e;exact⟨by rw[Instr.sameNow,aNu],fun b=>by rw[jV (eq_of_beq b)]⟩
   |_=>simp[A.yD]at e
def aLc (k:A.yB P t v=true):aJ v=true:=by
  obtain⟨d,_,h⟩:=fF k;rcases h with⟨_,_,_,_,rfl⟩|⟨_,_,rfl⟩<;>rfl
def aBs (k:A.yB P t v=true)(r:VR μ v x):x=v:=by
  obtain⟨d,_,h⟩:=fF k;rcases h with⟨_,_,_,_,rfl⟩|⟨_,_,rfl⟩<;>cases r<;>rfl
def aCe (k:A.yB P t v=true)(b:Bool)(n:Nat):(Instr.checkKey b (n+1) t v).run P w=.ok () w:=by
  obtain⟨d,u,h⟩:=fF k;rcases h with⟨_,rfl,_,_,rfl⟩|⟨rfl,_,rfl⟩<;>simp[Instr.checkKey,sU u]
def eC (k:A.yB P t v=true)(b:Bool):(Instr.checkKey b 10000 t v).run P w=.ok () w:=aCe k b 9999
def EsR (μ:Mu)(s:kC Ent)(l:kC kJ):Prop:=
  l.length=s.length∧∀(i:Nat) (e:Ent),s[i]?=some e→aJ e.key=true∧∃c,l[i]?=some c∧ER μ e c
def EsR.tail {s:kC Ent}{c:kJ}(r:EsR μ (e::s) (c::l)):EsR μ s l:=
  ⟨by have:=r.1;simpa using this,fun i a b=>by simpa using r.2 (i+1) a (by simpa using b)⟩
def gI (I:A.yB P t v=true){d:TypeDesc}(G:P.underlying t=some d):∀(s:kC Ent) (l:kC kJ) (i:Nat) (r:kB (Nat×kA)),EsR μ s l→A.findE v s i=some r→
    (match r with
     |none=>Instr.findNow d v l i=some none
     |some (j,K)=>∃n o,j=i+n∧n<s.length∧Instr.findNow d v l i=some (some (j,o))∧VR μ K o∧(∃e,s[n]?=some e∧e.key=v∧e.val=K)∧∃c,l[n]?=some c∧c.key=v):=by
  intro s
  induction s with
  |nil=>
    intro l i r m a;have:l=[]:=pY.1 m.1;subst this;simp only[A.findE,kP]at a;subst a;rfl
  |cons e s J=>
    intro l i r m a
    cases l with
    |nil=>have:=m.1;simp at this
    |cons c l=>
      obtain⟨Q,L,y,k,E,x⟩:=m.2 0 e rfl;simp only[pM,kP]at y;subst y;simp only[A.findE]at a
      cases u:A.yD v e.key with
      |none=>rw[u]at a;simp at a
      |some b=>
        rw[u]at a;simp only at a;obtain⟨M,f,p,g⟩:=aGw I u;rw[G]at f;simp only[kP]at f;subst f;rw[←k]at p
        cases b with
        |true=>
          simp only[sV,kP]at a;subst a;refine⟨0,c.val,by simp,by simp,?_,x,⟨e,rfl,(g rfl).symm,rfl⟩,c,rfl,?_⟩
          ·simp only[Instr.findNow,p]
          ·rw[k,g rfl]
        |false=>
          simp only[sW]at a;have:=J l (i+1) r m.tail a
          cases r with
          |none=>simp only at this⊢;simp only[Instr.findNow,p,this]
          |some q=>
            obtain⟨j,K⟩:=q;simp only at this⊢;obtain⟨n,o,N,O,z,B,C,D⟩:=this;exact⟨n+1,o,by omega,by simp;omega,by simp only[Instr.findNow,p,z],B,by simpa using C,by simpa using D⟩
def fC {d:TypeDesc}(a:P.underlying t=some d){r:kB (Nat×kA)}(f:Instr.findNow d v cl 0=some r):
    (Instr.findKey t v cl).run P w=.ok r w:=by
  simp only[Instr.findKey,pD,sU a,pC,f,pG]
def RH.map (r:RH NG μ h w){id:Nat}{es:kC Ent}{c:Nat}{l:Loc}(g:h.get id=some (.map es c))(j:μ id=some l):
    ∃a,w.heap[l.blk]?=some (.map a c)∧EsR μ es a.toList:=by
  obtain⟨a,b,d,h3⟩:=r.br _ _ _ g j;exact⟨a,b,by simpa using d,fun i e f=>let⟨p,c,hc,hr⟩:=h3 i e f;⟨p,c,by simpa using hc,hr⟩⟩
def BR.mk_map {s:kC Ent}{l:Loc}(b:w.heap[l.blk]?=some (.map ⟨cl⟩ n))(r:EsR μ s cl):BR μ (.map s n) l w:=
  ⟨⟨cl⟩,b,by simpa using r.1,fun i e a=>let⟨p,n,hc,r⟩:=r.2 i e a;⟨p,n,by simpa using hc,r⟩⟩
def VR.map_inv {id:Nat}(r:VR μ (.map (some id)) v):∃l,μ id=some l∧v=.map (some l.blk):=by
  cases r with|map a=>exact⟨_,a,rfl⟩
def aFl {o:Bool}(r:VR μ v x):VR μ (A.yQ J v o) (if J then .tuple #[x,.bool o]else x):=by
  cases J with
  |false=>exact r
  |true=>
    refine .tuple [v,.bool o] [x,.bool o] rfl fun i a b c d=>?_
    match i with
    |0=>simp at c d;subst c;subst d;exact r
    |1=>simp at c d;subst c;subst d;exact .bool o
    |n+2=>simp at c
def aEw (r:RH NG μ h w){e:kF}(B:P.underlying t=some (.map e y))(G:jN P y=some z)(p:aJ z=true){c D s:kA}(k:A.yB P e v=true)(a:A.yA z J v x h=some c)(I:VR μ x s)(N:VR μ v D):∃q,(Instr.lookup t s D J).run P w=.ok q w∧VR μ c q:=by
  rw[aBs k N];obtain⟨d,g,_⟩:=fF k;unfold A.yA at a;split at a
  ·simp only[kP]at a;subst a;have:s=.map none:=by cases I;rfl
   subst this;refine⟨_,?_,aFl (VR.of_plain μ z p)⟩;have m:Instr.findNow d v ([]:kC kJ) 0=some none:=rfl;simp only[Instr.lookup,pD,sU B,pC,pG,eC k,fC g m,gY P G]
  ·rename_i id;obtain⟨l,M,rfl⟩:=I.map_inv;split at a
   ·rename_i E O L;obtain⟨b,K,i⟩:=r.map L M;have o:(getObj l.blk).run P w=.ok (.map b O) w:=by simp only[getObj,Sem.run,K]
    split at a
    ·rename_i j u m;simp only[kP]at a;subst a;obtain⟨n,q,_,_,f,C,_⟩:=gI k g E b.toList 0 _ i m;refine⟨_,?_,aFl C⟩;simp only[Instr.lookup,pD,sU B,pC,o,pG,eC k,fC g f]
    ·rename_i m;simp only[kP]at a;subst a;have f:=gI k g E b.toList 0 _ i m;refine⟨_,?_,aFl (VR.of_plain μ z p)⟩;simp only[Instr.lookup,pD,sU B,pC,o,pG,eC k,fC g f,gY P G]
    ·simp at a
   ·simp at a
  ·simp at a
def aIy (v:kA):∀(s:kC Ent) (n i:Nat),(A.yE v s n)[i]?=if i=n then(s[i]?).map (fun e=>⟨e.key,v,e.born⟩)else s[i]?
  |[],n,i=>by cases n<;>simp[A.yE]
  |e::s,0,0=>by simp[A.yE]
  |e::s,0,i+1=>by simp[A.yE]
  |e::s,n+1,0=>by simp[A.yE]
  |e::s,n+1,i+1=>by simp[A.yE,aIy v s n i]
def xI (v:kA):∀(s:kC Ent) (n:Nat),(A.yE v s n).length=s.length
  |[],n=>by cases n<;>rfl
  |e::s,0=>rfl
  |e::s,n+1=>by simp[A.yE,xI v s n]
def aEq (k:A.yB P t v=true):Instr.sameBits 10000 v v=true:=by
  obtain⟨d,_,h⟩:=fF k;rcases h with⟨_,_,_,_,rfl⟩|⟨_,_,rfl⟩
  ·simp[Instr.sameBits]
  ·simp[Instr.sameBits,aNu]
def xU (r:RH NG μ h w){e:kF}(hu:P.underlying t=some (.map e y)){c p cx:kA}(q:A.yB P e v=true)(m:A.zU v x c h=some j)(rx:VR μ c cx)(rk:VR μ v z)(rv:VR μ x p):
    ∃w',(Instr.mapUpdate t cx z p).run P w=.ok () w'∧Step NG μ h w μ j w':=by
  rw[aBs q rk];obtain⟨d,L,_⟩:=fF q;unfold A.zU at m;split at m
  ·rename_i id;obtain⟨l,X,rfl⟩:=rx.map_inv;split at m
   ·rename_i K Z V;obtain⟨b,O,f⟩:=r.map V X;have G:l.blk<w.heap.size:=(sT.1 O).1;have C:(getObj l.blk).run P w=.ok (.map b Z) w:=by simp only[getObj,Sem.run,O]
    have J:∀o,(Go.setObj l.blk o).run P w=.ok () (setObj w l.blk o):=fun o=>by simp[Go.setObj,Sem.run,O,setObj]
    split at m
    ·rename_i a3 u U;simp only[kP]at m;subst m;obtain⟨n,cu,e1,hn,s,b3,⟨M,he,S,_⟩,c0,Q,R⟩:=gI q L K b.toList 0 _ f U;have e1:a3=n:=by omega
     subst e1;have D:(((b[a3]?).map (·.key)).getD v)=v:=by
       have:b[a3]?=some c0:=by simpa using Q
       simp[this,R]
     have k:b.modify a3 (fun M=>{M with key:=v,val:=p})=⟨b.toList.modify a3 (fun M=>{M with key:=v,val:=p})⟩:=by
       apply Array.ext';simp
     refine⟨setObj w l.blk (.map ⟨b.toList.modify a3 (fun M=>{M with key:=v,val:=p})⟩ Z),?_,Step.write r V rfl rfl X ?_⟩
     ·simp only[Instr.mapUpdate,pD,sU hu,pC,C,eC q,fC L s,D,Instr.keyThatStays,aEq q,mE,pG,J,k]
     ·refine BR.mk_map (bJ G) ⟨?_,fun i N a=>?_⟩
      ·rw[xI,List.length_modify];exact f.1
      ·rw[aIy]at a;split at a
       ·rename_i B;subst B;rw[he]at a;simp only[mA,kP]at a;subst a;obtain⟨I,c1,g,r1,r2,r3⟩:=f.2 i M he;refine⟨I,{c1 with key:=v,val:=p},by simp[g],?_,r2,rv⟩;exact S.symm
       ·rename_i B;obtain⟨I,c1,g,Y⟩:=f.2 i N a;exact⟨I,c1,by rw[List.getElem?_modify,g];simp[mV B],Y⟩
    ·rename_i U;simp only[kP]at m;subst m;have s:=gI q L K b.toList 0 _ f U;have k:b.push {key:=v,val:=p,born:=Z}=⟨b.toList++[{key:=v,val:=p,born:=Z}]⟩:=by
       apply Array.ext';simp
     refine⟨setObj w l.blk (.map ⟨b.toList++[{key:=v,val:=p,born:=Z}]⟩ (Z+1)),?_,Step.write r V rfl rfl X ?_⟩
     ·simp only[Instr.mapUpdate,pD,sU hu,pC,C,eC q,fC L s,J,k]
     ·refine BR.mk_map (bJ G) ⟨by simpa using f.1,fun i N a=>?_⟩;have E:b.toList.length=K.length:=f.1;rw[List.getElem?_append]at a;split at a
      ·obtain⟨I,c1,g,Y⟩:=f.2 i N a;exact⟨I,c1,by rw[pJ (by omega)];exact g,Y⟩
      ·rename_i hi;have W:i=K.length:=by
         have:=(pX.1 a).1;simp at this;omega
       subst W;simp only[dI,pM,kP]at a;subst a;refine⟨aLc q,_,by rw[pK (by omega),E,dI];rfl,rfl,rfl,rv⟩
    ·simp at m
   ·simp at m
  ·simp at m
def Step.push_at (r:RH NG μ h w)(f:μ h.next=none){b:Blk}(c:b.owned=true){o:Obj}(a:BR (μ.set h.next ⟨w.heap.size,0,0,0⟩) b ⟨w.heap.size,0,0,0⟩ (w.alloc o)):
    Step NG μ h w (μ.set h.next ⟨w.heap.size,0,0,0⟩) (h.push b) (w.alloc o):=
  Step.push r f c (o:=o) rfl rfl rfl rfl rfl a
def nQ (w:kE)(o:Obj):(w.alloc o).heap[w.heap.size]?=some o:=Array.getElem?_push_size
def aCg (r:RH NG μ h w)(f:μ h.next=none)(t:kF):
    ∃c b a,(Instr.makeMap t none).run P w=.ok c b∧Step NG μ h w a (h.push (.map [] 0)) b∧VR a (.map (some h.next)) c:=by
  refine⟨.map (some w.heap.size),w.alloc (.map #[] 0),_,rfl,Step.push_at r f rfl (BR.mk_map (cl:=[]) (nQ _ _) ⟨rfl,fun i e d=>by simp at d⟩),?_⟩;exact VR.map (Mu.set_same μ h.next ⟨w.heap.size,0,0,0⟩)
def aGj {o:Obj}(b:w.heap[n]?=some o):setObj w n o=w:=by
  have:w.heap.setIfInBounds n o=w.heap:=by
    apply Array.ext_getElem?;intro i;by_cases e:i=n
    ·subst e;have l:=(sT.1 b).1;rw[b];simp[l]
    ·rw[Array.getElem?_setIfInBounds_ne (mV e)]
  unfold setObj;rw[this]
def uL {c:kH kJ}(b:w.heap[n]?=some (.map c i))(o:Obj):(Go.setObj n o).run P w=.ok () (setObj w n o):=by
  simp[Go.setObj,Sem.run,b,setObj]
def aEy (r:RH NG μ h w){p:kH kF}{e:kF}(G:p[0]?=some t)(K:P.underlying t=some (.map e y)){c:kA}(o:A.yB P e v=true)(b:A.yJ v x h=some j)(Q:VR μ x z)(U:VR μ v c)(V:kF):
    ∃R,(Builtin.delete_ p V #[z,c]).run P w=.ok (.tuple #[]) R∧Step NG μ h w μ j R:=by
  rw[aBs o U];obtain⟨d,D,_⟩:=fF o;unfold A.yJ at b;split at b
  ·simp only[kP]at b;subst b;have:z=.map none:=by cases Q;rfl
   subst this;refine⟨w,?_,Step.refl r⟩;simp only[Builtin.delete_,G,pU,pM,pN,pD,sU K,pC,eC o,pG]
  ·rename_i id;obtain⟨l,O,rfl⟩:=Q.map_inv;split at b
   ·rename_i E W N;obtain⟨a,q,f⟩:=r.map N O;have J:l.blk<w.heap.size:=(sT.1 q).1;have B:(getObj l.blk).run P w=.ok (.map a W) w:=by simp only[getObj,Sem.run,q]
    split at b
    ·rename_i S u I;simp only[kP]at b;subst b;obtain⟨n,X,M,Y,k,_⟩:=gI o D E a.toList 0 _ f I;have M:S=n:=by omega
     subst M;have s:a.eraseIdxIfInBounds S=⟨a.toList.eraseIdx S⟩:=by
       apply Array.ext';simp
     refine⟨setObj w l.blk (.map ⟨a.toList.eraseIdx S⟩ W),?_,Step.write r N rfl rfl O ?_⟩
     ·simp only[Builtin.delete_,G,pU,pM,pN,pD,sU K,pC,B,eC o,fC D k,uL q,pG,s]
     ·refine BR.mk_map (bJ J) ⟨?_,fun i L g=>?_⟩
      ·have C:a.toList.length=E.length:=f.1;rw[List.length_eraseIdx,List.length_eraseIdx,C]
      ·rw[List.getElem?_eraseIdx]at g⊢;split at g
       ·rename_i m;rw[kM m];exact f.2 i L g
       ·rename_i m;rw[kL m];exact f.2 (i+1) L g
    ·rename_i I;simp only[kP]at b;subst b;have k:=gI o D E a.toList 0 _ f I;refine⟨w,?_,Step.refl r⟩;simp only[Builtin.delete_,G,pU,pM,pN,pD,sU K,pC,B,eC o,fC D k,uL q,pG,aGj q]
    ·simp at b
   ·simp at b
  ·simp at b
def aFb (r:RH NG μ h w){b:kH kF}{e:kF}(m:b[0]?=some t)(u:P.underlying t=some (.map e y))(a:A.yN v h=some j)(p:VR μ v x)(B:kF):
    ∃q,(Builtin.clear_ b B #[x]).run P w=.ok (.tuple #[]) q∧Step NG μ h w μ j q:=by
  unfold A.yN at a;split at a
  ·simp only[kP]at a;subst a;have:x=.map none:=by cases p;rfl
   subst this;refine⟨w,?_,Step.refl r⟩;simp only[Builtin.clear_,m,pU,pM,pD,sU u,pC,pG]
  ·rename_i id;obtain⟨l,o,rfl⟩:=p.map_inv;split at a
   ·rename_i C c n;simp only[kP]at a;subst a;obtain⟨d,f,z⟩:=r.map n o;have k:l.blk<w.heap.size:=(sT.1 f).1;have g:(getObj l.blk).run P w=.ok (.map d c) w:=by simp only[getObj,Sem.run,f]
    refine⟨setObj w l.blk (.map #[] c),?_,Step.write r n rfl rfl o (BR.mk_map (cl:=[]) (bJ k) ⟨rfl,fun i D s=>by simp at s⟩)⟩;simp only[Builtin.clear_,m,pU,pM,pD,sU u,pC,g,uL f,pG]
   ·simp at a
  ·simp at a
def aEt (r:RH NG μ h w)(f:μ h.next=none)(u:P.underlying t=some .string)(b:A.yF (.string s) h=some (x,j))(e:VR μ (.string s) v):
    ∃c d a,(Instr.range t v).run P w=.ok c d∧Step NG μ h w a j d∧VR a x c:=by
  simp only[A.yF,kP,kW]at b;obtain⟨rfl,rfl⟩:=b;rw[e.string_inv];refine⟨.pointer (some ⟨w.heap.size,0,none⟩),w.alloc (.stringIter s 0),_,?_,Step.push_at r f rfl ⟨rfl,nQ _ _⟩,?_⟩
  ·simp only[Instr.range,pD,sU u,pC,pG,run_newObj];rfl
  ·exact VR.ptr (off:=0) (Mu.set_same μ h.next ⟨w.heap.size,0,0,0⟩)
def aEu (r:RH NG μ h w)(f:μ h.next=none){e:kF}(u:P.underlying t=some (.map e y)){m:kB Nat}(a:A.yF (.map m) h=some (x,j))(n:VR μ (.map m) v):
    ∃i o b,(Instr.range t v).run P w=.ok i o∧Step NG μ h w b j o∧VR b x i:=by
  cases m with
  |none=>
    simp only[A.yF,kP,kW]at a;obtain⟨rfl,rfl⟩:=a;have:v=.map none:=by cases n;rfl
    subst this;refine⟨.pointer (some ⟨w.heap.size,0,none⟩),w.alloc (.mapIter none 0 #[] 0),_,?_,Step.push_at r f rfl ⟨rfl,none,trivial,nQ _ _⟩,?_⟩
    ·simp only[Instr.range,pD,sU u,pC,pG,run_newObj];rfl
    ·exact VR.ptr (off:=0) (Mu.set_same μ h.next ⟨w.heap.size,0,0,0⟩)
  |some id=>
    simp only[A.yF]at a;obtain⟨l,k,rfl⟩:=n.map_inv;split at a
    ·rename_i z c s;simp only[kP,kW]at a;obtain⟨rfl,rfl⟩:=a;obtain⟨d,p,q⟩:=r.map s k;have g:(getObj l.blk).run P w=.ok (.map d c) w:=by simp only[getObj,Sem.run,p]
     refine⟨.pointer (some ⟨w.heap.size,0,none⟩),w.alloc (.mapIter (some l.blk) c #[] c),_,?_,Step.push_at r f rfl ⟨rfl,some l.blk,⟨l,Mu.le_set f _ _ k,rfl⟩,nQ _ _⟩,?_⟩
     ·simp only[Instr.range,pD,sU u,pC,g,pG,run_newObj];rfl
     ·exact VR.ptr (off:=0) (Mu.set_same μ h.next ⟨w.heap.size,0,0,0⟩)
    ·simp at a
def xM {l:Nat}(c:A.zO s n=some (i,l)):n<s.size∧Utf8.decode s n=(i,l):=by
  unfold A.zO at c;split at c
  ·rename_i b j;have g:n<s.data.toList.length:=(pX.1 j).1;have a:n<s.size:=by simpa using g
   refine⟨a,?_⟩
   cases q:Nat.blt b.toNat 128 with
   |true=>
     rw[q]at c;simp only[sV,kP,kW]at c;obtain⟨rfl,rfl⟩:=c;have f:s.get! n=b:=by
       show s.data[n]! =b;have e:s.data[n]?=some b:=by simpa using j
       rw[getElem!_def,e]
     have d:b.toNat<0x80:=blt_iff.1 q;simp only[Utf8.decode,sS,f,d,mE]
   |false=>
     rw[q]at c;simpa using c
  ·simp at c
def aHi (c:A.zO s n=none):¬n<s.size:=by
  unfold A.zO at c;split at c
  ·rename_i b d;cases q:Nat.blt b.toNat 128<;>(rw[q]at c;exact dC c (by simp))
  ·rename_i a;have:=mS.1 a;simp at this;exact Nat.not_lt.2 this
def VR.iter_inv {id:Nat}{l:Loc}(r:VR μ (.pointer (some ⟨id,0,none⟩)) v)(c:μ id=some l)(b:l.off=0):v=.pointer (some ⟨l.blk,0,none⟩):=by
  obtain⟨d,a,rfl⟩:=r.ptr_inv;rw[c]at a;simp only[kP]at a;subst a;rw[b]
def aGr (r:RH NG μ h w){c:kA}(a:A.yC v h=some (c,j))(u:VR μ v x)(B:kF):
    ∃m y,(Instr.next x true B).run P w=.ok m y∧Step NG μ h w μ j y∧VR μ c m:=by
  unfold A.yC at a;split at a
  ·rename_i id;obtain⟨l,f,_⟩:=u.ptr_inv;split at a
   ·rename_i s p t;obtain⟨q,b⟩:=r.br _ _ _ t f;rw[u.iter_inv f q];have i:l.blk<w.heap.size:=(sT.1 b).1;have g:(getObj l.blk).run P w=.ok (.stringIter s p) w:=by simp only[getObj,Sem.run,b]
    have k:∀o,(Go.setObj l.blk o).run P w=.ok () (setObj w l.blk o):=fun o=>by simp[Go.setObj,Sem.run,b,setObj]
    split at a
    ·rename_i C n e;simp only[kP,kW]at a;obtain⟨rfl,rfl⟩:=a;obtain⟨z,d⟩:=xM e;refine⟨.tuple #[.bool true,.int .i64 p,.int .i32 C],setObj w l.blk (.stringIter s (p+n)),?_,Step.write r t rfl rfl f ⟨q,bJ i⟩,VR.of_plain _ _ rfl⟩;simp only[Instr.next,pD,g,pC,z,mE,d,k,pG,goInt]
    ·rename_i e;simp only[kP,kW]at a;obtain⟨rfl,rfl⟩:=a;refine⟨.tuple #[.bool false],w,?_,Step.refl r,VR.of_plain _ _ rfl⟩;simp only[Instr.next,pD,g,pC,aHi e,mD,pG]
   ·simp at a
  ·simp at a
def EsR.cons_inv {s:kC Ent}(r:EsR μ (e::s) l):∃c a,l=c::a∧aJ e.key=true∧ER μ e c∧EsR μ s a:=by
  cases l with
  |nil=>have:=r.1;simp at this
  |cons c l=>
    obtain⟨p,f,b,d⟩:=r.2 0 e rfl;simp only[pM,kP]at b;subst b;exact⟨c,l,rfl,p,d,r.tail⟩
def EsR.nil_inv {c:kC kJ}(r:EsR μ [] c):c=[]:=pY.1 r.1
def EsR.nil:EsR μ [] []:=⟨rfl,fun i e a=>by simp at a⟩
def EsR.cons {es:kC Ent}{c:kJ}(p:aJ e.key=true)(d:ER μ e c)(r:EsR μ es l):EsR μ (e::es) (c::l):=
  ⟨by simpa using r.1,fun i b a=>by
    cases i with
    |zero=>simp only[pM,kP]at a;subst a;exact⟨p,c,rfl,d⟩
    |succ i=>simpa using r.2 i b (by simpa using a)⟩
def EsR.filter {p:Ent→Bool}{q:kJ→Bool}(a:∀e c,c.born=e.born→q c=p e):∀{es:kC Ent} {cl:kC kJ},EsR μ es cl→EsR μ (es.filter p) (cl.filter q)
  |[],cl,r=>by rw[r.nil_inv];exact .nil
  |e::es,cl,r=>by
    obtain⟨c,l,rfl,d,b,t⟩:=r.cons_inv;have:=EsR.filter a t;rw[dO,dO,a e c b.2.1];split
    ·exact .cons d b this
    ·exact this
def EsR.all {p:Ent→Bool}{q:kJ→Bool}(a:∀e c,c.born=e.born→q c=p e):∀{es:kC Ent} {cl:kC kJ},EsR μ es cl→cl.all q=es.all p
  |[],cl,r=>by rw[r.nil_inv];rfl
  |e::es,cl,r=>by
    obtain⟨c,l,rfl,d,b,t⟩:=r.cons_inv;simp only[dQ,a e c b.2.1,EsR.all a t]
def EsR.isEmpty {s:kC Ent}{l:kC kJ}(r:EsR μ s l):l.isEmpty=s.isEmpty:=by
  cases s with
  |nil=>rw[r.nil_inv];rfl
  |cons e s=>obtain⟨c,a,rfl,_⟩:=r.cons_inv;rfl
def aDz (s:kC Nat)(e:Ent)(c:kJ)(b:c.born=e.born):(!(⟨s⟩:kH Nat).contains c.born)=!A.zW s e:=by
  congr 1;rw[mR,b];simp[A.zW,rP]
def aGs (r:RH NG μ h w){c:kA}(f:A.yK v h=some (c,j))(rx:VR μ v x)(ty:kF):
    ∃cv w',(Instr.next x false ty).run P w=.ok cv w'∧Step NG μ h w μ j w'∧VR μ c cv:=by
  unfold A.yK at f;split at f
  ·rename_i id;obtain⟨l,R,_⟩:=rx.ptr_inv;split at f
   ·rename_i d s g hg;obtain⟨h0,m',hm,t⟩:=r.br _ _ _ hg R;have e3:m'=none:=by cases m' with
      |none=>rfl
      |some _=>exact hm.elim
    subst e3;rw[rx.iter_inv R h0];have G:(getObj l.blk).run P w=.ok (.mapIter none d ⟨s⟩ g) w:=by simp only[getObj,Sem.run,t]
    simp only[kP,kW]at f;obtain⟨rfl,rfl⟩:=f;refine⟨.tuple #[.bool false],w,?_,Step.refl r,VR.of_plain _ _ rfl⟩;simp only[Instr.next,pD,G,pC,pG]
   ·rename_i m d s g hg;obtain⟨h0,m',hm,t⟩:=r.br _ _ _ hg R;obtain⟨bm,rfl⟩:∃bm,m'=some bm:=by cases m' with
      |none=>exact hm.elim
      |some b=>exact⟨b,rfl⟩
    obtain⟨Z,S,rfl⟩:=hm;rw[rx.iter_inv R h0];have d3:l.blk<w.heap.size:=(sT.1 t).1;have G:(getObj l.blk).run P w=.ok (.mapIter (some Z.blk) d ⟨s⟩ g) w:=by simp only[getObj,Sem.run,t]
    have g3:∀o,(Go.setObj l.blk o).run P w=.ok () (setObj w l.blk o):=fun o=>by simp[Go.setObj,Sem.run,t,setObj]
    split at f
    ·rename_i N z b3;obtain⟨⟨y⟩,a3,C⟩:=r.map b3 S;have C:EsR μ N y:=C;have K:(getObj Z.blk).run P w=.ok (.map ⟨y⟩ z) w:=by simp only[getObj,Sem.run,a3]
     have I:((⟨y⟩:kH kJ).all fun e=>decide (e.born≥g))=N.all fun e=>Nat.ble g e.born:=by
       rw[show(⟨y⟩:kH kJ)=y.toArray from rfl,List.all_toArray];exact C.all fun e M t=>by rw[t,mR,pW,ble_iff]
     have J:(⟨y⟩:kH kJ).isEmpty=N.isEmpty:=by rw[←C.isEmpty];cases y<;>rfl
     have B:(⟨s⟩:kH Nat).isEmpty=s.isEmpty:=by cases s<;>rfl
     have k:(⟨y⟩:kH kJ).filter (fun e=>!(⟨s⟩:kH Nat).contains e.born)=⟨y.filter fun e=>!(⟨s⟩:kH Nat).contains e.born⟩:=by
       rw[show(⟨y⟩:kH kJ)=y.toArray from rfl,List.filter_toArray]
     have E:=C.filter (q:=fun M=>!(⟨s⟩:kH Nat).contains M.born) (p:=fun e=>!A.zW s e) fun e M t=>aDz s e M t
     cases u:(!s.isEmpty&&!N.isEmpty&&N.all fun e=>Nat.ble g e.born)with
     |true=>rw[u]at f;simp at f
     |false=>
       rw[u]at f;simp only[sW]at f;split at f
       ·rename_i V;rw[V]at E;rw[E.nil_inv]at k;simp only[kP,kW]at f;obtain⟨rfl,rfl⟩:=f;refine⟨.tuple #[.bool false],w,?_,Step.refl r,VR.of_plain _ _ rfl⟩;simp only[Instr.next,pD,G,pC,K,J,B,I,u,k,pP,mD];simp[choose,Sem.run,Question.forced]
       ·rename_i e X;rw[X]at E;obtain⟨M,i3,Q,hp,Y,ht⟩:=E.cons_inv;rw[ht.nil_inv]at Q;rw[Q]at k;obtain⟨D,f⟩:=aB f;have D:=blt_iff.1 D;simp only[kP,kW]at f;obtain⟨rfl,rfl⟩:=f;have O:M.born<d:=by rw[Y.2.1];exact D
        have W:(⟨[M]⟩:kH kJ).filter (fun e=>decide (e.born<d))=#[M]:=by simp[O]
        have U:(⟨[M]⟩:kH kJ).filter (fun e=>decide (e.born≥d))=#[]:=by simp[O]
        refine⟨.tuple #[.bool true,M.key,M.val],setObj w l.blk (.mapIter (some Z.blk) d ⟨s++[e.born]⟩ z),?_,Step.write r hg rfl rfl R ⟨h0,some Z.blk,⟨Z,S,rfl⟩,bJ d3⟩,?_⟩
        ·have f3:(⟨s⟩:kH Nat).push M.born=⟨s++[e.born]⟩:=by rw[Y.2.1];apply Array.ext';simp
         simp only[Instr.next,pD,G,pC,K,J,B,I,u,k,W,U,pP,mD];simp[choose,Sem.run,Question.forced,g3,Array.isEmpty,Y.2.1]
        ·refine .tuple [.bool true,e.key,e.val] [.bool true,M.key,M.val] rfl fun i a b L t=>?_
         match i with
         |0=>simp at L t;subst L;subst t;exact .bool true
         |1=>simp at L t;subst L;subst t;rw[Y.1];exact VR.of_plain _ _ hp
         |2=>simp at L t;subst L;subst t;exact Y.2.2
         |n+3=>simp at L
       ·simp at f
    ·simp at f
   ·simp at f
  ·simp at f
def aAu:∀(l:kC Nat),(⟨l⟩:kH Nat).back?=A.lastL l
  |[]=>rfl
  |[a]=>rfl
  |a::b::r=>by
    have:=aAu (b::r);simp only[A.lastL];rw[←this];simp
def xL {n:Nat}:∀{es:kC Ent} {cl:kC kJ} {e:Ent},EsR μ es cl→A.findB n es=some e→∃c,cl.find? (fun c=>c.born==n)=some c∧ER μ e c∧aJ e.key=true
  |[],cl,e,r,hf=>by simp[A.findB]at hf
  |e0::es,cl,e,r,hf=>by
    obtain⟨c,l,rfl,p,a,t⟩:=r.cons_inv;simp only[A.findB]at hf
    cases q:Nat.beq e0.born n with
    |true=>
      rw[q]at hf;simp only[sV,kP]at hf;subst hf;exact⟨c,by rw[List.find?_cons_of_pos];simpa[a.2.1]using beq_iff.1 q,a,p⟩
    |false=>
      rw[q]at hf;simp only[sW]at hf;obtain⟨b,d,f⟩:=xL t hf;refine⟨b,?_,f⟩;rw[List.find?_cons_of_neg]
      ·exact d
      ·rw[a.2.1];intro e;rw[beq_iff.2 (eq_of_beq e)]at q;simp at q
def aHe (r:RH NG μ h w){c:kA}(d:A.zT v h=some c)(S:VR μ v x):∃L,(Instr.entry x).run P w=.ok L w∧VR μ c L:=by
  unfold A.zT at d;split at d
  ·rename_i id;obtain⟨l,M,_⟩:=S.ptr_inv;split at d
   ·rename_i m s t q X;obtain⟨U,R,N,k⟩:=r.br _ _ _ X M;obtain⟨J,rfl⟩:∃J,R=some J:=by cases R with
      |none=>exact N.elim
      |some b=>exact⟨b,rfl⟩
    obtain⟨Q,G,rfl⟩:=N;rw[S.iter_inv M U];have E:(getObj l.blk).run P w=.ok (.mapIter (some Q.blk) s ⟨t⟩ q) w:=by simp only[getObj,Sem.run,k]
    split at d
    ·rename_i b Z f y D;obtain⟨⟨K⟩,z,C⟩:=r.map D G;have p:(getObj Q.blk).run P w=.ok (.map ⟨K⟩ f) w:=by simp only[getObj,Sem.run,z]
     obtain⟨g,j⟩:=aB d;have g:=beq_iff.1 g;clear d;subst g;split at j
     ·rename_i e W;have I:=(pB j).symm;subst I;obtain⟨u,V,O,Y⟩:=xL C W;have B:(⟨K⟩:kH kJ).find? (fun u=>u.born==b)=some u:=by
        rw[←Array.find?_toList];exact V
      refine⟨.tuple #[u.key,u.val],?_,?_⟩
      ·simp only[Instr.entry,pD,E,pC,aAu,y,p,bne_self_eq_false,pP,mD,B,pG]
      ·refine .tuple [e.key,e.val] [u.key,u.val] rfl fun i a b o k=>?_
       match i with
       |0=>simp at o k;subst o;subst k;rw[O.1];exact VR.of_plain _ _ Y
       |1=>simp at o k;subst o;subst k;exact O.2.2
       |n+2=>simp at o
     ·simp at j
    ·simp at d
   ·simp at d
  ·simp at d
end
section
variable (P:kD)
def RV (a:Mu)(r:kB kA)(c:kA):Prop:=match r with|some v=>VR a v c|none=>True
def EvR (b:Mu)(c:kK→kB kA)(a:Act):Prop:=∀x v,c x=some v→VR b v (a.eval x)
def Fr (r:kB Nat):Fence:={Fence.wide with round:=r}
def callsIn_Fr {r:kB Nat}{P:kD}{Q:kI}{a:kH kA}{R:Ending→kE→Prop}:CallsIn (Fr r) n P Q a w R↔Calls P Q a w R:=
  (show CallsIn Fence.wide n P Q a w R↔Calls P Q a w R from callsIn_wide)
def cV {a:kK→kA}{o:Oper}{x:Next}(h:(execOp a o).run P w=.ok x W)(f:∀d,x≠.defer d)(g:kB Nat):(o.semAt g a).run P w=.ok x W:=by
  rw[Oper.semAt_eq]
  ·exact h
  ·intro c b;have e:execOp a o=(do pure (.defer (←resolve a c o.type))):=by unfold execOp;rw[b]
   rw[e]at h;simp only[pD]at h
   cases r:(resolve a c o.type).run P w with
   |ok d w2=>
     rw[r]at h;simp only[pC,pG,Result.ok.injEq]at h;exact f d h.1.symm
   |halt e w2=>rw[r]at h;simp[Result.andThen]at h
def Snd (P:kD)(NG:Nat)(g:kK→kB kA)(h:H)(o:Oper)(f:kB kA)(d:H):Prop:=
  h.next≤d.next∧∀(c:Mu) (a:Act) (w:kE),RH NG c h w→Fresh c h.next d.next→EvR c g a→
    ∀(r:kB Nat) (next:Act→kE→Prop) (Q:Exit→Act→kE→Prop),(∀b e v,Step NG c h w b d e→RV b f v→next (a.put o.dst v) e)→o.wpIn (Fr r) 0 P a w next Q
def nI (NG:Nat)(f:Mu)(h:H)(w:kE)(v:kA)(b:H)(e:Ending)(d:kE):Prop:=∃c a,e=.returned c∧Step NG f h w a b d∧VR a v c
def aO (P:kD)(NG:Nat)(C:CF):Prop:=
  ∀f r h v i,C f r h=some (v,i)→h.next≤i.next∧
    (f<Y0→∃n,P.funcs[f]?=some n∧n.name≠ "runtime.NumGoroutine" ∧
      (((∃c,n.body=some c)∧∀e w d,RH NG e h w→Fresh e h.next i.next→LR e r d→Calls P f ⟨d⟩ w (nI NG e h w v i))∨
       (n.body=none∧∀e w d,RH NG e h w→Fresh e h.next i.next→LR e r d→∃k m j,(callFunc f ⟨d⟩).run P w=.ok (.value k) m∧Step NG e h w j i m∧VR j v k)))∧
    (∀id s,f=Y0→r=.int .i64 (.ofNat id)::s→∀e w d l,RH NG e h w→Fresh e h.next i.next→LR e s d→e id=some l→
      ∃g t a b,(Instr.yield l.blk ⟨d⟩).run P w=.ok (.round l.blk g t a b) w∧RoundIn Fence.wide 0 P l.blk g t a b w (nI NG e h w v i))
variable {P}
variable {ρ:kK→kB kA}{o:Oper}
def Snd.pure (s:∀b a w,RH NG b h w→EvR b ρ a→∃e,(execOp a.eval o).run P w=.ok (.value e) w∧VR b v e):Snd P NG ρ h o (some v) h:=
  ⟨kQ _,fun b a w r _ f g next Q n=>by
    obtain⟨e,c,i⟩:=s b a w r f;refine⟨fun _ _=>trivial,?_⟩;show o.uponIn (Fr g) 0 P a next Q ((o.semAt g a.eval).run P w)
    rw[cV P c (fun d=>by simp) g];exact n b w e (Step.refl r) i⟩
def Snd.val (hle:h.next≤j.next)(p:∀c a w,RH NG c h w→Fresh c h.next j.next→EvR c ρ a→∃f g b,(execOp a.eval o).run P w=.ok (.value f) g∧Step NG c h w b j g∧VR b v f):Snd P NG ρ h o (some v) j:=
  ⟨hle,fun c a w r l i k next Q n=>by
    obtain⟨f,g,b,e,s,m⟩:=p c a w r l i;refine⟨fun _ _=>trivial,?_⟩;show o.uponIn (Fr k) 0 P a next Q ((o.semAt k a.eval).run P w)
    rw[cV P e (fun d=>by simp) k];exact n b g f s m⟩
def Snd.skip (hle:h.next≤j.next)(l:∀c a w,RH NG c h w→Fresh c h.next j.next→EvR c ρ a→∃f b,(execOp a.eval o).run P w=.ok .skip f∧Step NG c h w b j f):Snd P NG ρ h o none j:=
  ⟨hle,fun c a w r k g i next Q n=>by
    obtain⟨f,b,e,s⟩:=l c a w r k g;refine⟨fun _ _=>trivial,?_⟩;show o.uponIn (Fr i) 0 P a next Q ((o.semAt i a.eval).run P w)
    rw[cV P e (fun d=>by simp) i];exact n b f undef s trivial⟩
def jU {M:Mu}{Z:Act}(a:EvR M ρ Z):∀(b:kC kK) (s:kC kA),eT ρ b=some s→LR M s (b.map Z.eval)
  |[],s,he=>by simp only[eT,kP]at he;subst he;exact .nil
  |x::b,s,he=>by
    simp only[eT]at he;split at he
    ·rename_i v e;split at he
     ·rename_i d c;simp only[kP]at he;subst he;exact .cons (a x v e) (jU a b d c)
     ·simp at he
    ·simp at he
def gM (a:EvR M ρ Z){x:kB kK}{v:kB kA}(e:oY ρ x=some v):OR M v (x.map Z.eval):=by
  cases x with
  |none=>simp only[oY,kP]at e;subst e;exact trivial
  |some x=>
    simp only[oY]at e;split at e
    ·rename_i u b;simp only[kP]at e;subst e;exact a x u b
    ·simp at e
def lF {s:kB Tmp}(j:c.callee=.value f){g:kI}{first d:kH kA}(k:Z.eval f=.func (.func g) first d){n:Func}(e:P.funcs[g]?=some n){b:Code}(i:n.body=some b)(l:n.name≠ "runtime.NumGoroutine")(w:kE):
    (execOp Z.eval ⟨s,.call c,t,p,a,u⟩).run P w=.ok (.enter g (first++c.args.map Z.eval++d)) w:=by
  have:(n.name== "runtime.NumGoroutine")=false:=by simpa using l
  simp only[execOp,resolve,j,k,Deferred.ofValue,pD,pG,pC,invoke,callFunc,run_program,e,this,pP,mD,i,Option.isNone_some]
def tY (e:c.callee=.value f){g:kI}{first b:kH kA}(i:Z.eval f=.func (.func g) first b)(h:(callFunc g (first++c.args.map Z.eval++b)).run P w=.ok (.value v) W):
    (execOp Z.eval ⟨d,.call c,t,p,a,u⟩).run P w=.ok (.value v) W:=by
  simp only[execOp,resolve,e,i,Deferred.ofValue,pD,pG,pC,invoke,h]
def aGq (r:RH NG M h w){b:String}{g:Nat}(p:aYc P t b=some (g,n)){c:kA}(j:A.zA n v=some x)(G:A.load false 1 x h=some c)(R:VR M v z):
    ∃u i,P.underlying t=some (.pointer u)∧(Go.method (P.types.size+Made.depth) t z b).run P w=.ok (g,i) w∧VR M c i:=by
  unfold aYc at p;split at p
  ·rename_i u ti N B;split at p
   ·rename_i m L;split at p
    ·rename_i U S d k;obtain⟨I,p⟩:=aB p;split at p
     ·rename_i f s;split at p
      ·rename_i e E J C;simp only[kP,kW]at p;obtain⟨rfl,rfl⟩:=p;unfold A.zA at j;split at j
       ·rename_i id o;simp only[kP]at j;subst j;obtain⟨l,K,rfl⟩:=R.ptr_inv;have O:VR M (.pointer (some ⟨id,o+f.offset,none⟩)) (.pointer (some ⟨l.blk,l.off+(o+f.offset),none⟩)):=.ptr K;obtain⟨i,a,Q⟩:=uP (P:=P) r J E G O;refine⟨u,i,N,?_,Q⟩;have q:(typeInfo t).run P w=.ok ti w:=by simp only[typeInfo,pD,run_program,pC,B,pG]
        have y:(loadVar f.type ⟨l.blk,l.off+o+f.offset,none⟩).run P w=.ok i w:=by
          simp only[Instr.loadAt,Instr.sureAddr,pD,pG,pC]at a;rw[Nat.add_assoc];exact a
        unfold uI at s;split at s
        ·rename_i fs D;show(Go.method (P.types.size+99+1) t _ b).run P w=_;rw[Go.method];simp only[pD,q,pC,L,d,follow,sU D,s,I,mE,Place.get,pG,asAddr,fieldPlace,bM P E,Nat.one_ne_zero,mD,eK,k,receiverAt,sU C,y]
        ·simp at s
       ·simp at j
      ·simp at p
     ·simp at p
    ·simp at p
   ·simp at p
  ·simp at p
def vY (j:c.callee=.value f){u:kF}{n:String}(k:Z.eval f=.func (.methodOf t n) #[] #[]){a:kC kA}(i:c.args.map Z.eval=⟨v::a⟩)(l:P.underlying t=some (.pointer u)){g:kI}(m:(Go.method (P.types.size+Made.depth) t v n).run P w=.ok (g,x) w){p:Next}(h:(callFunc g ⟨x::a⟩).run P w=.ok p W):
    (execOp Z.eval ⟨dst,.call c,type,pos,after,guard⟩).run P w=.ok p W:=by
  have e:(⟨v::a⟩:kH kA).extract 1 (⟨v::a⟩:kH kA).size=⟨a⟩:=by apply Array.ext';simp
  have b:#[x]++(⟨a⟩:kH kA)=⟨x::a⟩:=by apply Array.ext';simp
  have d:(⟨v::a⟩:kH kA)[0]?=some v:=rfl;simp only[execOp,resolve,j,k,i,Deferred.ofValue,pD,pG,pC,Go.invoke,Array.empty_append,d,sU l,e,callMethod,run_program,m,b,h]
def uY (b:c.callee=.value f)(e:Z.eval f=.func (.yield n) #[] #[]){x:Next}(h:(Instr.yield n (c.args.map Z.eval)).run P w=.ok x W):
    (execOp Z.eval ⟨d,.call c,t,p,a,g⟩).run P w=.ok x W:=by
  simp only[execOp,resolve,b,e,Deferred.ofValue,pD,pG,pC,invoke,Array.empty_append,h]
def bZ (e:c.callee=.builtin b)(w:kE):
    (execOp Z.eval ⟨d,.call c,t,p,a,g⟩).run P w=(builtin b c.argTypes t (c.args.map fun| .const _=>true|_=>false) (c.args.map Z.eval)).run P w:=by
  simp only[execOp,resolve,e,pD,pG,pC,invoke];rfl
def oP {x y:kB Y}{a:Y}(h:(bif J then x else y)=some a):x=some a∨y=some a:=by
  cases J with
  |false=>exact .inr h
  |true=>exact .inl h
def aHq {c:kA}(d:A.zF n i v x h=some (c,j)):h.next≤j.next:=by
  have f:∀(a b:kA) (k:H),(some (a,k):kB (kA×H))=some (b,j)→h.next≤k.next→h.next≤j.next:=by
    intro a b k e hle;simp only[kP,kW]at e;rw[←e.2];exact hle
  unfold A.zF at d;split at d
  ·simp at d
  ·split at d
   ·rcases oP d with d|d
    ·exact f _ _ _ d (kQ _)
    ·exact f _ _ _ (aB d).2 (by simp)
   ·rcases oP d with d|d
    ·exact f _ _ _ d (kQ _)
    ·split at d
     ·rcases oP d with d|d
      ·exact f _ _ _ (aB d).2 (by simp)
      ·rcases oP (aB d).2 with d|d
       ·exact f _ _ _ d (by simp)
       ·exact f _ _ _ (aB d).2 (by simp)
     ·exact f _ _ _ (aB d).2 (by simp)
     ·simp at d
   ·simp at d
def aPq {c:kA}(d:A.yP n v x h=some (c,j)):h.next≤j.next:=by
  have f:∀(a b:kA) (k:H),(some (a,k):kB (kA×H))=some (b,j)→h.next≤k.next→h.next≤j.next:=by
    intro a b k e hle;simp only[kP,kW]at e;rw[←e.2];exact hle
  unfold A.yP at d;split at d
  ·simp at d
  ·split at d
   ·exact f _ _ _ d (kQ _)
   ·rcases oP d with d|d
    ·exact f _ _ _ d (kQ _)
    ·split at d
     ·exact f _ _ _ (aB d).2 (by simp)
     ·simp at d
   ·simp at d
def bind_some {Y X:Type}{x:kB Y}{f:Y→kB X}{b:X}(h:x.bind f=some b):∃a,x=some a∧f a=some b:=by
  cases x with
  |none=>simp at h
  |some a=>exact⟨a,rfl,h⟩
def aFm {e:kF}(h:bEe P t=some (e,y)):P.underlying t=some (.map e y):=by
  unfold bEe at h;split at h
  ·rename_i k a u;simp only[kP,kW]at h;rw[u,h.1,h.2]
  ·simp at h
def aAe {c:kA}(a:A.zU v x c h=some j):j.next=h.next:=by
  unfold A.zU at a
  repeat' split at a
  all_goals (first|(simp only[kP]at a;rw[←a];simp)|simp at a)
def aHf (a:A.yJ v x h=some j):j.next=h.next:=by
  unfold A.yJ at a
  repeat' split at a
  all_goals (first|(simp only[kP]at a;rw[←a];try simp)|simp at a)
def aHh (a:A.yN v h=some j):j.next=h.next:=by
  unfold A.yN at a
  repeat' split at a
  all_goals (first|(simp only[kP]at a;rw[←a];try simp)|simp at a)
def aAo (a:A.yF v h=some (x,j)):j.next=h.next+1:=by
  unfold A.yF at a
  repeat' split at a
  all_goals (first|(simp only[kP,kW]at a;rw[←a.2];simp)|simp at a)
def aKw (a:A.yC v h=some (x,j)):j.next=h.next:=by
  unfold A.yC at a
  repeat' split at a
  all_goals (first|(simp only[kP,kW]at a;rw[←a.2];try simp)|simp at a)
def aKx (a:A.yK v h=some (x,j)):j.next=h.next:=by
  unfold A.yK at a;split at a
  ·split at a
   ·simp only[kP,kW]at a;rw[←a.2]
   ·split at a
    ·rcases oP a with a|a
     ·simp at a
     ·split at a
      ·simp only[kP,kW]at a;rw[←a.2]
      ·have:=(aB a).2;simp only[kP,kW]at this;rw[←this.2];simp
      ·simp at a
    ·simp at a
   ·simp at a
  ·simp at a
def aJk {e:kF}(h:wF P t=some e):P.underlying t=some (.slice e):=by
  unfold wF at h;split at h
  ·rename_i a u;simp only[kP]at h;subst h;exact u
  ·simp at h
set_option maxHeartbeats 1000000 in
def gN (p3:aL P=true){D:CF}(hC:aO P NG D){K:kB kA→H→kB Y}{r:Y}(C:aop P D ρ h o K=some r):
    ∃rv X,K rv X=some r∧Snd P NG ρ h o rv X:=by
  obtain⟨a4,op,N,j4,l3,m3⟩:=o
  cases op with
  |move x=>
    obtain⟨v,G,M⟩:=bind_some C;exact⟨_,_,M,.pure fun E a w _ B=>⟨_,rfl,B x v G⟩⟩
  |assign x=>
    obtain⟨v,G,M⟩:=bind_some C;exact⟨_,_,M,.pure fun E a w _ B=>⟨_,rfl,B x v G⟩⟩
  |pick c x y=>
    simp only[aop]at C;split at C
    ·rename_i t hc;have j:∀(E:Mu) (a:Act) (w:kE),EvR E ρ a→(execOp a.eval ⟨a4,.pick c x y,N,j4,l3,m3⟩).run P w=.ok (.value (if t then a.eval x else a.eval y)) w:=by
       intro E a w B;have:=(B c _ hc).bool_inv;simp only[execOp,this,asBool,pD,pG,pC]
     split at C
     ·rename_i va vb ha J;refine⟨_,_,C,.pure fun E a w _ B=>⟨_,j E a w B,?_⟩⟩;cases t
      ·exact B y vb J
      ·exact B x va ha
     ·rename_i va ha J
      cases t with
      |false=>simp at C
      |true=>exact⟨_,_,C,.pure fun E a w _ B=>⟨_,j E a w B,B x va ha⟩⟩
     ·rename_i vb ha J
      cases t with
      |true=>simp at C
      |false=>exact⟨_,_,C,.pure fun E a w _ B=>⟨_,j E a w B,B y vb J⟩⟩
     ·simp at C
    ·simp at C
  |alloc t=>
    simp only[aop]at C;split at C
    ·rename_i z n hz hn;obtain⟨⟨v,X⟩,J,M⟩:=bind_some C;refine⟨_,_,M,.val ?_ fun E a w r hf _=>?_⟩
     ·unfold A.box at J;split at J
      ·obtain⟨_,J⟩:=aB J;simp only[kP,kW]at J;rw[←J.2];simp
      ·simp at J
     ·have j3:E h.next=none:=hf _ (kQ _) (by
        unfold A.box at J;split at J
        ·obtain⟨_,J⟩:=aB J;simp only[kP,kW]at J;rw[←J.2];simp
        ·simp at J)
      obtain⟨ad,j,U,L,G⟩:=aDy P r j3 (t:=t) J (VR.of_plain E z (gG P p3 hz));refine⟨_,_,U,?_,L,G⟩;simp only[execOp,Instr.alloc,pD,gY P hz,pC,j,pG]
    ·simp at C
  |box t x=>
    simp only[aop]at C;split at C
    ·rename_i n v hn hx;obtain⟨⟨p,X⟩,J,M⟩:=bind_some C;have d3:X.next=h.next+1:=by
       unfold A.box at J;split at J
       ·obtain⟨_,J⟩:=aB J;simp only[kP,kW]at J;rw[←J.2];simp
       ·simp at J
     refine⟨_,_,M,.val (by show h.next≤X.next;omega) fun E a w r hf B=>?_⟩;obtain⟨ad,j,U,L,G⟩:=aDy P r (hf _ (kQ _) (by show h.next<X.next;omega)) (t:=t) J (B x v hx);refine⟨_,_,U,?_,L,G⟩;simp only[execOp,Instr.box,pD,pC,j,pG]
    ·simp at C
  |build t ps=>
    simp only[aop]at C;split at C
    ·rename_i z l hz S;obtain⟨x4,C⟩:=aB C;obtain⟨v,G,M⟩:=bind_some C;refine⟨_,_,M,.pure fun E a w _ B=>?_⟩;have n4:=gG P p3 hz;obtain⟨R,j,O⟩:=aHm P (μ:=E) (w:=w) B hz (by simpa[aJ,uE]using n4) S x4 G;exact⟨R,by simp only[execOp,pD,j,pC,pG],O⟩
    ·simp at C
  |buildSlice t i4 ps=>
    simp only[aop]at C;split at C
    ·simp at C
    ·rename_i e he;split at C
     ·rename_i n z hn hz;split at C
      ·rename_i zs l t3 S;obtain⟨hc,C⟩:=aB C;simp only[pA,beq_iff,blt_iff,ble_iff]at hc;obtain⟨⟨v,X⟩,J,M⟩:=bind_some C;have d3:X.next=h.next+1:=by
         unfold A.zC at J;obtain⟨_,_,J⟩:=sZ.1 J;simp only[kW]at J;rw[←J.2];simp
       refine⟨_,_,M,.val (by show h.next≤X.next;omega) fun E a w r hf B=>?_⟩;obtain⟨R,Z,U,j,L,G⟩:=vZ P r (hf _ (kQ _) (by show h.next<X.next;omega)) (t:=t) B he hn hz t3 (nW (gG P p3 hz) t3) hc.1.1 hc.1.2 hc.2 S J;exact⟨R,Z,U,by simp only[execOp,pD,j,pC,pG],L,G⟩
      ·simp at C
     ·simp at C
  |load t x=>
    simp only[aop]at C;split at C
    ·rename_i g n p hg hn hp;obtain⟨v,G,M⟩:=bind_some C;refine⟨_,_,M,.pure fun E a w r B=>?_⟩;obtain⟨R,j,O⟩:=uP P r hg hn G (B x p hp);exact⟨R,by simp only[execOp,pD,j,pC,pG],O⟩
    ·simp at C
  |store t x y=>
    simp only[aop]at C;split at C
    ·rename_i n p v hn hp G;obtain⟨X,hs,M⟩:=bind_some C;have d3:X.next=h.next:=by
       unfold A.store at hs;split at hs
       ·split at hs
        ·obtain⟨_,hs⟩:=aB hs;simp only[kP]at hs;rw[←hs];simp
        ·simp at hs
       ·simp at hs
     refine⟨_,_,M,.skip (by show h.next≤X.next;omega) fun E a w r hf B=>?_⟩;obtain⟨Z,j,L⟩:=aGh P r hn hs (B x p hp) (B y v G);exact⟨Z,E,by simp only[execOp,pD,j,pC,pG],L⟩
    ·simp at C
  |nilCheck x=>
    simp only[aop]at C;obtain⟨v,G,C⟩:=bind_some C;obtain⟨u,hu,M⟩:=bind_some C;refine⟨_,_,M,.pure fun E a w r B=>?_⟩;have hx:=B x v G;unfold A.zR at hu;split at hu
    ·simp only[kP]at hu;subst hu;refine⟨_,?_,hx⟩;have:∃b,a.eval x=.pointer (some b):=by
       generalize a.eval x=u at hx;cases hx;exact⟨_,rfl⟩
     obtain⟨b,J⟩:=this;simp only[execOp,J,pG]
    ·simp at hu
  |binOp op t x y t2=>
    simp only[aop]at C;split at C
    ·rename_i va vb ha J;obtain⟨v,G,M⟩:=bind_some C;refine⟨_,_,M,.pure fun E a w r B=>?_⟩;obtain⟨R,j,O⟩:=aPt P (w:=w) (x:=x) (y:=y) G (B x va ha) (B y vb J);refine⟨R,?_,O⟩;simp only[execOp];rw[pD,j];rfl
    ·simp at C
  |unOp op t x=>
    simp only[aop]at C;obtain⟨va,ha,C⟩:=bind_some C;obtain⟨v,G,M⟩:=bind_some C;refine⟨_,_,M,.pure fun E a w r B=>?_⟩;obtain⟨R,j,O⟩:=aTp P (w:=w) G (B x va ha);exact⟨R,by simp only[execOp,pD,j,pC,pG],O⟩
  |convert s d x=>
    simp only[aop]at C;split at C
    ·simp at C
    ·rename_i va ha;split at C
     ·rename_i e hs hd;split at C
      ·rename_i he;obtain⟨⟨v,X⟩,J,M⟩:=bind_some C;have d3:X.next=h.next+1:=by
         unfold A.s2b at J;split at J
         ·obtain⟨_,J⟩:=aB J;simp only[kP,kW]at J;rw[←J.2];simp
         ·simp at J
       refine⟨_,_,M,.val (by show h.next≤X.next;omega) fun E a w r hf B=>?_⟩;obtain⟨R,Z,U,j,L,G⟩:=aOz P r (hf _ (kQ _) (by show h.next<X.next;omega)) hs hd he J (B x va ha);exact⟨R,Z,U,by simp only[execOp,pD,j,pC,pG],L,G⟩
      ·simp at C
     ·rename_i e hs hd;split at C
      ·rename_i he;obtain⟨v,G,M⟩:=bind_some C;refine⟨_,_,M,.pure fun E a w r B=>?_⟩;obtain⟨R,j,O⟩:=aPu P r hs hd he G (B x va ha);exact⟨R,by simp only[execOp,pD,j,pC,pG],O⟩
      ·simp at C
     ·obtain⟨v,G,M⟩:=bind_some C;refine⟨_,_,M,.pure fun E a w r B=>?_⟩;obtain⟨R,j,O⟩:=aLo P (w:=w) G (B x va ha);exact⟨R,by simp only[execOp,pD,j,pC,pG],O⟩
  |makeFunc f first b3=>
    cases f with
    |func f=>
      simp only[aop]at C;split at C
      ·rename_i va vb ha J;refine⟨_,_,C,.pure fun E a w r B=>?_⟩;have r1:=jU B _ _ ha;have r2:=jU B _ _ J;refine⟨.func (.func f) ⟨first.toList.map a.eval⟩ ⟨b3.toList.map a.eval⟩,?_,.func f _ _ _ _ r1.1 r2.1 r1.2 r2.2⟩;have e1:first.map a.eval=⟨first.toList.map a.eval⟩:=by apply Array.ext';simp
       have e2:b3.map a.eval=⟨b3.toList.map a.eval⟩:=by apply Array.ext';simp
       simp only[execOp,Instr.makeFunc,pD,pG,pC,e1,e2]
      ·simp at C
    |methodOf t m=>
      simp only[aop]at C;split at C
      ·rename_i ha J;refine⟨_,_,C,.pure fun E a w r B=>⟨.func (.methodOf t m) #[] #[],?_,.methOf t m⟩⟩;have e1:first.map a.eval=#[]:=by apply Array.ext';simp[ha]
       have e2:b3.map a.eval=#[]:=by apply Array.ext';simp[J]
       simp only[execOp,Instr.makeFunc,pD,pG,pC,e1,e2]
      ·simp at C
    |_=>simp[aop]at C
  |makeSlice t l c=>
    simp only[aop]at C;split at C
    ·rename_i e vl vc he S hc;split at C
     ·rename_i n bs z hn J hz;split at C
      ·rename_i zs t3;obtain⟨n3,C⟩:=aB C;simp only[pA,beq_iff,blt_iff]at n3;obtain⟨⟨v,X⟩,hm,M⟩:=bind_some C;have d3:X.next=h.next+1:=by
         unfold A.zP at hm;split at hm
         ·obtain⟨_,hm⟩:=aB hm;simp only[kP,kW]at hm;rw[←hm.2];simp
         ·simp at hm
       refine⟨_,_,M,.val (by show h.next≤X.next;omega) fun E a w r hf B=>?_⟩;obtain⟨R,Z,U,j,L,G⟩:=xV P r (hf _ (kQ _) (by show h.next<X.next;omega)) (t:=t) he hn J hz t3 (nW (gG P p3 hz) t3) n3.1 n3.2 hm (B l vl S) (B c vc hc);exact⟨R,Z,U,by simp only[execOp,pD,j,pC,pG],L,G⟩
      ·simp at C
     ·simp at C
    ·simp at C
  |slice t x lo hi mx=>
    simp only[aop]at C;split at C
    ·rename_i v l q m hx S hq hm;split at C
     ·rename_i hu;split at C
      ·obtain⟨u,G,M⟩:=bind_some C;refine⟨_,_,M,.pure fun E a w r B=>?_⟩;obtain⟨R,j,O⟩:=aAc P (w:=w) hu G (B x v hx) (gM B S) (gM B hq);have:mx=none:=by
         cases mx with
         |none=>rfl
         |some mx=>simp only[oY]at hm;split at hm<;>simp at hm
       subst this;exact⟨R,by simp only[execOp,dV,pD,j,pC,pG],O⟩
      ·simp at C
     ·rename_i e hu;split at C
      ·rename_i n hn;obtain⟨u,G,M⟩:=bind_some C;refine⟨_,_,M,.pure fun E a w r B=>?_⟩;obtain⟨R,j,O⟩:=aGi P r hu hn G (B x v hx) (gM B S) (gM B hq) (gM B hm);exact⟨R,by simp only[execOp,pD,j,pC,pG],O⟩
      ·simp at C
     ·rename_i i4 e hu;split at C
      ·rename_i n hn;obtain⟨u,G,M⟩:=bind_some C;refine⟨_,_,M,.pure fun E a w r B=>?_⟩;obtain⟨R,j,O⟩:=aAd P r hu hn G (B x v hx) (gM B S) (gM B hq) (gM B hm);exact⟨R,by simp only[execOp,pD,j,pC,pG],O⟩
      ·simp at C
     ·simp at C
    ·simp at C
  |fieldAddr t x i=>
    simp only[aop]at C;split at C
    ·rename_i f v hf hx;split at C
     ·rename_i n hn
      cases h0:Nat.beq n 0 with
      |true=>rw[h0]at C;simp at C
      |false=>
        rw[h0]at C;simp only[sW]at C;obtain⟨u,G,M⟩:=bind_some C;refine⟨_,_,M,.pure fun E a w r B=>?_⟩;obtain⟨R,j,O⟩:=xW P (w:=w) hf hn (fun e=>by rw[e]at h0;simp at h0) G (B x v hx);exact⟨R,by simp only[execOp,pD,j,pC,pG],O⟩
     ·simp at C
    ·simp at C
  |field t x i=>
    simp only[aop]at C;split at C
    ·rename_i f v hf hx;split at C
     ·rename_i g n hg hn;obtain⟨u,G,M⟩:=bind_some C;refine⟨_,_,M,.pure fun E a w r B=>?_⟩;obtain⟨R,j,O⟩:=aGz P (w:=w) hf hg hn G (B x v hx);exact⟨R,by simp only[execOp,pD,j,pC,pG],O⟩
     ·simp at C
    ·simp at C
  |indexAddr t x i=>
    simp only[aop]at C;split at C
    ·rename_i v iv hx hi;split at C
     ·rename_i e hu;split at C
      ·rename_i n hn;obtain⟨u,G,M⟩:=bind_some C;refine⟨_,_,M,.pure fun E a w r B=>?_⟩;obtain⟨R,j,O⟩:=aLd P (w:=w) hu hn G (B x v hx) (B i iv hi);exact⟨R,by simp only[execOp,pD,j,pC,pG],O⟩
      ·simp at C
     ·rename_i i4 e hu;split at C
      ·rename_i n hn;obtain⟨u,G,M⟩:=bind_some C;refine⟨_,_,M,.pure fun E a w r B=>?_⟩;obtain⟨R,j,O⟩:=aLe P (w:=w) hu hn G (B x v hx) (B i iv hi);exact⟨R,by simp only[execOp,pD,j,pC,pG],O⟩
      ·simp at C
     ·simp at C
    ·simp at C
  |index t x i=>
    simp only[aop]at C;split at C
    ·rename_i v iv hx hi;split at C
     ·rename_i hu;obtain⟨u,G,M⟩:=bind_some C;refine⟨_,_,M,.pure fun E a w r B=>?_⟩;obtain⟨R,j,O⟩:=aAf P (w:=w) hu G (B x v hx) (B i iv hi);exact⟨R,by simp only[execOp,pD,j,pC,pG],O⟩
     ·rename_i i4 e hu;split at C
      ·rename_i g n hg hn;obtain⟨u,G,M⟩:=bind_some C;refine⟨_,_,M,.pure fun E a w r B=>?_⟩;obtain⟨R,j,O⟩:=aGx P (w:=w) hu hg hn G (B x v hx) (B i iv hi);exact⟨R,by simp only[execOp,pD,j,pC,pG],O⟩
      ·simp at C
     ·simp at C
    ·simp at C
  |extract x i=>
    simp only[aop]at C;obtain⟨v,hx,C⟩:=bind_some C;obtain⟨u,G,M⟩:=bind_some C;refine⟨_,_,M,.pure fun E a w r B=>?_⟩;obtain⟨R,j,O⟩:=aCh P (w:=w) G (B x v hx);exact⟨R,by simp only[execOp,pD,j,pC,pG],O⟩
  |makeMap t e5=>
    cases e5 with
    |some x=>simp[aop]at C
    |none=>
      simp only[aop,A.zL,pR]at C;refine⟨_,_,C,.val (by simp) fun E a w r hf B=>?_⟩;obtain⟨R,Z,U,j,L,G⟩:=aCg (P:=P) r (hf _ (kQ _) (by simp)) t;exact⟨R,Z,U,by simp only[execOp,dV,pD,j,pC,pG],L,G⟩
  |lookup t x k co=>
    simp only[aop]at C;split at C
    ·rename_i kt et v kv ht hx M;split at C
     ·rename_i s z hs hz;obtain⟨u,G,d4⟩:=bind_some C;obtain⟨f3,G⟩:=aB G;have f3:=aNk hs f3;refine⟨_,_,d4,.pure fun E a w r B=>?_⟩;obtain⟨R,j,O⟩:=aEw r (aFm ht) hz (gG P p3 hz) f3 G (B x v hx) (B k kv M);exact⟨R,by simp only[execOp,pD,j,pC,pG],O⟩
     ·simp at C
    ·simp at C
  |mapUpdate t x k y=>
    simp only[aop]at C;split at C
    ·rename_i kt et v kv yv ht hx M hy;split at C
     ·rename_i s f4;obtain⟨X,hs,d4⟩:=bind_some C;obtain⟨f3,hs⟩:=aB hs;have f3:=aNk f4 f3;have d3:=aAe hs;refine⟨_,_,d4,.skip (by show h.next≤X.next;omega) fun E a w r hf B=>?_⟩;obtain⟨Z,j,L⟩:=xU r (aFm ht) f3 hs (B x v hx) (B k kv M) (B y yv hy);exact⟨Z,E,by simp only[execOp,pD,j,pC,pG],L⟩
     ·simp at C
    ·simp at C
  |range t x=>
    simp only[aop]at C;split at C
    ·rename_i xv hu hx;obtain⟨⟨v,X⟩,J,M⟩:=bind_some C;obtain⟨s,rfl⟩:∃s,xv=.string s:=by cases xv<;>first|exact⟨_,rfl⟩|simp[A.zZ]at J
     simp only[A.zZ]at J;have d3:=aAo J;refine⟨_,_,M,.val (by show h.next≤X.next;omega) fun E a w r hf B=>?_⟩;obtain⟨R,Z,U,j,L,G⟩:=aEt r (hf _ (kQ _) (by show h.next<X.next;omega)) hu J (B x _ hx);exact⟨R,Z,U,by simp only[execOp,pD,j,pC,pG],L,G⟩
    ·rename_i kt et xv hu hx;obtain⟨⟨v,X⟩,J,M⟩:=bind_some C;obtain⟨m,rfl⟩:∃m,xv=.map m:=by cases xv<;>first|exact⟨_,rfl⟩|simp[A.zX]at J
     simp only[A.zX]at J;have d3:=aAo J;refine⟨_,_,M,.val (by show h.next≤X.next;omega) fun E a w r hf B=>?_⟩;obtain⟨R,Z,U,j,L,G⟩:=aEu r (hf _ (kQ _) (by show h.next<X.next;omega)) hu J (B x _ hx);exact⟨R,Z,U,by simp only[execOp,pD,j,pC,pG],L,G⟩
    ·simp at C
  |next x str=>
    simp only[aop]at C;split at C
    ·rename_i xv hx
     cases str with
     |true=>
       simp only[sV]at C;obtain⟨⟨v,X⟩,J,M⟩:=bind_some C;have d3:=aKw J;refine⟨_,_,M,.val (by show h.next≤X.next;omega) fun E a w r hf B=>?_⟩;obtain⟨R,Z,j,L,G⟩:=aGr (P:=P) r J (B x _ hx) N;exact⟨R,Z,E,by simp only[execOp,pD,j,pC,pG],L,G⟩
     |false=>
       simp only[sW]at C;obtain⟨⟨v,X⟩,J,M⟩:=bind_some C;have d3:=aKx J;refine⟨_,_,M,.val (by show h.next≤X.next;omega) fun E a w r hf B=>?_⟩;obtain⟨R,Z,j,L,G⟩:=aGs (P:=P) r J (B x _ hx) N;exact⟨R,Z,E,by simp only[execOp,pD,j,pC,pG],L,G⟩
    ·simp at C
  |entry x=>
    simp only[aop]at C;obtain⟨xv,hx,C⟩:=bind_some C;obtain⟨u,G,M⟩:=bind_some C;refine⟨_,_,M,.pure fun E a w r B=>?_⟩;obtain⟨R,j,O⟩:=aHe (P:=P) r G (B x xv hx);exact⟨R,by simp only[execOp,pD,j,pC,pG],O⟩
  |call c=>
    obtain⟨u3,V,I⟩:=c
    cases u3 with
    |value f=>
      simp only[aop]at C;split at C
      ·rename_i fv vs hf h4;obtain⟨⟨v,X⟩,J,M⟩:=bind_some C;have r3:∀(E:Mu) (a:Act),EvR E ρ a→LR E vs (V.toList.map a.eval):=fun E a B=>jU B _ _ h4;have q3:∀a:Act,V.map a.eval=⟨V.toList.map a.eval⟩:=fun a=>by apply Array.ext';simp
       unfold callM at J;split at J
       ·rename_i t o4 fa fb;split at J
        ·rename_i g f5 x xs hp;obtain⟨hg,J⟩:=aB J;have hg:=blt_iff.1 hg;obtain⟨p,z4,J⟩:=bind_some J;obtain⟨v0,a5,J⟩:=bind_some J;obtain⟨hle,e3,_⟩:=hC _ _ _ _ _ J;obtain⟨fn,b4,e4,e3⟩:=e3 hg;refine⟨_,_,M,hle,fun E a w r j3 B ro next Q hn=>?_⟩
         have k3:=B f _ hf;have o3:a.eval f=.func (.methodOf t o4) #[] #[]:=by
           generalize he:a.eval f=u at k3
           cases k3 with
           |methOf=>rfl
         have S:=r3 E a B;obtain⟨cx,g3,u4,rx,rl⟩:∃cx g3,V.toList.map a.eval=cx::g3∧VR E x cx∧LR E xs g3:=by
           generalize V.toList.map a.eval=ds at S
           cases ds with
           |nil=>have:=S.1;simp at this
           |cons d ds=>exact⟨d,ds,rfl,S.2 0 x d rfl rfl,⟨by have:=S.1;simpa using this,fun i a b ha J=>S.2 (i+1) a b (by simpa using ha) (by simpa using J)⟩⟩
         have W:V.map a.eval=⟨cx::g3⟩:=by rw[q3 a,u4]
         obtain⟨u,z3,hu,hm,p4⟩:=aGq r hp z4 a5 rx;have e:=fun{y:Next} {Z:kE} (hh:(callFunc g ⟨z3::g3⟩).run P w=.ok y Z)=>vY (dst:=a4) (type:=N) (pos:=j4) (after:=l3) (guard:=m3) (c:=⟨.value f,V,I⟩) rfl o3 W hu hm hh;refine⟨fun _ _=>trivial,?_⟩;show Oper.uponIn (Fr ro) 0 P _ a next Q ((Oper.semAt ro a.eval _).run P w)
         rcases e3 with⟨⟨b,hbd⟩,hcall⟩|⟨hbd,hcall⟩
         ·have y4:(fn.name== "runtime.NumGoroutine")=false:=by simpa using e4
          have v4:(callFunc g ⟨z3::g3⟩).run P w=.ok (.enter g ⟨z3::g3⟩) w:=by
            simp only[callFunc,pD,run_program,pC,b4,y4,pP,mD,hbd,Option.isNone_some,pG]
          rw[cV P (e v4) (fun d=>by simp) ro];simp only[Oper.uponIn];exact⟨fun h=>by simp[Fr,Fence.wide]at h,callsIn_Fr.2 ((hcall E w _ r j3 (rl.cons p4)).mono fun e Z ⟨R,U,he,L,G⟩=>by
            subst he;exact hn U Z R L G)⟩
         ·obtain⟨R,Z,U,j,L,G⟩:=hcall E w _ r j3 (rl.cons p4);rw[cV P (e j) (fun d=>by simp) ro];exact hn U Z R L G
        ·simp at J
       unfold callV at J;split at J
       ·rename_i g first q4 _
        obtain⟨hg,J⟩:=aB J;have hg:=blt_iff.1 hg;obtain⟨hle,e3,_⟩:=hC _ _ _ _ _ J;obtain⟨fn,b4,e4,e3⟩:=e3 hg;refine⟨_,_,M,hle,fun E a w r j3 B ro next Q hn=>?_⟩
        have k3:=B f _ hf;have:∃cf cc,a.eval f=.func (.func g) ⟨cf⟩ ⟨cc⟩∧LR E first cf∧LR E q4 cc:=by
          generalize he:a.eval f=u at k3
          cases k3 with
          |func _ _ _ s4 t4 h1 h2 g1 g2=>exact⟨s4,t4,rfl,⟨h1,g1⟩,⟨h2,g2⟩⟩
        obtain⟨cf,cc,o3,r1,r2⟩:=this;have e:((⟨cf⟩:kH kA)++V.map a.eval++(⟨cc⟩:kH kA))=⟨cf++V.toList.map a.eval++cc⟩:=by apply Array.ext';simp
        refine⟨fun _ _=>trivial,?_⟩;show Oper.uponIn (Fr ro) 0 P _ a next Q ((Oper.semAt ro a.eval _).run P w)
        rcases e3 with⟨⟨b,hbd⟩,hcall⟩|⟨hbd,hcall⟩
        ·rw[cV P (lF (c:=⟨.value f,V,I⟩) rfl o3 b4 hbd e4 w) (fun d=>by simp) ro];simp only[Oper.uponIn,e];exact⟨fun h=>by simp[Fr,Fence.wide]at h,callsIn_Fr.2 ((hcall E w _ r j3 ((r1.append (r3 E a B)).append r2)).mono fun e Z ⟨R,U,he,L,G⟩=>by
           subst he;exact hn U Z R L G)⟩
        ·obtain⟨R,Z,U,j,L,G⟩:=hcall E w _ r j3 ((r1.append (r3 E a B)).append r2);rw[←e]at j;rw[cV P (tY (c:=⟨.value f,V,I⟩) rfl o3 j) (fun d=>by simp) ro];exact hn U Z R L G
       ·rename_i id fa fb _;obtain⟨hle,_,v3⟩:=hC _ _ _ _ _ J;refine⟨_,_,M,hle,fun E a w r j3 B ro next Q hn=>?_⟩
        have k3:=B f _ hf;have:∃l,E id=some l∧a.eval f=.func (.yield l.blk) #[] #[]:=by
          generalize he:a.eval f=u at k3
          cases k3 with
          |yield S=>exact⟨_,S,rfl⟩
        obtain⟨l,S,o3⟩:=this;obtain⟨g,tm,as,bd,hy,b5⟩:=v3 id vs rfl rfl E w _ l r j3 (r3 E a B) S;rw[←q3 a]at hy;refine⟨fun _ _=>trivial,?_⟩;show Oper.uponIn (Fr ro) 0 P _ a next Q ((Oper.semAt ro a.eval _).run P w)
        rw[cV P (uY (c:=⟨.value f,V,I⟩) rfl o3 hy) (fun d=>by simp) ro];refine⟨fun h=>by simp[Fr,Fence.wide]at h,?_⟩;have m4:RoundIn (Fr ro) 0 P l.blk g tm as bd w (nI NG E h w v X):=b5;exact m4.mono fun e Z ⟨R,U,he,L,G⟩=>by
          subst he;exact hn U Z R L G
       ·simp at J
      ·simp at C
    |invoke x m=>simp[aop]at C
    |builtin b=>
      simp only[aop]at C;split at C
      ·simp at C
      ·rename_i vs h4;have W:∀(E:Mu) (a:Act),EvR E ρ a→LR E vs (V.toList.map a.eval)∧V.map a.eval=⟨V.toList.map a.eval⟩:=fun E a B=>
         ⟨jU B _ _ h4,by apply Array.ext';simp⟩
       have one:∀(E:Mu) (v:kA) (cs:kC kA),LR E [v] cs→∃c,cs=[c]∧VR E v c:=by
         intro E v cs S
         match cs,S with
         |[c],S=>exact⟨c,rfl,S.2 0 v c rfl rfl⟩
         |[],S=>have:=S.1;simp at this
         |_::_::_,S=>have:=S.1;simp at this
       have k4:∀(E:Mu) (v u:kA) (cs:kC kA),LR E [v,u] cs→∃c d,cs=[c,d]∧VR E v c∧VR E u d:=by
         intro E v u cs S
         match cs,S with
         |[c,d],S=>exact⟨c,d,rfl,S.2 0 v c rfl rfl,S.2 1 u d rfl rfl⟩
         |[],S=>have:=S.1;simp at this
         |[_],S=>have:=S.1;simp at this
         |_::_::_::_,S=>have:=S.1;simp at this
       split at C
       ·rename_i v;split at C
        ·rename_i e hu;obtain⟨u,G,M⟩:=bind_some C;refine⟨_,_,M,.pure fun E a w r B=>?_⟩;obtain⟨S,a3⟩:=W E a B;obtain⟨c,hc,s3⟩:=one E v _ S;obtain⟨t,ht,hu⟩:=bind_some hu;have j:=aLa P (w:=w) hu G s3 N;refine⟨u,?_,j.2⟩;have ea:∃ts:kC kF,I=⟨t::ts⟩:=by
           obtain⟨l⟩:=I
           cases l with
           |nil=>simp at ht
           |cons t' ts=>simp at ht;subst ht;exact⟨ts,rfl⟩
         obtain⟨ts,rfl⟩:=ea;rw[bZ rfl,a3,hc];have e2:Builtin.len_ ⟨t::ts⟩ N #[c]=Builtin.len_ #[t] N #[c]:=by simp[Builtin.len_]
         simp only[builtin,e2,pD,j.1,pC,pG]
        ·rename_i hu;obtain⟨u,G,M⟩:=bind_some C;refine⟨_,_,M,.pure fun E a w r B=>?_⟩;obtain⟨S,a3⟩:=W E a B;obtain⟨c,hc,s3⟩:=one E v _ S;obtain⟨t,ht,hu⟩:=bind_some hu;have j:=aEx P (w:=w) hu G s3 N;refine⟨u,?_,j.2⟩;have ea:∃ts:kC kF,I=⟨t::ts⟩:=by
           obtain⟨l⟩:=I
           cases l with
           |nil=>simp at ht
           |cons t' ts=>simp at ht;subst ht;exact⟨ts,rfl⟩
         obtain⟨ts,rfl⟩:=ea;rw[bZ rfl,a3,hc];have e2:Builtin.len_ ⟨t::ts⟩ N #[c]=Builtin.len_ #[t] N #[c]:=by simp[Builtin.len_]
         simp only[builtin,e2,pD,j.1,pC,pG]
        ·rename_i k e hu;obtain⟨u,G,M⟩:=bind_some C;refine⟨_,_,M,.pure fun E a w r B=>?_⟩;obtain⟨S,a3⟩:=W E a B;obtain⟨c,hc,s3⟩:=one E v _ S;obtain⟨t,ht,hu⟩:=bind_some hu;have j:=aLb P (w:=w) r hu G s3 N;refine⟨u,?_,j.2⟩;have ea:∃ts:kC kF,I=⟨t::ts⟩:=by
           obtain⟨l⟩:=I
           cases l with
           |nil=>simp at ht
           |cons t' ts=>simp at ht;subst ht;exact⟨ts,rfl⟩
         obtain⟨ts,rfl⟩:=ea;rw[bZ rfl,a3,hc];have e2:Builtin.len_ ⟨t::ts⟩ N #[c]=Builtin.len_ #[t] N #[c]:=by simp[Builtin.len_]
         simp only[builtin,e2,pD,j.1,pC,pG]
        ·simp at C
       ·rename_i s x;split at C
        ·rename_i e d he hd;split at C
         ·simp at C
         ·rename_i l4;split at C
          ·rename_i n bs zs hn J hz;obtain⟨hc,C⟩:=aB C;simp only[pA,beq_iff,blt_iff]at hc;obtain⟨⟨v,X⟩,G,M⟩:=bind_some C;obtain⟨t,ht,he⟩:=bind_some he;obtain⟨t2,d5,hd⟩:=bind_some hd;obtain⟨z,x3,y3⟩:=bind_some hz;refine⟨_,_,M,.val (aHq G) fun E a w r hf B=>?_⟩;obtain⟨S,a3⟩:=W E a B;obtain⟨c1,c2,i3,r1,r2⟩:=k4 E s x _ S;obtain⟨R,Z,U,j,L,g4⟩:=aFf P r hf (aJk he) hn J x3 y3 hc.1.2 hd (fun k e=>l4 k e) hc.2 G r1 r2 N;refine⟨R,Z,U,?_,L,g4⟩;rw[bZ rfl,a3,i3];have e2:Builtin.append_ I N #[c1,c2]=Builtin.append_ #[t,t2] N #[c1,c2]:=by simp[Builtin.append_,ht,d5]
           simp only[builtin];rw[show(⟨[c1,c2]⟩:kH kA)=#[c1,c2]from rfl,e2];simp only[pD,j,pC,pG]
          ·simp at C
        ·simp at C
       ·rename_i d x;split at C
        ·rename_i e he;split at C
         ·rename_i n hn;obtain⟨⟨v,X⟩,G,M⟩:=bind_some C;obtain⟨t,ht,he⟩:=bind_some he;refine⟨_,_,M,.val (aPq G) fun E a w r hf B=>?_⟩;obtain⟨S,a3⟩:=W E a B;obtain⟨c1,c2,i3,r1,r2⟩:=k4 E d x _ S;obtain⟨R,Z,j,L,g4⟩:=aLn P (t2:=0) r (aJk he) hn G r1 r2 N;refine⟨R,Z,E,?_,L,g4⟩;rw[bZ rfl,a3,i3];have e2:Builtin.copy_ I N #[c1,c2]=Builtin.copy_ #[t,0] N #[c1,c2]:=by simp[Builtin.copy_,ht]
          simp only[builtin];rw[show(⟨[c1,c2]⟩:kH kA)=#[c1,c2]from rfl,e2];simp only[pD,j,pC,pG]
         ·simp at C
        ·simp at C
       ·rename_i m k;split at C
        ·rename_i kt et he;split at C
         ·rename_i s f4;obtain⟨X,G,M⟩:=bind_some C;obtain⟨f3,G⟩:=aB G;have f3:=aNk f4 f3;obtain⟨t,ht,he⟩:=bind_some he;have d3:=aHf G;refine⟨_,_,M,.val (by show h.next≤X.next;omega) fun E a w r hf B=>?_⟩;obtain⟨S,a3⟩:=W E a B;obtain⟨c1,c2,i3,r1,r2⟩:=k4 E m k _ S;obtain⟨Z,j,L⟩:=aEy r ht (aFm he) f3 G r1 r2 N;refine⟨.tuple #[],Z,E,?_,L,.tuple [] [] rfl (by simp)⟩;rw[bZ rfl,a3,i3];simp only[builtin];rw[show(⟨[c1,c2]⟩:kH kA)=#[c1,c2]from rfl];simp only[pD,j,pC,pG]
         ·simp at C
        ·simp at C
       ·rename_i x;split at C
        ·rename_i kt et he;obtain⟨X,G,M⟩:=bind_some C;obtain⟨t,ht,he⟩:=bind_some he;have d3:=aHh G;refine⟨_,_,M,.val (by show h.next≤X.next;omega) fun E a w r hf B=>?_⟩;obtain⟨S,a3⟩:=W E a B;obtain⟨c1,i3,r1⟩:=one E x _ S;obtain⟨Z,j,L⟩:=aFb r ht he G r1 N;refine⟨.tuple #[],Z,E,?_,L,.tuple [] [] rfl (by simp)⟩;rw[bZ rfl,a3,i3];simp only[builtin];rw[show(⟨[c1]⟩:kH kA)=#[c1]from rfl];simp only[pD,j,pC,pG]
        ·rename_i e he;split at C
         ·rename_i n zs hn hz;obtain⟨hc,C⟩:=aB C;simp only[pA,beq_iff,blt_iff]at hc;obtain⟨X,G,M⟩:=bind_some C;obtain⟨t,ht,he⟩:=bind_some he;obtain⟨z,x3,y3⟩:=bind_some hz;have d3:X.next=h.next:=by
            unfold A.clear at G;split at G
            ·simp only[kP]at G;rw[G]
            ·rcases oP G with G|G
             ·simp only[kP]at G;rw[G]
             ·split at G
              ·have:=(aB G).2;simp only[kP]at this;rw[←this];simp
              ·simp at G
            ·simp at G
          refine⟨_,_,M,.val (by show h.next≤X.next;omega) fun E a w r hf B=>?_⟩;obtain⟨S,a3⟩:=W E a B;obtain⟨c1,i3,r1⟩:=one E x _ S;obtain⟨Z,j,L⟩:=aHg P r he x3 y3 (nW (gG P p3 x3) y3) hc.1 hc.2 G r1 N;refine⟨.tuple #[],Z,E,?_,L,.tuple [] [] rfl (by simp)⟩;rw[bZ rfl,a3,i3];have e2:Builtin.clear_ I N #[c1]=Builtin.clear_ #[t] N #[c1]:=by simp[Builtin.clear_,ht]
          simp only[builtin];rw[show(⟨[c1]⟩:kH kA)=#[c1]from rfl,e2];simp only[pD,j,pC,pG]
         ·simp at C
        ·simp at C
       ·obtain⟨u,G,M⟩:=bind_some C;refine⟨_,_,M,.pure fun E a w r B=>?_⟩;obtain⟨S,a3⟩:=W E a B;obtain⟨R,j,O⟩:=aGp P (w:=w) (consts:=V.map fun| .const _=>true|_=>false) G S;exact⟨R,by rw[bZ rfl,a3];exact j,O⟩
  |_=>simp[aop]at C
end
def cS (f:T kA)(s:kB Tmp)(v:kB kA):T kA:=
  match s with
  |some d=>f.set d v
  |none=>f
def gC (nt:Nat)(ops:kH Oper):Bool:=ops.toList.all fun o=>match o.dst with|some d=>Nat.blt d nt|none=>true
def runOps {Y:Type}(P:kD)(C:CF)(N:Nat)(ops:kH Oper):kC Oper→T kA→H→(T kA→H→kB Y)→kB Y
  |[],fr,h,K=>K fr h
  |o::rest,fr,h,K=>
    match o.guard with
    |none=>aop P C (aH N fr h) h o (bN P o fun r a=>runOps P C N ops rest (cS fr o.dst r) a K)
    |some (j,want)=>
      match(ops[j]?).bind (·.dst)with
      |none=>none
      |some d=>
        match fr.get d with
        |some (.bool b)=>
          bif b then
            (bif want then aop P C (aH N (fr.set d (some (.bool true))) h) h o (bN P o fun r a=>runOps P C N ops rest (cS (fr.set d (some (.bool true))) o.dst r) a K)
             else runOps P C N ops rest (cS (fr.set d (some (.bool true))) o.dst (some undef)) h K)
          else
            (bif want then runOps P C N ops rest (cS (fr.set d (some (.bool false))) o.dst (some undef)) h K
             else aop P C (aH N (fr.set d (some (.bool false))) h) h o (bN P o fun r a=>runOps P C N ops rest (cS (fr.set d (some (.bool false))) o.dst r) a K))
        |some (.tuple _)=>runOps P C N ops rest (cS fr o.dst (some undef)) h K
        |_=>none
def cNb (t:Tmp)(s:kC Tmp):kC Tmp:=bif s.any (Nat.beq t)then s else t::s
def vI (a b:kC Tmp):kC Tmp:=a.foldl (fun s t=>cNb t s) b
def uB (o:Oper)(p:kH Oper):kC Tmp:=
  (o.op.operands.toList.filterMap fun| .tmp t=>some t|_=>none)++
  (match o.guard with
   |some (j,_)=>((p[j]?).bind (·.dst)).toList
   |none=>[])
def aFn (p:kH Oper):kC Oper→kC Tmp→kC Tmp
  |[],s=>s
  |o::r,s=>
    vI (uB o p) (match o.dst with
      |some d=>(aFn p r s).filter fun t=>!Nat.beq t d
      |none=>aFn p r s)
def aMd (id:Nat):kC (Nat×kC Tmp)→kC Tmp
  |[]=>[]
  |(j,s)::r=>bif Nat.beq j id then s else aMd id r
def live (RR:kC Tmp):Code→kC Tmp→kC (Nat×kC Tmp)→kC Tmp
  | .region _ ops _,s,_=>aFn ops ops.toList s
  | .seq a b,s,e=>live RR a (live RR b s e) e
  | .cond c a b,s,e=>vI (match c with| .tmp t=>[t]|_=>[]) (vI (live RR a s e) (live RR b s e))
  | .block id b,s,e=>live RR b s ((id,s)::e)
  | .loop b,_,e=>live RR b [] e
  | .scope b,s,e=>live RR b s e
  | .rangeFunc g _ as b,s,e=>vI (match g with| .tmp t=>[t]|_=>[]) (vI (e.foldl (fun a p=>vI a p.2) (vI RR s)) (live RR as (live RR b [] e) e))
  | .exit id,_,e=>aMd id e
  | .ret,_,_=>RR
  |_,s,_=>s
def bY (f:T kA):kC Tmp→T kA
  |[]=>.nil
  |t::r=>match f.get t with
    |some v=>(bY f r).set t (some v)
    |none=>bY f r
def jR (f:T kA):∀(s:kC Tmp) (t:Tmp) (v:kA),(bY f s).get t=some v→f.get t=some v
  |[],t,v,h=>by simp[bY]at h
  |u::r,t,v,h=>by
    simp only[bY]at h;split at h
    ·rename_i x a;rw[T.get_set]at h;split at h
     ·rename_i e;subst e;rw[a];exact h
     ·exact jR f r t v h
    ·exact jR f r t v h
def FR (nt:Nat)(b:Mu)(f:T kA)(a:Act):Prop:=
  nt≤a.tmps.size∧∀(t:Tmp) (v:kA),f.get t=some v→t<nt∧VR b v (a.tmps.getD t undef)
def FR.mono {nt:Nat}{μ M:Mu}(hle:μ.le M){f:T kA}{Z:Act}(a:FR nt μ f Z):FR nt M f Z:=
  ⟨a.1,fun t v h=>⟨(a.2 t v h).1,(a.2 t v h).2.mono hle⟩⟩
def FR.put {nt:Nat}{M:Mu}{r:T kA}{a:Act}(f:FR nt M r a){s:kB Tmp}(j:∀d,s=some d→d<nt){rv:kB kA}{v:kA}(k:RV M rv v):
    FR nt M (cS r s rv) (a.put s v):=by
  cases s with
  |none=>exact f
  |some d=>
    refine⟨by simpa[Act.put]using f.1,fun t l h=>?_⟩;simp only[cS,T.get_set]at h;have b:=j d rfl;have c:d<a.tmps.size:=kT b f.1;split at h
    ·rename_i e;subst e;subst h;exact⟨b,by simpa[Act.put,c,RV]using k⟩
    ·rename_i e;obtain⟨g,i⟩:=f.2 t l h;refine⟨g,?_⟩;simp only[Act.put,pT,Array.getElem?_setIfInBounds_ne (mV e)];simpa using i
def FR.same {r:T kA}{a:Act}(f:FR nt M r a){d:Tmp}(h:r.get d=some v):FR nt M (r.set d (some v)) a:=
  ⟨f.1,fun t u b=>by
    rw[T.get_set]at b;split at b
    ·rename_i e;subst e;exact f.2 t u (by rw[h];exact b)
    ·exact f.2 t u b⟩
def FR.ev {f:T kA}(d:FR nt M f Z)(r:RH n M h w):EvR M (aH n f h) Z:=by
  intro x v a
  cases x with
  |tmp t=>exact(d.2 t v a).2
  |const u=>
    simp only[aH]at a;obtain⟨p,a⟩:=aB a;simp only[kP]at a;subst a;exact VR.of_plain M _ p
  |global g=>
    simp only[aH]at a;obtain⟨i,a⟩:=aB a;simp only[kP]at a;subst a;obtain⟨l,j,e,b⟩:=r.gl g (blt_iff.1 i);have:=VR.ptr (off:=0) j;rw[e,b]at this;exact this
  |func d=>
    simp only[aH,kP]at a;subst a;exact .func d [] [] [] [] rfl rfl (by simp) (by simp)
def FR.yielded {nt:Nat}{M:Mu}{f:T kA}{Z:Act}(i:FR nt M f Z){O:kH Oper}{n:Nat}{d:Tmp}(g:(O[n]?).bind (·.dst)=some d){J:Bool}
    (c:f.get d=some (.bool J)):Go.yielded O Z.tmps n=some J:=by
  obtain⟨a,b⟩:=i.2 d _ c;have h:d<Z.tmps.size:=kT a i.1;have:=b.bool_inv;have e:Z.tmps[d]?=some (.bool J):=by
    rw[pV h];simp only[pT,pV h,pQ]at this;rw[this]
  simp[Go.yielded,g,e]
def FR.yielded_none {f:T kA}(i:FR nt M f Z){d:Tmp}(g:(O[n]?).bind (·.dst)=some d){v:kH kA}(c:f.get d=some (.tuple v)):Go.yielded O Z.tmps n=none:=by
  obtain⟨b,a⟩:=i.2 d _ c;have h:d<Z.tmps.size:=kT b i.1;have e:Z.tmps[d]?=some (Z.tmps.getD d undef):=by
    rw[pV h];simp only[pT,pV h,pQ]
  simp only[Go.yielded,g,pR,e];generalize Z.tmps.getD d undef=u at a;cases a;rfl
def vN (a:Mu):RV a (some undef) undef:=VR.tuple [] [] rfl (by simp)
def aFv (a:gC nt O=true){o:Oper}(b:O[n]?=some o):∀d,o.dst=some d→d<nt:=by
  intro d h;have m:o∈O.toList:=by rw[Array.mem_toList_iff];exact Array.mem_of_getElem? b
  have:=mB.1 a o m;simp only[h]at this;exact blt_iff.1 this
section
variable {P:kD}{C:CF}
def tX (NG nt:Nat)(g:Mu)(h:H)(w:kE)(a:Act)(f:T kA)(d:H)(c:Act)(e:kE):Prop:=
  ∃b,Step NG g h w b d e∧FR nt b f c∧c.defers=a.defers
def gE (a:Act)(d:kB Tmp)(v:kA):(a.put d v).defers=a.defers:=by cases d<;>rfl
def gU (a3:aL P=true)(hC:aO P NG C)(hd:gC nt ops=true){K:T kA→H→kB Y}{r:Y}:
    ∀(l:kC Oper) (k:Nat) (n:T kA) (h:H),ops.toList.drop k=l→runOps P C NG ops l n h K=some r→
      ∃e g,K e g=some r∧h.next≤g.next∧∀(c:Mu) (a:Act) (w:kE),RH NG c h w→Fresh c h.next g.next→FR nt c n a→
        ∀(B:kB Nat) (Q:Exit→Act→kE→Prop),(∀u v,tX NG nt c h w a e g u v→Q .normal u v)→wpOpsIn (Fr B) 0 P ops Q (List.range' k (ops.size-k)) a w:=by
  intro l
  induction l with
  |nil=>
    intro k n h S i;refine⟨n,h,i,kQ _,fun c a w M _ f B Q N=>?_⟩;have X:ops.size≤k:=by
      have:=sX List.length S;simp at this;omega
    rw[show ops.size-k=0 by omega];exact N a w ⟨c,Step.refl M,f,rfl⟩
  |cons o s ih=>
    intro k n h S i;have d3:k<ops.size:=by
      have:=sX List.length S;simp at this;omega
    have ho:ops[k]?=some o:=by
      have:(ops.toList.drop k)[0]?=some o:=by rw[S];rfl
      simpa using this
    have x:ops.toList.drop (k+1)=s:=by
      have:(ops.toList.drop k).drop 1=s:=by rw[S];rfl
      rw[sG]at this;exact this
    have R:=aFv hd ho;have q:List.range' k (ops.size-k)=k::List.range' (k+1) (ops.size-(k+1)):=by
      rw[show ops.size-k=(ops.size-(k+1))+1 by omega,List.range'_succ]
    have J:∀(m:T kA),(∀c a,FR nt c n a→FR nt c m a)→(∀c a,FR nt c n a→Region.wanted o (yielded ops a.tmps)=true)→
        (aop P C (aH NG m h) h o (bN P o fun rv g=>runOps P C NG ops s (cS m o.dst rv) g K))=some r→
        ∃e g,K e g=some r∧h.next≤g.next∧∀(c:Mu) (a:Act) (w:kE),RH NG c h w→Fresh c h.next g.next→FR nt c n a→
        ∀(B:kB Nat) (Q:Exit→Act→kE→Prop),(∀u v,tX NG nt c h w a e g u v→Q .normal u v)→wpOpsIn (Fr B) 0 P ops Q (List.range' k (ops.size-k)) a w:=by
      intro m D hw i;obtain⟨rv,h1,X,hle,hs⟩:=gN a3 hC i;have X:=eM X;obtain⟨e,g,hK,p,I⟩:=ih (k+1) _ h1 x X;refine⟨e,g,hK,kR hle p,fun c a w M V f B Q N=>?_⟩;rw[q,wpOpsIn_cons];unfold wpOpIn;simp only[ho,hw c a f,mE];refine hs c a w M (fun id h1 U=>V id h1 (kT U p)) ((D c a f).ev M) B _ _ fun b3 w1 cv E hv=>?_;refine I b3 _ w1 E.rh (fun id U h3=>?_) (((D c a f).mono E.le).put R hv) B Q fun u v ⟨L,y,f2,e2⟩=>N u v ⟨L,E.trans y,f2,e2.trans (gE _ _ _)⟩;rw[E.out id U];exact V id (kR hle U) h3
    have z:∀(m:T kA),(∀c a,FR nt c n a→FR nt c m a)→(∀c a,FR nt c n a→Region.wanted o (yielded ops a.tmps)=false)→
        runOps P C NG ops s (cS m o.dst (some undef)) h K=some r→
        ∃e g,K e g=some r∧h.next≤g.next∧∀(c:Mu) (a:Act) (w:kE),RH NG c h w→Fresh c h.next g.next→FR nt c n a→
        ∀(B:kB Nat) (Q:Exit→Act→kE→Prop),(∀u v,tX NG nt c h w a e g u v→Q .normal u v)→wpOpsIn (Fr B) 0 P ops Q (List.range' k (ops.size-k)) a w:=by
      intro m D hw i;obtain⟨e,g,hK,p,I⟩:=ih (k+1) _ h x i;refine⟨e,g,hK,p,fun c a w M V f B Q N=>?_⟩;rw[q,wpOpsIn_cons];unfold wpOpIn;simp only[ho,hw c a f,pP,mD];exact⟨fun _ _=>trivial,I c _ w M V ((D c a f).put R (vN c)) B Q fun u v ⟨L,y,f2,e2⟩=>N u v ⟨L,y,f2,e2.trans (gE _ _ _)⟩⟩
    simp only[runOps]at i;split at i
    ·rename_i W;exact J n (fun _ _ f=>f) (fun _ _ _=>by simp[Region.wanted,W]) i
    ·rename_i j t W;split at i
     ·simp at i
     ·rename_i d O;split at i
      ·rename_i b G;have Z:∀c a,FR nt c n a→Region.wanted o (yielded ops a.tmps)=(b==t):=fun c a f=>by
         simp only[Region.wanted,W,f.yielded O G];cases b<;>cases t<;>rfl
       cases b with
       |true=>
         simp only[sV]at i
         cases t with
         |true=>exact J _ (fun c a f=>f.same G) (fun c a f=>(Z c a f).trans rfl) i
         |false=>exact z _ (fun c a f=>f.same G) (fun c a f=>(Z c a f).trans rfl) i
       |false=>
         simp only[sW]at i
         cases t with
         |true=>exact z _ (fun c a f=>f.same G) (fun c a f=>(Z c a f).trans rfl) i
         |false=>exact J _ (fun c a f=>f.same G) (fun c a f=>(Z c a f).trans rfl) i
      ·rename_i vs G;exact z n (fun _ _ f=>f) (fun c a f=>by simp[Region.wanted,W,f.yielded_none O G]) i
      ·simp at i
end
end Go.AM
