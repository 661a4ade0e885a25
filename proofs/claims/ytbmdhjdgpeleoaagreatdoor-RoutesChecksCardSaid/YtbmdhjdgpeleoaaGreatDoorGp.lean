set_option linter.defProp false
namespace Ra
def check {Y X:Type}(right:Y→Nat→X→Bool×Y):Y→Nat→List X→Nat×Bool
 |_,i,[]=>(i,true)
 |s,i,n::l=>match right s i n with
  |(true,s')=>check right s' (i+1) l
  |(false,_)=>(i,false)
section
variable {σ Z:Type}{right:σ→Nat→Z→Bool×σ}
end
abbrev Bs:=List UInt8
abbrev Row:=List (Bs×Nat)
structure Msg where
 topic:Bs
 payload:Bs
 qos:Nat
 retain:Bool
 deriving DecidableEq
structure cD where
 kind:Nat
 op:Int
 conn:Int
 client:Bs
 ptype:Nat
 clean:Bool
 subs:Row
 msg:Msg
 qos:Nat
structure aCd where
 row:Row
 conn:Int
 clean:Bool
structure Pub where
 client:Bs
 msg:Msg
 place:Nat
 open_ : Bool
 holds:List Bs
 serve:List Bs
structure Sb where
 client:Bs:=[]
 done:Bool:=false
 open_ : Bool := false
 filters:Row:=[]
 past:List (Bs×List Msg):=[]
 still:List Bs:=[]
 got:List Bs:=[]
 last:Bs:=[]
 some_:Bool:=false
structure St where
 seats:List (Bs×aCd):=[]
 kept:List (Bs×Msg):=[]
 pubs:List (Int×Pub):=[]
 subs:List (Int×Sb):=[]
def aE {Y X:Type}[DecidableEq Y]:List (Y×X)→Y→Option X
 |[],_=>none
 |(k,a)::r,x=>if k=x then some a else aE r x
def aM {Y X:Type}[DecidableEq Y]:List (Y×X)→Y→X→List (Y×X)
 |[],x,a=>[(x,a)]
 |(k,b)::r,x,a=>if k=x then(k,a)::r else(k,b)::aM r x a
def jA {Y X:Type}[DecidableEq Y]:List (Y×X)→Y→List (Y×X)
 |[],_=>[]
 |(k,b)::r,x=>if k=x then r else(k,b)::jA r x
def lH (l:List Bs)(x:Bs):List Bs:=if x∈l then l else l++[x]
def eV:Bs→List Bs
 |[]=>[[]]
 |c::r=>if c=47 then[]::eV r else match eV r with
  |x::l=>(c::x)::l
  |[]=>[[c]]
section
variable (n Z:Bs→Bool)(t:Bs→Bs→Bool)
def place (r:Row)(f:Bs):Nat:=(r.takeWhile fun x=>decide (x.1<f)).length
end
def aJv {B u c:Bs}(h:B<u)(a:u<c):B<c:=List.lt_trans h a
def wX (a:Bs):¬a<a:=List.lt_irrefl a
def aUv {B u:Bs}(h:¬B<u)(n:B≠u):u<B:=by
 rcases List.le_total B u with b|b
 ·rcases List.le_iff_lt_or_eq.1 b with a|a
  ·exact absurd a h
  ·exact absurd a n
 ·rcases List.le_iff_lt_or_eq.1 b with a|a
  ·exact a
  ·exact absurd a.symm n
def aIu (r:Row)(f:Bs):place r f≤r.length:=by
 unfold place;exact(List.takeWhile_sublist _).length_le
def hle (a b:Bs×Bs):Bool:=decide (a.1<b.1∨a.1=b.1∧a.2≤b.2)
def aBj {a b:Bs×Bs}:hle a b=true↔a.1<b.1∨a.1=b.1∧a.2≤b.2:=by simp[hle]
def wV (a b c:Bs×Bs)(d:hle a b=true)(h:hle b c=true):hle a c=true:=by
 rw[aBj]at d h⊢;rcases d with d|⟨f,d⟩
 ·rcases h with h|⟨e,h⟩
  ·exact .inl (aJv d h)
  ·exact .inl (e▸d)
 ·rcases h with h|⟨e,h⟩
  ·exact .inl (f▸h)
  ·exact .inr ⟨f.trans e,List.le_trans d h⟩
def aDm (a b:Bs×Bs):(hle a b||hle b a)=true:=by
 rw[Bool.or_eq_true,aBj,aBj];by_cases e:a.1=b.1
 ·rcases List.le_total a.2 b.2 with h|h
  ·exact .inl (.inr ⟨e,h⟩)
  ·exact .inr (.inr ⟨e.symm,h⟩)
 ·by_cases h:a.1<b.1
  ·exact .inl (.inl h)
  ·exact .inr (.inl (aUv h e))
def aUk (a b:Bs×Bs)(c:hle a b=true)(h:hle b a=true):a=b:=by
 rw[aBj]at c h;rcases c with c|⟨e,c⟩
 ·rcases h with h|⟨d,_⟩
  ·exact absurd (aJv c h) (wX _)
  ·exact absurd (d▸c) (wX _)
 ·rcases h with h|⟨_,h⟩
  ·exact absurd (e▸h) (wX _)
  ·exact Prod.ext e (List.le_antisymm c h)
def aUj {l c:List (Bs×Bs)}(p:l.Perm c)(s:l.Pairwise fun a b=>hle a b=true):l=c.mergeSort hle:=
 (p.trans (List.mergeSort_perm c hle).symm).eq_of_pairwise (fun a b _ _ h d=>aUk a b h d) s (List.pairwise_mergeSort wV aDm c)
def aLf {l a:List (Bs×Bs)}(h:l.Perm a):l.mergeSort hle=a.mergeSort hle:=
 aUj ((List.mergeSort_perm l hle).trans h) (List.pairwise_mergeSort wV aDm l)
end Ra
