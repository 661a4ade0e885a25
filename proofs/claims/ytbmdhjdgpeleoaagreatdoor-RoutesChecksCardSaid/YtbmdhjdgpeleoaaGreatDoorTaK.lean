import Derived.Test.YtbmdhjdgpeleoaaGreatDoorProg
import Derived.Test.YtbmdhjdgpeleoaaGreatDoorGq
import Derived.Test.YtbmdhjdgpeleoaaGreatDoorGm
set_option linter.defProp false
namespace Go.Proofs.YtbmdhjdgpeleoaaGreatDoor.TaK
open Tryz (prog)
open Go Go.AM Go.AM.Pk
variable {Y:Type}
def lf (k n:Nat)(x:V)(h:H)(f:V→O Y):O Y:=bnd (A.zA k x) fun a=>bnd (A.load false n a h) f
def lg (k n:Nat)(x:V)(h:H)(f:V→O Y):O Y:=bnd (A.zA k x) fun a=>bnd (A.load true n a h) f
def nf (k:Nat)(x:V)(f:V→O Y):O Y:=bnd (A.zR x) fun a=>bnd (A.zA k a) f
def nl (k n:Nat)(x:V)(h:H)(f:V→O Y):O Y:=bnd (A.zR x) fun a=>bnd (A.zA k a) fun a=>bnd (A.load false n a h) f
def iK (v:V)(x y:O Y):O Y:=aF v fun b=>bif b then x else y
noncomputable def bI (o:BinOp)(t:kF)(a b:V)(x y:O Y):O Y:=bnd (A.z prog o t a b) fun v=>aF v fun b=>bif b then x else y
noncomputable def bB (o:BinOp)(t:kF)(a b:V)(f:Bool→O Y):O Y:=bnd (A.z prog o t a b) fun v=>aF v f
def n0 (n:Nat):0+n=n:=sR n
def S:(∀{α β:Type} (a:α) (f:α→kB β),bnd (some a) f=f a)∧(∀{α γ β:Type} (a:α) (c:γ) (f:α→γ→kB β),aD (some (a,c)) f=f a c)∧
 (∀{β:Type} (b:Bool) (k:Bool→kB β),aF (.bool b) k=k b)∧(∀{β:Type} (b:Bool) (x y:kB β),aP (.bool b) x y=bif b then x else y)∧
 (∀(k id o:Nat),A.zA k (.pointer (some ⟨id,o,none⟩))=some (.pointer (some ⟨id,o+k,none⟩)))∧(∀(a:Addr),A.zR (.pointer (some a))=some (.pointer (some a)))∧
 (∀(P:kD) (b:Bool),A.un P .not (.bool b)=some (.bool !b))∧(∀{α:Type} (x y:α),(bif true then x else y)=x)∧(∀{α:Type} (x y:α),(bif false then x else y)=y)∧
 ((!true)=false)∧((!false)=true)∧
 (∀{β:Type} (k n:Nat) (x:V) (h:H) (f:V→O β),lf k n x h f=bnd (A.zA k x) fun a=>bnd (A.load false n a h) f)∧
 (∀{β:Type} (k n:Nat) (x:V) (h:H) (f:V→O β),lg k n x h f=bnd (A.zA k x) fun a=>bnd (A.load true n a h) f)∧
 (∀{β:Type} (k:Nat) (x:V) (f:V→O β),nf k x f=bnd (A.zR x) fun a=>bnd (A.zA k a) f)∧
 (∀{β:Type} (k n:Nat) (x:V) (h:H) (f:V→O β),nl k n x h f=bnd (A.zR x) fun a=>bnd (A.zA k a) fun a=>bnd (A.load false n a h) f)∧
 (∀{β:Type} (v:V) (x y:O β),iK v x y=aF v fun b=>bif b then x else y)∧
 (∀{β:Type} (op:BinOp) (t:kF) (a b:V) (x y:O β),bI op t a b x y=bnd (A.z prog op t a b) fun v=>aF v fun b=>bif b then x else y)∧
 (∀{β:Type} (op:BinOp) (t:kF) (a b:V) (f:Bool→O β),bB op t a b f=bnd (A.z prog op t a b) fun v=>aF v f):=
 ⟨qZ,qX,qQ,qW,qY,qV,fun _ _=>rfl,sV,sW,rfl,rfl,fun _ _ _ _ _=>rfl,fun _ _ _ _ _=>rfl,fun _ _ _=>rfl,fun _ _ _ _ _=>rfl,fun _ _ _=>rfl,fun _ _ _ _ _ _=>rfl,fun _ _ _ _ _=>rfl⟩
example (x:V) (h:H) (k:V→O Nat) (e:A.load false 1 (.pointer (some ⟨3,5,none⟩)) h=some x):lf 5 1 (.pointer (some ⟨3,0,none⟩)) h k=k x:=by
 simp only[S,n0,e]
abbrev Fe (D:CF)(X:CF→O (V×H))(f:Nat)(a:kC V)(h:H)(r:V×H):Prop:=X (iD prog 3 D)=some r→iD prog 3 D f a h=some r
end Go.Proofs.YtbmdhjdgpeleoaaGreatDoor.TaK
namespace Go.AM
abbrev qS:=@Go.Proofs.YtbmdhjdgpeleoaaGreatDoor.TaK.S
end Go.AM
