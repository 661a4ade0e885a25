import Derived.Test.YtpanfoafajepcaaGreatDoorProg
import Derived.Test.YtpanfoafajepcaaGreatDoorGv
import Derived.Test.YtpanfoafajepcaaGreatDoorGm
namespace Go.Proofs.YtpanfoafajepcaaGreatDoor.RaK
open Tryz (prog)
open Go Go.AM Go.AM.Pk
def lf {β:Type}(k n:Nat)(x:V)(h:H)(f:V→O β):O β:=bnd (A.u k x) fun a=>bnd (A.load false n a h) f
def lg {β:Type}(k n:Nat)(x:V)(h:H)(f:V→O β):O β:=bnd (A.u k x) fun a=>bnd (A.load true n a h) f
def nf {β:Type}(k:Nat)(x:V)(f:V→O β):O β:=bnd (A.z x) fun a=>bnd (A.u k a) f
def nl {β:Type}(k n:Nat)(x:V)(h:H)(f:V→O β):O β:=bnd (A.z x) fun a=>bnd (A.u k a) fun a=>bnd (A.load false n a h) f
def iK {β:Type}(v:V)(x y:O β):O β:=aC v fun b=>bif b then x else y
noncomputable def bI {β:Type}(op:BinOp)(t:TypeId)(a b:V)(x y:O β):O β:=bnd (A.zA prog op t a b) fun v=>aC v fun b=>bif b then x else y
noncomputable def bB {β:Type}(op:BinOp)(t:TypeId)(a b:V)(f:Bool→O β):O β:=bnd (A.zA prog op t a b) fun v=>aC v f
theorem n0 (n:Nat):0+n=n:=Nat.zero_add n
theorem S:(∀{α β:Type} (a:α) (f:α→Option β),bnd (some a) f=f a)∧(∀{α γ β:Type} (a:α) (c:γ) (f:α→γ→Option β),aF (some (a,c)) f=f a c)∧
 (∀{β:Type} (b:Bool) (k:Bool→Option β),aC (.bool b) k=k b)∧(∀{β:Type} (b:Bool) (x y:Option β),aW (.bool b) x y=bif b then x else y)∧
 (∀(k id off:Nat),A.u k (.pointer (some ⟨id,off,none⟩))=some (.pointer (some ⟨id,off+k,none⟩)))∧(∀(a:Addr),A.z (.pointer (some a))=some (.pointer (some a)))∧
 (∀(P:Program) (b:Bool),A.un P .not (.bool b)=some (.bool !b))∧(∀{α:Type} (x y:α),(bif true then x else y)=x)∧(∀{α:Type} (x y:α),(bif false then x else y)=y)∧
 ((!true)=false)∧((!false)=true)∧
 (∀{β:Type} (k n:Nat) (x:V) (h:H) (f:V→O β),lf k n x h f=bnd (A.u k x) fun a=>bnd (A.load false n a h) f)∧
 (∀{β:Type} (k n:Nat) (x:V) (h:H) (f:V→O β),lg k n x h f=bnd (A.u k x) fun a=>bnd (A.load true n a h) f)∧
 (∀{β:Type} (k:Nat) (x:V) (f:V→O β),nf k x f=bnd (A.z x) fun a=>bnd (A.u k a) f)∧
 (∀{β:Type} (k n:Nat) (x:V) (h:H) (f:V→O β),nl k n x h f=bnd (A.z x) fun a=>bnd (A.u k a) fun a=>bnd (A.load false n a h) f)∧
 (∀{β:Type} (v:V) (x y:O β),iK v x y=aC v fun b=>bif b then x else y)∧
 (∀{β:Type} (op:BinOp) (t:TypeId) (a b:V) (x y:O β),bI op t a b x y=bnd (A.zA prog op t a b) fun v=>aC v fun b=>bif b then x else y)∧
 (∀{β:Type} (op:BinOp) (t:TypeId) (a b:V) (f:Bool→O β),bB op t a b f=bnd (A.zA prog op t a b) fun v=>aC v f):=
 ⟨qZ,qX,qQ,qW,qY,qV,fun _ _=>rfl,cond_true,cond_false,rfl,rfl,fun _ _ _ _ _=>rfl,fun _ _ _ _ _=>rfl,fun _ _ _=>rfl,fun _ _ _ _ _=>rfl,fun _ _ _=>rfl,fun _ _ _ _ _ _=>rfl,fun _ _ _ _ _=>rfl⟩
example (x:V) (h:H) (k:V→O Nat) (e:A.load false 1 (.pointer (some ⟨3,5,none⟩)) h=some x):lf 5 1 (.pointer (some ⟨3,0,none⟩)) h k=k x:=by
 simp only[S,n0,e]
end Go.Proofs.YtpanfoafajepcaaGreatDoor.RaK
