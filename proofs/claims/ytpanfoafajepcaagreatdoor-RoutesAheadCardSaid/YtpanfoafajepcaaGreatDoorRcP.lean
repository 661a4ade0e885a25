import Derived.Test.YtpanfoafajepcaaGreatDoorProg
import Derived.WalkKit
import Derived.WalkLawsBesides
import Derived.Deep.RegionHeld3
import Derived.Sort.Grow
set_option maxRecDepth 100000
namespace Go.Proofs.YtpanfoafajepcaaGreatDoor.Ra
open Tryz (prog)
open Go Go.RowKit Go.Sort
def jR (a b:List UInt8):Int:=bif Op.bytesLess a b then -1 else bif a==b then 0 else 1
theorem w60 (a:List UInt8)(W:World):Calls prog 60 #[.string ⟨⟨a⟩⟩] W fun e w'=>e=.returned (.bool false)∧w'=W:=by
 go_enter Tryz.func60,Tryz.ntmps60;go_wp2;go_ret;exact⟨rfl,rfl⟩
theorem w46 (a b:List UInt8)(W:World):Calls prog 46 #[.string ⟨⟨a⟩⟩,.string ⟨⟨b⟩⟩] W fun e w'=>e=.returned (.int .i64 (jR a b))∧w'=W:=by
 generalize hr:jR a b=r;unfold jR at hr;go_enter Tryz.func46,Tryz.ntmps46;go_wp2_with (first|(go_at_call 60;refine(w60 _ _).mono ?_;rintro e w' ⟨rfl,rfl⟩))
 all_goals go_ret
 all_goals refine⟨?_,rfl⟩
 all_goals (try simp_all;done)
 ·have he:(a==b)=false:=by rename_i h;cases hab:(a==b)with
   |false=>rfl
   |true=>rw[hab]at h;cases h
  rename_i h1 _ _ _;rw[h1,he]at hr;rw[←hr];rfl
def orJ (x y:Int):Int:=if x=0 then y else x
theorem w45 (q:Nat)(x y:Int)(W:World)(h0:W.cell? ⟨q,0,none⟩=some (.int .i64 x))(h1:W.cell? ⟨q,1,none⟩=some (.int .i64 y)):Calls prog 45 #[.slice (some ⟨q,0,none⟩) 2 2] W fun e w'=>e=.returned (.int .i64 (orJ x y))∧w'=W:=by
 generalize hr:orJ x y=r;unfold orJ at hr;go_enter Tryz.func45,Tryz.ntmps45;go_wp2;refine wp_loop_rounds 3 ?_;rw[rounds_succ];go_wp2
 ·go_ret;refine⟨?_,rfl⟩
  simp_all
 rw[rounds_succ];go_wp2
 ·go_ret;refine⟨?_,rfl⟩
  simp_all
 rw[rounds_succ];go_wp2;go_ret;refine⟨?_,rfl⟩
 simp_all
set_option maxHeartbeats 8000000 in
theorem w44 (a b c d:List UInt8)(W:World):Calls prog 44 #[.agg #[.string ⟨⟨a⟩⟩,.string ⟨⟨b⟩⟩],.agg #[.string ⟨⟨c⟩⟩,.string ⟨⟨d⟩⟩]] W fun e w'=>e=.returned (.int .i64 (orJ (jR a c) (jR b d)))∧∃q os',w'=grow (W.drewN q) os':=by
 generalize hr:orJ (jR a c) (jR b d)=r;have k3:∀q W,W.cell? ⟨q,0,none⟩=some (.int .i64 (jR a c))→W.cell? ⟨q,1,none⟩=some (.int .i64 (jR b d))→Calls prog 45 #[.slice (some ⟨q,0,none⟩) 2 2] W fun e w'=>e=.returned (.int .i64 r)∧w'=W:=fun q W h0 h1=>hr▸w45 q _ _ W h0 h1;clear hr;go_enter Tryz.func44,Tryz.ntmps44;go_wp2;obtain⟨W2,hW2⟩:∃W2,W2=((W.alloc (Obj.cells #[Value.string ⟨⟨a⟩⟩,Value.string ⟨⟨b⟩⟩] 86)).alloc (Obj.cells #[Value.string ⟨⟨c⟩⟩,Value.string ⟨⟨d⟩⟩] 86)):=⟨_,rfl⟩;rw[←hW2];have c0:W2.cell? ⟨W.heap.size,0,none⟩=some (.string ⟨⟨a⟩⟩):=by rw[hW2];simp
 have c1:W2.cell? ⟨W.heap.size,1,none⟩=some (.string ⟨⟨b⟩⟩):=by rw[hW2];simp
 have c2:W2.cell? ⟨W.heap.size+1,0,none⟩=some (.string ⟨⟨c⟩⟩):=by rw[hW2];simp
 have c3:W2.cell? ⟨W.heap.size+1,1,none⟩=some (.string ⟨⟨d⟩⟩):=by rw[hW2];simp
 have hg:∃os,W2=grow W os:=⟨_,by rw[hW2,alloc_eq_grow,alloc_eq_grow,grow_grow]⟩;clear hW2;generalize hs:W.heap.size=s at*;go_region_held3 (fun w'=>w'.cell? ⟨s,0,none⟩=some (.string ⟨⟨a⟩⟩)∧w'.cell? ⟨s,1,none⟩=some (.string ⟨⟨b⟩⟩)∧w'.cell? ⟨s+1,0,none⟩=some (.string ⟨⟨c⟩⟩)∧w'.cell? ⟨s+1,1,none⟩=some (.string ⟨⟨d⟩⟩)) (go_keep)
  (first
   |(go_at_call 46;refine(w46 _ _ _).mono ?_;rintro e w' ⟨rfl,rfl⟩)
   |(go_at_call 45;refine(k3 _ _ ?_ ?_).mono ?_;(simp);(simp);rintro e w' ⟨rfl,rfl⟩))
 go_wp2;go_ret;obtain⟨os,rfl⟩:=hg;exact⟨rfl,1,os++#[_],by rw[alloc_eq_grow,grow_grow];rfl⟩
end Go.Proofs.YtpanfoafajepcaaGreatDoor.Ra
