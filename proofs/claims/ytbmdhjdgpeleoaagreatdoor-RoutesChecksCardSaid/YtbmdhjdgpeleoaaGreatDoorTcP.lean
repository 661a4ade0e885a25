import Derived.Test.YtbmdhjdgpeleoaaGreatDoorProg
import Derived.WalkKit
import Derived.WalkLawsBesides
import Derived.Deep.RegionHeld3
import Derived.Sort.Grow
set_option linter.defProp false
set_option maxRecDepth 100000
namespace Go.Proofs.YtbmdhjdgpeleoaaGreatDoor.Ra
open Tryz (prog)
open Go Go.RowKit Go.Sort
def lT (a b:List UInt8):Int:=bif Op.bytesLess a b then -1 else bif a==b then 0 else 1
def w60 (a:List UInt8)(W:World):Calls prog 90 #[.string ⟨⟨a⟩⟩] W fun e w=>e=.returned (.bool false)∧w=W:=by
 go_enter Tryz.func90,Tryz.ntmps90;go_wp2;go_ret;exact⟨rfl,rfl⟩
def w46 (a b:List UInt8)(W:World):Calls prog 71 #[.string ⟨⟨a⟩⟩,.string ⟨⟨b⟩⟩] W fun e w=>e=.returned (.int .i64 (lT a b))∧w=W:=by
 generalize d:lT a b=r;unfold lT at d;go_enter Tryz.func71,Tryz.ntmps71;go_wp2_with (first|(go_at_call 90;refine(w60 _ _).mono ?_;rintro e w ⟨rfl,rfl⟩))
 all_goals go_ret
 all_goals refine⟨?_,rfl⟩
 all_goals (try simp_all;done)
 ·have g:(a==b)=false:=by rename_i h;cases c:(a==b)with
   |false=>rfl
   |true=>rw[c]at h;cases h
  rename_i f _ _ _;rw[f,g]at d;rw[←d];rfl
def orJ (x y:Int):Int:=if x=0 then y else x
def w45 (q:Nat)(x y:Int)(W:World)(a:W.cell? ⟨q,0,none⟩=some (.int .i64 x))(b:W.cell? ⟨q,1,none⟩=some (.int .i64 y)):Calls prog 70 #[.slice (some ⟨q,0,none⟩) 2 2] W fun e w=>e=.returned (.int .i64 (orJ x y))∧w=W:=by
 generalize h:orJ x y=r;unfold orJ at h;go_enter Tryz.func70,Tryz.ntmps70;go_wp2;refine wp_loop_rounds 3 ?_;rw[rounds_succ];go_wp2
 ·go_ret;refine⟨?_,rfl⟩
  simp_all
 rw[rounds_succ];go_wp2
 ·go_ret;refine⟨?_,rfl⟩
  simp_all
 rw[rounds_succ];go_wp2;go_ret;refine⟨?_,rfl⟩
 simp_all
set_option maxHeartbeats 8000000 in
def w44 (a b c d:List UInt8)(W:World):Calls prog 69 #[.agg #[.string ⟨⟨a⟩⟩,.string ⟨⟨b⟩⟩],.agg #[.string ⟨⟨c⟩⟩,.string ⟨⟨d⟩⟩]] W fun e w=>e=.returned (.int .i64 (orJ (lT a c) (lT b d)))∧∃q f,w=grow (W.drewN q) f:=by
 generalize g:orJ (lT a c) (lT b d)=r;have l:∀q W,W.cell? ⟨q,0,none⟩=some (.int .i64 (lT a c))→W.cell? ⟨q,1,none⟩=some (.int .i64 (lT b d))→Calls prog 70 #[.slice (some ⟨q,0,none⟩) 2 2] W fun e w=>e=.returned (.int .i64 r)∧w=W:=fun q W i j=>g▸w45 q _ _ W i j;clear g;go_enter Tryz.func69,Tryz.ntmps69;go_wp2;obtain⟨W2,h⟩:∃W2,W2=((W.alloc (Obj.cells #[Value.string ⟨⟨a⟩⟩,Value.string ⟨⟨b⟩⟩] 111)).alloc (Obj.cells #[Value.string ⟨⟨c⟩⟩,Value.string ⟨⟨d⟩⟩] 111)):=⟨_,rfl⟩;rw[←h];have m:W2.cell? ⟨W.heap.size,0,none⟩=some (.string ⟨⟨a⟩⟩):=by rw[h];simp
 have c1:W2.cell? ⟨W.heap.size,1,none⟩=some (.string ⟨⟨b⟩⟩):=by rw[h];simp
 have c2:W2.cell? ⟨W.heap.size+1,0,none⟩=some (.string ⟨⟨c⟩⟩):=by rw[h];simp
 have c3:W2.cell? ⟨W.heap.size+1,1,none⟩=some (.string ⟨⟨d⟩⟩):=by rw[h];simp
 have k:∃o,W2=grow W o:=⟨_,by rw[h,alloc_eq_grow,alloc_eq_grow,grow_grow]⟩;clear h;generalize n:W.heap.size=s at*;go_region_held3 (fun w=>w.cell? ⟨s,0,none⟩=some (.string ⟨⟨a⟩⟩)∧w.cell? ⟨s,1,none⟩=some (.string ⟨⟨b⟩⟩)∧w.cell? ⟨s+1,0,none⟩=some (.string ⟨⟨c⟩⟩)∧w.cell? ⟨s+1,1,none⟩=some (.string ⟨⟨d⟩⟩)) (go_keep)
  (first
   |(go_at_call 71;refine(w46 _ _ _).mono ?_;rintro e w ⟨rfl,rfl⟩)
   |(go_at_call 70;refine(l _ _ ?_ ?_).mono ?_;(simp);(simp);rintro e w ⟨rfl,rfl⟩))
 go_wp2;go_ret;obtain⟨o,rfl⟩:=k;exact⟨rfl,1,o++#[_],by rw[alloc_eq_grow,grow_grow];rfl⟩
end Go.Proofs.YtbmdhjdgpeleoaaGreatDoor.Ra
