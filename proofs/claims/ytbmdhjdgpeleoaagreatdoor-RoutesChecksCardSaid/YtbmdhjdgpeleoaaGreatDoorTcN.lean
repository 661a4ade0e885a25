import Derived.Shelf.SlIter.Nil
set_option linter.defProp false
set_option maxRecDepth 100000
namespace Go.Proofs
open Go.RowKit Go.Maps Go.Sort Go.Shelf
section
variable {P:Program}{ρ:Ren}
set_option maxHeartbeats 1000000 in
def AnyZ.keysAt_in (L:SlLaysZ.n10 P ρ){H:Type}(F:Fence)(n:Nat)(h10:F.fn (ρ.f 10))(hro:F.round=none)(hn:1≤n)(l Bm o b nn:Nat)(D0:DataW H){R:Value→Option (DataW H×List MemPlace)}(J:List (List UInt8)→World→Prop)
 (hY:∀pre x W,J pre W→pre.length<Maps.size D0→YieldAt F (n-1) P l #[encStr x] W fun e W'=>e=.returned (.bool true)∧J (pre++[x]) W'∧KeepsWalks W W')
 (W:World) (hJ:AbidesFrom W.heap.size J) (hm:W.cell? ⟨Bm,o,none⟩=some (.map (some b))) (hown:W.ownsMap P (ρ.t 26) R b nn D0) (h0:J [] W):
 CallsIn F n P (ρ.f 10) #[.func (.yield l) #[] #[],.pointer (some ⟨Bm,o,none⟩)] W fun e W'=>(∃v,e=.returned v)∧∃ss:List (List UInt8),ss.Perm (strKeys D0)∧J ss W':=by
 have mixed:=L.mixed;have t0:=L.t0;have a0:=L.a0;have z0:=L.z0;have v0:=L.v0;have t4:=L.t4;have a4:=L.a4;have z4:=L.z4;have v4:=L.v4;have t23:=L.t23;have a23:=L.a23;have z23:=L.z23;have v23:=L.v23;have t26:=L.t26;have a26:=L.a26;have z26:=L.z26;have v26:=L.v26;have t33:=L.t33;have a33:=L.a33;have z33:=L.z33;have v33:=L.v33;have u0:=run_underlying L.t0;have u4:=run_underlying L.t4;have u23:=run_underlying L.t23;have u26:=run_underlying L.t26;have u33:=run_underlying L.t33;obtain⟨_,_,FG⟩:=L.f10;refine callsIn_of_wp FG rfl h10 ?_ hro;simp only[SlBodyZ.n10_ntmps ρ,List.size_toArray,List.length_cons,List.length_nil,Nat.reduceAdd,Nat.reduceSub,Array.replicate_succ,Array.replicate_zero,List.push_toArray,List.append_toArray,List.nil_append,List.cons_append]
 gi_wp2_with (first
  |(gi_at_range;refine wpListIn_range_own _ rfl _ (ρ.t 23) rfl (ρ.t 26) (ρ.t 3) (string_keyed L.t26) L.t23 _ b nn _ rfl hown ?_;intro w0 hrg0 hg0 hs0)
  |gi_in)
 go_frame
 gi_loopw [3] (fun _ wr=>∃(left:Lit→Bool) (cnt:Nat) (ss:List (List UInt8)),wr.ranges P (ρ.t 26) R b W.heap.size nn D0 left cnt∧ss.length+cnt≤Maps.size D0∧Collected D0 left ss∧J ss wr)
  (fun _ wr=>wr.rangeLeft b W.heap.size)
 case atStart=>
  exact⟨_,_,[],hrg0,by simp,Collected.start D0,hJ [] W w0 none h0 hg0 (fun r e=>by cases e)⟩
 case round=>
  obtain⟨left,cnt,ss,hrg,hcs,hC,hJs⟩:=hrel
  gi_wp2_with (first
   |(gi_at_next;refine wpListIn_next_ranges _ rfl _ rfl (ρ.t 26) (string_keyed L.t26) R encStr id (fun key kl hk=>by obtain⟨x,hx,_⟩:=Maps.keyOf_str L.t26 hk;exact⟨x,hx⟩) (fun v _ _=>⟨v,rfl⟩) b W.heap.size nn _ _ _ rfl hrg ?_ ?_)
   |gi_in)
  ·intro hc0 hl0
   gi_wp2
   go_end0;exact⟨⟨_,rfl⟩,ss,hC.perm hown (string_keyed L.t26) L.t26 hl0,hJs⟩
  ·intro x c kl yd yp w2 cnt2 hkey hlk hv hat hrg2 hlt hg2 hs2 hen;obtain⟨x',ex,rfl,_⟩:=Maps.keyOf_str L.t26 hkey;obtain rfl:x=x':=encStr_inj ex;have hJ2:J ss w2:=hJ ss wr w2 (some W.heap.size) hJs hg2 (fun r e=>by cases e;exact⟨Nat.le_refl _,hrg.iter_walk⟩);obtain⟨fn,tmps,assign,body,hy,hR⟩:=hY ss x w2 hJ2 (by omega);clear hs2
   gi_wp2
   refine hR.mono ?_;rintro e W3 ⟨rfl,hJ3,hk3⟩
   gi_wp2
   have hrg3:=hrg2.of_walks hk3;go_roundw
   case rel=>exact⟨_,cnt2,ss++[x],hrg3,by simp;omega,hC.step hlk hat,hJ3⟩
   case measure=>rw[hrg3.left_eq,hrg.left_eq];exact hlt
def AnyZ.keysAt_gives (L:SlLaysZ.n10 P ρ){H:Type}(F:Fence)(n:Nat)(d:F.fn (ρ.f 10))(r:F.round=none)(u:1≤n)(B o b nn:Nat)(D0:DataW H){R:Value→Option (DataW H×List MemPlace)}(w:World)(e:B<w.heap.size)
 (q:w.cell? ⟨B,o,none⟩=some (.map (some b))) (h:w.ownsMap P (ρ.t 26) R b nn D0):
 SeqGives F n P (ρ.f 10) #[.pointer (some ⟨B,o,none⟩)] encStr (fun x=>x.Perm (strKeys D0)) (Maps.size D0) w:=fun l J W i k Y j=>by
 have a:W.ownsMap P (ρ.t 26) R b nn D0:=by
  have g:=h.lt;obtain⟨s,c,m,Ft,v,D⟩:=h;exact⟨s,c,(i.block b g).trans m,Ft,v,D⟩
 exact AnyZ.keysAt_in {L with} F n d r u l B o b nn D0 J Y W k ((i.cell (p:=⟨B,o,none⟩) e).trans q) a j
end
end Go.Proofs
