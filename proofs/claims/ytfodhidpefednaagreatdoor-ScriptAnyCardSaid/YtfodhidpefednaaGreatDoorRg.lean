import Derived.Test.YtfodhidpefednaaGreatDoorRf
namespace Go.Proofs.YtfodhidpefednaaGreatDoor.An
open Tryz (prog)
open Go Go.AM AnA AnB
theorem quoI {a c : Nat} (ha : a < 100000) (hc : 0 < c) : A.bin prog .quo 3 (.int .i64 (a : Int)) (.int .i64 (c : Int)) = some (.int .i64 ((a / c : Nat) : Int)) := by
 rw [bin_quo prog 3 .i64 _ _ (by omega)]
 have e : (a : Int).tdiv (c : Int) = ((a / c : Nat) : Int) := by rw [Int.tdiv_eq_ediv_of_nonneg (by omega)]; rfl
 obtain ⟨z,hz⟩ : ∃ z,z = a / c := ⟨_,rfl⟩
 have hle : z ≤ a := hz ▸ Nat.div_le_self a c
 rw [e,← hz,wrap64 (by omega) (by omega)]
theorem remI {a c : Nat} (hc : 0 < c) : A.bin prog .rem 3 (.int .i64 (a : Int)) (.int .i64 (c : Int)) = some (.int .i64 ((a % c : Nat) : Int)) := by
 rw [bin_rem prog 3 .i64 _ _ (by omega)]
 rw [Int.tmod_eq_emod_of_nonneg (by omega)]
 rfl
theorem conv35 {n : Nat} (hn : n < 256) : A.conv prog 3 5 (.int .i64 (n : Int)) = some (.int .u8 (n : Int)) := by
 have u5 : prog.underlying 5 = some (.int .u8) := Tryz.underlying5
 have u3 : prog.underlying 3 = some (.int .i64) := Tryz.underlying3
 simp only [A.conv,u5,u3]
 have e : IntKind.u8.wrap (n : Int) = (n : Int) % 256 := rfl
 rw [e,Int.emod_eq_of_lt (by omega) (by omega)]
theorem conv372 {n : Nat} (hn : n < 65536) : A.conv prog 3 34 (.int .i64 (n : Int)) = some (.int .u16 (n : Int)) := by
 have u5 : prog.underlying 34 = some (.int .u16) := Tryz.underlying34
 have u3 : prog.underlying 3 = some (.int .i64) := Tryz.underlying3
 simp only [A.conv,u5,u3]
 have e : IntKind.u16.wrap (n : Int) = (n : Int) % 65536 := rfl
 rw [e,Int.emod_eq_of_lt (by omega) (by omega)]
def cliN (a : Nat) : List UInt8 := (clients[a % 4]?).getD []
theorem cliN_mem (a : Nat) : cliN a ∈ clients := by
 unfold cliN
 have : a % 4 < 4 := Nat.mod_lt _ (by omega)
 have h4 : a % 4 = 0 ∨ a % 4 = 1 ∨ a % 4 = 2 ∨ a % 4 = 3 := by omega
 rcases h4 with h | h | h | h <;> rw [h] <;> decide
def wlN (a : Nat) : Bool := decide (a / 32 % 2 = 1)
def spC (a b : Nat) : Pk := mkC 4 (decide (a / 16 % 2 = 1)) (b % 4) (cliN a) (wlN a) (if wlN a then [97,47,119] else []) (if wlN a then [119] else []) (if wlN a then a / 64 % 3 else 0)
theorem spC_ok (a b : Nat) : Okp (spC a b) [] := by
 refine .c _ _ _ _ _ _ _ (by have := Nat.mod_lt b (show 4 > 0 by omega); omega) (cliN_mem a) (fun h => ?_) (fun h => ?_)
 · rw [h]
   refine ⟨by decide,rfl,?_⟩
   show a / 64 % 3 ≤ 2
   omega
 · rw [h]; exact ⟨rfl,rfl,rfl⟩
theorem Bx.set {h : H} {t : Nat} {p p' : Pk} {w : Value} (b : Bx h t p w) {i : Nat} {v : Value} (hi : i < 24) (hv : cellsL v = some [v]) (hp : p'.cells w = (p.cells w).set i v) :
 ∃ h',A.store 1 (.pointer (some ⟨t,i,none⟩)) v h = some h' ∧ Bx h' t p' w ∧ ExtBut (fun j => j = t) h h' ∧ h'.next = h.next := by
 obtain ⟨h',hh⟩ : ∃ h',h' = h.put t (.cells (p'.cells w) (some 0)) := ⟨_,rfl⟩
 refine ⟨h',?_,⟨by rw [hh,H.get_put,if_pos rfl],by rw [hh]; exact b.2⟩,by rw [hh]; exact ExtBut.put ⟨Nat.le_refl _,fun _ _ _ => rfl⟩ t _ rfl,by rw [hh]; rfl⟩
 have hl : (p.cells w).length = 24 := rfl
 have e1 : Nat.ble (i + 1) (p.cells w).length = true := ble_iff.2 (by omega)
 have e0 : Nat.beq [v].length 1 = true := rfl
 rw [qU,b.1,hv]
 simp only [e0,e1,Bool.and_self,cond_true,splice_one (by omega : i < (p.cells w).length)]
 rw [hh,hp]
section
variable {Q : Orc} (kn : Kn Q) {h : H}
include kn
theorem T35 (k : Nat) {ra O a : Nat} {full : List UInt8} {j : Nat} (r : Rd h ra O full j) (hO : O < h.next) (ha : a < 256) :
 ∃ h',callO prog 4 Q (k + 2) 48 [ptrV ra,.int .i64 (a : Int)] h = some (.agg ⟨(spC a (at8 full j)).cells nilS⟩,h') ∧ Rd h' ra O full (nx full j) ∧ ExtBut (fun i => i = ra) h h' := by
 rw [F48eq Q (k + 1) _ _ h (kn.fr 48 _ (by decide))]
 obtain ⟨h1,hh1⟩ : ∃ h1,h1 = h.push (.cells AnA.Z39L (some 0)) := ⟨_,rfl⟩
 have e1 : A.box 24 AnA.Z39 h = some (ptrV h.next,h1) := by rw [hh1]; rfl
 have x1 : Ext h h1 := by rw [hh1]; exact Ext.push h _
 have n1 : h1.next = h.next + 1 := by rw [hh1]; rfl
 obtain ⟨h2,hh2⟩ : ∃ h2,h2 = h1.push (.cells (clients.map str) (some 1)) := ⟨_,rfl⟩
 have e2 : A.buildSlice 1 4 AnA.Z9L [(0,1,str [120]),(1,1,str [121]),(2,1,str [122]),(3,1,str [])] h1 = some (.slice (some ⟨h1.next,0,none⟩) 4 9,h2) := by rw [hh2]; rfl
 have x2 : Ext h1 h2 := by rw [hh2]; exact Ext.push h1 _
 have n2 : h2.next = h.next + 2 := by rw [hh2]; show h1.next + 1 = _; omega
 have g2 : h2.get h1.next = some (.cells (clients.map str) (some 1)) := by rw [hh2,H.get_push,if_pos rfl]
 have ha4 : a % 4 < 4 := Nat.mod_lt _ (by omega)
 have q16 : A.bin prog .quo 3 (.int .i64 (a : Int)) (.int .i64 16) = _ := quoI (a := a) (c := 16) (by omega) (by omega)
 have q32 : A.bin prog .quo 3 (.int .i64 (a : Int)) (.int .i64 32) = _ := quoI (a := a) (c := 32) (by omega) (by omega)
 have q64 : A.bin prog .quo 3 (.int .i64 (a : Int)) (.int .i64 64) = _ := quoI (a := a) (c := 64) (by omega) (by omega)
 have r2a : A.bin prog .rem 3 (.int .i64 ((a / 16 : Nat) : Int)) (.int .i64 2) = _ := remI (a := a / 16) (c := 2) (by omega)
 have r2b : A.bin prog .rem 3 (.int .i64 ((a / 32 : Nat) : Int)) (.int .i64 2) = _ := remI (a := a / 32) (c := 2) (by omega)
 have r3 : A.bin prog .rem 3 (.int .i64 ((a / 64 : Nat) : Int)) (.int .i64 3) = _ := remI (a := a / 64) (c := 3) (by omega)
 have r4 : A.bin prog .rem 3 (.int .i64 (a : Int)) (.int .i64 4) = _ := remI (a := a) (c := 4) (by omega)
 have dA : decide (((a / 16 % 2 : Nat) : Int) = 1) = decide (a / 16 % 2 = 1) := decide_eq_decide.2 (by omega)
 have dB : decide (((a / 32 % 2 : Nat) : Int) = 1) = wlN a := decide_eq_decide.2 (by omega)
 have ix := idxS_eq 1 h1.next 0 4 9 (a % 4) .i64 ha4
 have ld : A.load false 1 (.pointer (some ⟨h1.next,0 + a % 4 * 1,none⟩)) h2 = some (str (cliN a)) := by
  rw [qK,g2]
  have h4 : a % 4 = 0 ∨ a % 4 = 1 ∨ a % 4 = 2 ∨ a % 4 = 3 := by omega
  unfold cliN
  rcases h4 with h | h | h | h <;> rw [h] <;> rfl
 rw [Nat.zero_add] at ix ld
 obtain ⟨p0,hp0⟩ : ∃ p0,p0 = mkC 4 (decide (a / 16 % 2 = 1)) 0 (cliN a) false [] [] 0 := ⟨_,rfl⟩
 have bd : A.build AnA.Z39L [(0,1,.int .u8 1),(7,1,.int .u8 4),(8,1,.bool (decide (a / 16 % 2 = 1))),(10,1,str (cliN a))] = some (.agg ⟨p0.cells nilS⟩) := by rw [hp0]; kernel_rfl
 obtain ⟨h3,hh3⟩ : ∃ h3,h3 = h2.push (.cells AnA.Z39L (some 0)) := ⟨_,rfl⟩
 have e3 : A.box 24 AnA.Z39 h2 = some (ptrV h2.next,h3) := by rw [hh3]; rfl
 have n3 : h3.next = h.next + 3 := by rw [hh3]; show h2.next + 1 = _; omega
 obtain ⟨h4,hh4⟩ : ∃ h4,h4 = h3.put h2.next (.cells (p0.cells nilS) (some 0)) := ⟨_,rfl⟩
 have g3 : h3.get h2.next = some (.cells AnA.Z39L (some 0)) := by rw [hh3,H.get_push,if_pos rfl]
 have hcl : cellsL (.agg ⟨p0.cells nilS⟩) = some (p0.cells nilS) := rfl
 have e4 : A.store 24 (ptrV h2.next) (.agg ⟨p0.cells nilS⟩) h3 = some h4 := by rw [qU,g3,hcl,hh4]; rfl
 have x4 : Ext h h4 := by
  rw [hh4]; exact ((x1.trans x2).trans (hh3 ▸ Ext.push h2 _ : Ext h2 h3)).put _ _ (by omega)
 have n4 : h4.next = h.next + 3 := by rw [hh4]; exact n3
 have b4 : Bx h4 h2.next p0 nilS := ⟨by rw [hh4,H.get_put,if_pos rfl],by omega⟩
 have gt : h4.get h.next = some (.cells AnA.Z39L (some 0)) := by
  rw [hh4,H.get_put,if_neg (by omega),hh3,H.get_push,if_neg (by omega),x2.get _ (by omega),hh1,H.get_push,if_pos rfl]
 have hra := r.ha
 have keep : ∀ {hx : H} {q : Pk} {b : Nat},Bx hx h2.next q nilS → Rd hx ra O full (nx full j) → ExtBut (fun i => i = ra) h hx → hx.get h.next = some (.cells AnA.Z39L (some 0)) → hx.next = h.next + 3 → ∀ (p' : Pk),p'.cells nilS = (q.cells nilS).set 9 (.int .u16 ((b % 4 : Nat) : Int)) →
  ∃ hy hz,A.store 1 (.pointer (some ⟨h2.next,9,none⟩)) (.int .u16 ((b % 4 : Nat) : Int)) hx = some hy ∧ A.load true 24 (ptrV h2.next) hy = some (.agg ⟨p'.cells nilS⟩) ∧ A.store 24 (ptrV h.next) (.agg ⟨p'.cells nilS⟩) hy = some hz ∧ A.load true 24 (ptrV h.next) hz = some (.agg ⟨p'.cells nilS⟩) ∧ Rd hz ra O full (nx full j) ∧ ExtBut (fun i => i = ra) h hz := by
  intro hx q b bq rd xx gx nx' p' hp'
  obtain ⟨hy,ey,by',yy,ny⟩ := bq.set (i := 9) (by omega) rfl hp'
  obtain ⟨hz,hhz⟩ : ∃ hz,hz = hy.put h.next (.cells (p'.cells nilS) (some 0)) := ⟨_,rfl⟩
  have gy : hy.get h.next = some (.cells AnA.Z39L (some 0)) := by rw [yy.get _ (by omega) (by omega)]; exact gx
  have hcl' : cellsL (.agg ⟨p'.cells nilS⟩) = some (p'.cells nilS) := rfl
  have y2 : ExtBut (fun i => i = h2.next ∨ i = h.next) hx hz := by
   rw [hhz]; exact ExtBut.put ⟨yy.next,fun i hi hs => yy.get i hi fun e => hs (.inl e)⟩ _ _ (.inr rfl)
  refine ⟨hy,hz,ey,by'.all,by rw [qU,gy,hcl',hhz]; rfl,by rw [loadN_eq,hhz,H.get_put,if_pos rfl]; rfl,?_,⟨Nat.le_trans xx.next y2.next,fun i hi hs => by rw [y2.get i (by omega) (by omega),xx.get i hi hs]⟩⟩
  obtain ⟨v,hv,hc⟩ := rd.get
  refine ⟨rd.le,Nat.lt_of_lt_of_le rd.ha y2.next,v,by rw [y2.get ra rd.ha (by omega)]; exact hv,?_⟩
  rcases hc with hc | ⟨cap,cs,own,c1,c0,c2,c3,c4,c5⟩
  · exact .inl hc
  · exact .inr ⟨cap,cs,own,c1,c0,c2,Nat.lt_of_lt_of_le c3 y2.next,by rw [y2.get O c3 (by omega)]; exact c4,c5⟩
 have r32 : ∀ x : Bool,(bif x then true else false) = x := fun x => by cases x <;> rfl
 cases hwl : wlN a with
 | false =>
  rw [hwl] at dB
  obtain ⟨h5,e5,rd5,y5,n5⟩ := T10 kn.fr (h := h4) k (r.ext x4)
  have b5 : Bx h5 h2.next p0 nilS := b4.but y5 (by omega)
  have g5 : h5.get h.next = some (.cells AnA.Z39L (some 0)) := by rw [y5.get _ (by omega) (by omega)]; exact gt
  have rk : A.bin prog .rem 3 (.int .i64 (at8 full j : Int)) (.int .i64 4) = _ := remI (a := at8 full j) (c := 4) (by omega)
  have ck := conv372 (n := at8 full j % 4) (by have := Nat.mod_lt (at8 full j) (show 4 > 0 by omega); omega)
  obtain ⟨hy,hz,k1,k2,k3,k4,rdz,yz⟩ := keep (b := at8 full j) b5 rd5 (x4.but.trans y5) g5 (by omega) (spC a (at8 full j)) (by rw [hp0]; unfold spC; rw [hwl]; rfl)
  refine ⟨hz,?_,rdz,yz⟩
  have k4 : A.load true 24 (ptrV h.next) hz = some (.agg ⟨(spC a (at8 full j)).cells nilS⟩) := k4
  simp only [F48,p48a,e1,qX,q16,r2a,qZ,zQ,dA,qQ,e2,r4,ix,ld,bd,e3,e4,q32,r2b,dB,cond_false,e5,rk,ck,qY,Nat.zero_add,k1,k2,k3,k4,resC,packA]
 | true =>
  rw [hwl] at dB
  have cq := conv35 (n := a / 64 % 3) (by have := Nat.mod_lt (a / 64) (show 3 > 0 by omega); omega)
  obtain ⟨h5,e5,b5,y5,n5⟩ := b4.set (i := 11) (v := .bool true) (p' := { p0 with will := true }) (by omega) rfl rfl
  have bw : A.build AnA.Z36L [(0,1,str [97,47,119]),(1,1,str [119]),(2,1,.int .u8 ((a / 64 % 3 : Nat) : Int))] = some (.agg ⟨[str [97,47,119],str [119],.int .u8 ((a / 64 % 3 : Nat) : Int),.bool false]⟩) := by kernel_rfl
  obtain ⟨p2,hp2⟩ : ∃ p2 : Pk,p2 = { p0 with will := true,wt := [97,47,119],wp := [119],wq := a / 64 % 3 } := ⟨_,rfl⟩
  obtain ⟨h6,hh6⟩ : ∃ h6,h6 = h5.put h2.next (.cells (p2.cells nilS) (some 0)) := ⟨_,rfl⟩
  have e6 : A.store 4 (.pointer (some ⟨h2.next,12,none⟩)) (.agg ⟨[str [97,47,119],str [119],.int .u8 ((a / 64 % 3 : Nat) : Int),.bool false]⟩) h5 = some h6 := by
   rw [qU,b5.1,hh6,hp2]; rfl
  have y6 : ExtBut (fun i => i = h2.next) h5 h6 := by rw [hh6]; exact ExtBut.put ⟨Nat.le_refl _,fun _ _ _ => rfl⟩ _ _ rfl
  have n6 : h6.next = h5.next := by rw [hh6]; rfl
  have b6 : Bx h6 h2.next p2 nilS := ⟨by rw [hh6,H.get_put,if_pos rfl],by omega⟩
  have x6 : Ext h h6 := ⟨by omega,fun i hi => by rw [y6.get i (by omega) (by omega),y5.get i (by omega) (by omega),x4.get i hi]⟩
  have g6 : h6.get h.next = some (.cells AnA.Z39L (some 0)) := by rw [y6.get _ (by omega) (by omega),y5.get _ (by omega) (by omega)]; exact gt
  obtain ⟨h7,e7,rd7,y7,n7⟩ := T10 kn.fr (h := h6) k (r.ext x6)
  have b7 : Bx h7 h2.next p2 nilS := b6.but y7 (by omega)
  have g7 : h7.get h.next = some (.cells AnA.Z39L (some 0)) := by rw [y7.get _ (by omega) (by omega)]; exact g6
  have rk : A.bin prog .rem 3 (.int .i64 (at8 full j : Int)) (.int .i64 4) = _ := remI (a := at8 full j) (c := 4) (by omega)
  have ck := conv372 (n := at8 full j % 4) (by have := Nat.mod_lt (at8 full j) (show 4 > 0 by omega); omega)
  obtain ⟨hy,hz,k1,k2,k3,k4,rdz,yz⟩ := keep (b := at8 full j) b7 rd7 (x6.but.trans y7) g7 (by omega) (spC a (at8 full j)) (by rw [hp2,hp0]; unfold spC; rw [hwl]; rfl)
  refine ⟨hz,?_,rdz,yz⟩
  simp only [F48,p48a,e1,qX,q16,r2a,qZ,zQ,dA,qQ,e2,r4,ix,ld,bd,e3,e4,q32,r2b,dB,cond_true,qY,Nat.zero_add,e5,q64,r3,cq,bw,e6,e7,rk,ck,k1,k2,k3,k4,resC,packA]
end
end Go.Proofs.YtfodhidpefednaaGreatDoor.An

namespace Go.Proofs.YtfodhidpefednaaGreatDoor.An
open Tryz (prog)
open Go Go.AM AnA AnB
def topN (a : Nat) : List UInt8 := (names[a % 6]?).getD []
theorem topN_mem (a : Nat) : topN a ∈ names := by
 unfold topN
 have h4 : a % 6 = 0 ∨ a % 6 = 1 ∨ a % 6 = 2 ∨ a % 6 = 3 ∨ a % 6 = 4 ∨ a % 6 = 5 := by omega
 rcases h4 with h | h | h | h | h | h <;> rw [h] <;> decide
def payN (b : Nat) : List UInt8 := if 0 < b / 4 % 4 then [UInt8.ofNat (97 + b / 16)] else []
def spP (a b : Nat) : Pk := mkP (if 0 < a / 8 % 3 then decide (a / 64 % 2 = 1) else false) (a / 8 % 3) (decide (a / 32 % 2 = 1)) (if 0 < a / 8 % 3 then 1 + b % 4 else 0) (topN a) (payN b)
theorem spP_ok (a b : Nat) : Okp (spP a b) [] := by
 refine .p _ _ _ _ _ _ (topN_mem a) (by omega) (by unfold payN; split <;> simp) (fun h => ?_) (fun h => ?_) ?_
 · rw [if_pos h]; omega
 · rw [if_neg (by omega),if_neg (by omega)]; exact ⟨rfl,rfl⟩
 · split <;> omega
section
variable {Q : Orc} (kn : Kn Q) {h : H}
include kn
theorem fin37 {t r O ra j : Nat} {full : List UInt8} {p : Pk} (b : Bx h t p nilS) (rd : Rd h ra O full j) {zs : List Value} (gr : h.get r = some (.cells zs (some 0))) (hz : zs.length = 24) (hrn : r < h.next) (hO : O ≠ r) (hra : ra ≠ r) :
 ∃ hz,A.store 24 (ptrV r) (.agg ⟨p.cells nilS⟩) h = some hz ∧ A.load true 24 (ptrV r) hz = some (.agg ⟨p.cells nilS⟩) ∧ Rd hz ra O full j ∧ ExtBut (fun i => i = r) h hz := by
 have _ := kn
 obtain ⟨h',hh⟩ : ∃ h',h' = h.put r (.cells (p.cells nilS) (some 0)) := ⟨_,rfl⟩
 have hcl : cellsL (.agg ⟨p.cells nilS⟩) = some (p.cells nilS) := rfl
 have x : ExtBut (fun i => i = r) h h' := by rw [hh]; exact ExtBut.put ⟨Nat.le_refl _,fun _ _ _ => rfl⟩ _ _ rfl
 refine ⟨h',?_,by rw [loadN_eq,hh,H.get_put,if_pos rfl]; rfl,rd.but x hra hO,x⟩
 rw [qU,gr,hcl]
 have e1 : Nat.beq (p.cells nilS).length 24 = true := rfl
 have e2 : Nat.ble (0 + 24) zs.length = true := ble_iff.2 (by omega)
 have e3 : splice zs 0 (p.cells nilS) = p.cells nilS := by
  simp only [splice,List.take_zero,List.nil_append,Nat.zero_add]
  rw [List.drop_eq_nil_of_le (by rw [hz]; exact Nat.le_refl _),List.append_nil]
 simp only [e1,e2,Bool.and_self,cond_true,e3]
 rw [hh]
theorem T37 (k : Nat) {ra O a : Nat} {full : List UInt8} {j : Nat} (r : Rd h ra O full j) (hO : O < h.next) (ha : a < 256) :
 ∃ h',callO prog 4 Q (k + 2) 50 [ptrV ra,.int .i64 (a : Int)] h = some (.agg ⟨(spP a (at8 full j)).cells nilS⟩,h') ∧ Rd h' ra O full (nx full j) ∧ ExtBut (fun i => i = ra) h h' := by
 rw [F50eq Q (k + 1) _ _ h (kn.fr 50 _ (by decide))]
 have hra := r.ha
 have hb8 := at8_lt full j
 obtain ⟨b,hb⟩ : ∃ b,b = at8 full j := ⟨_,rfl⟩
 rw [← hb] at hb8 ⊢
 obtain ⟨h1,hh1⟩ : ∃ h1,h1 = h.push (.cells AnA.Z39L (some 0)) := ⟨_,rfl⟩
 have e1 : A.box 24 AnA.Z39 h = some (ptrV h.next,h1) := by rw [hh1]; rfl
 have x1 : Ext h h1 := by rw [hh1]; exact Ext.push h _
 have n1 : h1.next = h.next + 1 := by rw [hh1]; rfl
 obtain ⟨h2,hh2⟩ : ∃ h2,h2 = h1.push (.cells (names.map str) (some 1)) := ⟨_,rfl⟩
 have e2 : A.buildSlice 1 6 AnA.Z9L [(0,1,str [97]),(1,1,str [97,47,98]),(2,1,str [98]),(3,1,str [97,47,119]),(4,1,str [36,115,47,120]),(5,1,str [99])] h1 = some (.slice (some ⟨h1.next,0,none⟩) 6 13,h2) := by rw [hh2]; rfl
 have x2 : Ext h1 h2 := by rw [hh2]; exact Ext.push h1 _
 have n2 : h2.next = h.next + 2 := by rw [hh2]; show h1.next + 1 = _; omega
 have g2 : h2.get h1.next = some (.cells (names.map str) (some 1)) := by rw [hh2,H.get_push,if_pos rfl]
 have ha6 : a % 6 < 6 := Nat.mod_lt _ (by omega)
 have q8 : A.bin prog .quo 3 (.int .i64 (a : Int)) (.int .i64 8) = _ := quoI (a := a) (c := 8) (by omega) (by omega)
 have q32 : A.bin prog .quo 3 (.int .i64 (a : Int)) (.int .i64 32) = _ := quoI (a := a) (c := 32) (by omega) (by omega)
 have q64 : A.bin prog .quo 3 (.int .i64 (a : Int)) (.int .i64 64) = _ := quoI (a := a) (c := 64) (by omega) (by omega)
 have r3 : A.bin prog .rem 3 (.int .i64 ((a / 8 : Nat) : Int)) (.int .i64 3) = _ := remI (a := a / 8) (c := 3) (by omega)
 have r2 : A.bin prog .rem 3 (.int .i64 ((a / 32 : Nat) : Int)) (.int .i64 2) = _ := remI (a := a / 32) (c := 2) (by omega)
 have r2' : A.bin prog .rem 3 (.int .i64 ((a / 64 : Nat) : Int)) (.int .i64 2) = _ := remI (a := a / 64) (c := 2) (by omega)
 have r6 : A.bin prog .rem 3 (.int .i64 (a : Int)) (.int .i64 6) = _ := remI (a := a) (c := 6) (by omega)
 have hq3 : a / 8 % 3 < 3 := Nat.mod_lt _ (by omega)
 have cq := conv35 (n := a / 8 % 3) (by omega)
 have dR : decide (((a / 32 % 2 : Nat) : Int) = 1) = decide (a / 32 % 2 = 1) := decide_eq_decide.2 (by omega)
 have dD : decide (((a / 64 % 2 : Nat) : Int) = 1) = decide (a / 64 % 2 = 1) := decide_eq_decide.2 (by omega)
 have ix := idxS_eq 1 h1.next 0 6 13 (a % 6) .i64 ha6
 have ld : A.load false 1 (.pointer (some ⟨h1.next,0 + a % 6 * 1,none⟩)) h2 = some (str (topN a)) := by
  rw [qK,g2]
  have h4 : a % 6 = 0 ∨ a % 6 = 1 ∨ a % 6 = 2 ∨ a % 6 = 3 ∨ a % 6 = 4 ∨ a % 6 = 5 := by omega
  unfold topN
  rcases h4 with h | h | h | h | h | h <;> rw [h] <;> rfl
 rw [Nat.zero_add] at ix ld
 obtain ⟨p0,hp0⟩ : ∃ p0,p0 = mkP false (a / 8 % 3) (decide (a / 32 % 2 = 1)) 0 (topN a) [] := ⟨_,rfl⟩
 have bd : A.build AnA.Z39L [(0,1,.int .u8 3),(5,1,str (topN a)),(2,1,.int .u8 ((a / 8 % 3 : Nat) : Int)),(3,1,.bool (decide (a / 32 % 2 = 1)))] = some (.agg ⟨p0.cells nilS⟩) := by rw [hp0]; kernel_rfl
 obtain ⟨h3,hh3⟩ : ∃ h3,h3 = h2.push (.cells AnA.Z39L (some 0)) := ⟨_,rfl⟩
 have e3 : A.box 24 AnA.Z39 h2 = some (ptrV h2.next,h3) := by rw [hh3]; rfl
 have n3 : h3.next = h.next + 3 := by rw [hh3]; show h2.next + 1 = _; omega
 obtain ⟨h4,hh4⟩ : ∃ h4,h4 = h3.put h2.next (.cells (p0.cells nilS) (some 0)) := ⟨_,rfl⟩
 have g3 : h3.get h2.next = some (.cells AnA.Z39L (some 0)) := by rw [hh3,H.get_push,if_pos rfl]
 have hcl : cellsL (.agg ⟨p0.cells nilS⟩) = some (p0.cells nilS) := rfl
 have e4 : A.store 24 (ptrV h2.next) (.agg ⟨p0.cells nilS⟩) h3 = some h4 := by rw [qU,g3,hcl,hh4]; rfl
 have x4 : Ext h h4 := by
  rw [hh4]; exact ((x1.trans x2).trans (hh3 ▸ Ext.push h2 _ : Ext h2 h3)).put _ _ (by omega)
 have n4 : h4.next = h.next + 3 := by rw [hh4]; exact n3
 have b4 : Bx h4 h2.next p0 nilS := ⟨by rw [hh4,H.get_put,if_pos rfl],by omega⟩
 have gt : h4.get h.next = some (.cells AnA.Z39L (some 0)) := by
  rw [hh4,H.get_put,if_neg (by omega),hh3,H.get_push,if_neg (by omega),x2.get _ (by omega),hh1,H.get_push,if_pos rfl]
 obtain ⟨h5,e5,rd5,y5,n5⟩ := T10 kn.fr (h := h4) k (r.ext x4)
 rw [← hb] at e5
 have b5 : Bx h5 h2.next p0 nilS := b4.but y5 (by omega)
 have g5 : h5.get h.next = some (.cells AnA.Z39L (some 0)) := by rw [y5.get _ (by omega) (by omega)]; exact gt
 have x5 : ExtBut (fun i => i = ra) h h5 := x4.but.trans y5
 have hb4 : b / 4 % 4 < 4 := Nat.mod_lt _ (by omega)
 have qb4 : A.bin prog .quo 3 (.int .i64 (b : Int)) (.int .i64 4) = _ := quoI (a := b) (c := 4) (by omega) (by omega)
 have qb16 : A.bin prog .quo 3 (.int .i64 (b : Int)) (.int .i64 16) = _ := quoI (a := b) (c := 16) (by omega) (by omega)
 have rb4 : A.bin prog .rem 3 (.int .i64 ((b / 4 : Nat) : Int)) (.int .i64 4) = _ := remI (a := b / 4) (c := 4) (by omega)
 have rb : A.bin prog .rem 3 (.int .i64 (b : Int)) (.int .i64 4) = _ := remI (a := b) (c := 4) (by omega)
 have hbm : b % 4 < 4 := Nat.mod_lt _ (by omega)
 have w97 : IntKind.i64.wrap ((97 : Int) + ((b / 16 : Nat) : Int)) = ((97 + b / 16 : Nat) : Int) := by
  obtain ⟨z,hz⟩ : ∃ z,z = b / 16 := ⟨_,rfl⟩
  have : z ≤ b := hz ▸ Nat.div_le_self b 16
  rw [← hz,wrap64 (by omega) (by omega)]; omega
 have hb16 : b / 16 < 16 := by omega
 have c97 := conv35 (n := 97 + b / 16) (by omega)
 have w1 : IntKind.i64.wrap ((1 : Int) + ((b % 4 : Nat) : Int)) = ((1 + b % 4 : Nat) : Int) := by
  obtain ⟨z,hz⟩ : ∃ z,z = b % 4 := ⟨_,rfl⟩
  rw [← hz] at hbm ⊢
  rw [wrap64 (by omega) (by omega)]; omega
 have c1 := conv372 (n := 1 + b % 4) (by omega)
 have tail : ∀ (hx : H) (pay : List UInt8),Bx hx h2.next { p0 with payload := pay } nilS → Rd hx ra O full (nx full j) → ExtBut (fun i => i = ra) h hx → hx.get h.next = some (.cells AnA.Z39L (some 0)) → h.next + 3 ≤ hx.next → pay = payN b →
  (0 < a / 8 % 3 → ∃ hy hz hw,A.store 1 (.pointer (some ⟨h2.next,4,none⟩)) (.int .u16 ((1 + b % 4 : Nat) : Int)) hx = some hy ∧ A.store 1 (.pointer (some ⟨h2.next,1,none⟩)) (.bool (decide (a / 64 % 2 = 1))) hy = some hz ∧ A.load true 24 (ptrV h2.next) hz = some (.agg ⟨(spP a b).cells nilS⟩) ∧ A.store 24 (ptrV h.next) (.agg ⟨(spP a b).cells nilS⟩) hz = some hw ∧ A.load true 24 (ptrV h.next) hw = some (.agg ⟨(spP a b).cells nilS⟩) ∧ Rd hw ra O full (nx full j) ∧ ExtBut (fun i => i = ra) h hw) ∧
  (¬ 0 < a / 8 % 3 → ∃ hw,A.load true 24 (ptrV h2.next) hx = some (.agg ⟨(spP a b).cells nilS⟩) ∧ A.store 24 (ptrV h.next) (.agg ⟨(spP a b).cells nilS⟩) hx = some hw ∧ A.load true 24 (ptrV h.next) hw = some (.agg ⟨(spP a b).cells nilS⟩) ∧ Rd hw ra O full (nx full j) ∧ ExtBut (fun i => i = ra) h hw) := by
  intro hx pay bx rdx xx gx nx' hpay
  refine ⟨fun hq => ?_,fun hq => ?_⟩
  · obtain ⟨hy,ey,by',yy,ny⟩ := bx.set (i := 4) (v := .int .u16 ((1 + b % 4 : Nat) : Int)) (p' := { p0 with payload := pay,id := 1 + b % 4 }) (by omega) rfl rfl
    obtain ⟨hz,ez,bz,yz,nz⟩ := by'.set (i := 1) (v := .bool (decide (a / 64 % 2 = 1))) (p' := { p0 with payload := pay,id := 1 + b % 4,dup := decide (a / 64 % 2 = 1) }) (by omega) rfl rfl
    have esp : ({ p0 with payload := pay,id := 1 + b % 4,dup := decide (a / 64 % 2 = 1) } : Pk) = spP a b := by
     rw [hp0,hpay]; unfold spP; rw [if_pos hq,if_pos hq]; rfl
    rw [esp] at bz
    obtain ⟨hw,f1,f2,f3,f4⟩ := fin37 kn bz ((rdx.but yy (by omega) (by omega)).but yz (by omega) (by omega)) (r := h.next) (zs := AnA.Z39L) (by rw [yz.get _ (by omega) (by omega),yy.get _ (by omega) (by omega)]; exact gx) rfl (by omega) (by omega) (by omega)
    exact ⟨hy,hz,hw,ey,ez,bz.all,f1,f2,f3,⟨by have := f4.next; have := xx.next; omega,fun i hi hs => by rw [f4.get i (by omega) (by omega),yz.get i (by omega) (by omega),yy.get i (by omega) (by omega),xx.get i hi hs]⟩⟩
  · have esp : ({ p0 with payload := pay } : Pk) = spP a b := by
     rw [hp0,hpay]; unfold spP; rw [if_neg hq,if_neg hq]; rfl
    rw [esp] at bx
    obtain ⟨hw,f1,f2,f3,f4⟩ := fin37 kn bx rdx (r := h.next) (zs := AnA.Z39L) gx rfl (by omega) (by omega) (by omega)
    exact ⟨hw,bx.all,f1,f2,f3,⟨by have := f4.next; have := xx.next; omega,fun i hi hs => by rw [f4.get i (by omega) (by omega),xx.get i hi hs]⟩⟩
 have dq0 : decide ((0 : Int) < ((a / 8 % 3 : Nat) : Int)) = decide (0 < a / 8 % 3) := decide_eq_decide.2 (by omega)
 by_cases hp : 0 < b / 4 % 4
 · have dp : decide ((0 : Int) < ((b / 4 % 4 : Nat) : Int)) = true := by rw [decide_eq_true_iff]; omega
   obtain ⟨h6,e6,el6,x6,n6⟩ := lit1 h5 (z := AnA.Z5L) rfl ((97 + b / 16 : Nat) : Int) (UInt8.ofNat (97 + b / 16)) (ofNat_int (by omega))
   have eb : A.b2s (.slice (some ⟨h5.next,0,none⟩) 1 3) h6 = some (str [UInt8.ofNat (97 + b / 16)]) := by
    simp only [A.b2s,el6,toBytes_u8]; rfl
   obtain ⟨h7,e7,b7,y7,n7⟩ := (b5.ext x6).set (i := 6) (v := str [UInt8.ofNat (97 + b / 16)]) (p' := { p0 with payload := [UInt8.ofNat (97 + b / 16)] }) (by omega) rfl rfl
   have l2 : A.load false 1 (.pointer (some ⟨h2.next,2,none⟩)) h7 = some (.int .u8 ((a / 8 % 3 : Nat) : Int)) := b7.ld (by rw [hp0]; rfl)
   obtain ⟨tq,tn⟩ := tail h7 _ b7 ((rd5.ext x6).but y7 (by omega) (by omega)) ⟨by have := x5.next; omega,fun i hi hs => by rw [y7.get i (by omega) (by omega),x6.get i (by omega),x5.get i hi hs]⟩ (by rw [y7.get _ (by omega) (by omega),x6.get _ (by omega)]; exact g5) (by omega) (by unfold payN; rw [if_pos hp])
   by_cases hq : 0 < a / 8 % 3
   · rw [decide_eq_true hq] at dq0
     obtain ⟨hy,hz,hw,k1,k2,k3,k4,k5,k6,k7⟩ := tq hq
     refine ⟨hw,?_,k6,k7⟩
     simp only [F50,p50a,palW,e1,qX,palX,e2,r6,qZ,ix,ld,q8,r3,cq,q32,r2,zQ,dR,qQ,bd,e3,e4,palY,e5,qb4,rb4,zY,dp,cond_true,qb16,bin_add,w97,c97,e6,eb,qY,Nat.zero_add,e7,l2,dq0,rb,w1,c1,k1,q64,r2',dD,k2,k3,k4,k5,resC,packA]
   · rw [decide_eq_false hq] at dq0
     obtain ⟨hw,k3,k4,k5,k6,k7⟩ := tn hq
     refine ⟨hw,?_,k6,k7⟩
     simp only [F50,p50a,palW,e1,qX,palX,e2,r6,qZ,ix,ld,q8,r3,cq,q32,r2,zQ,dR,qQ,bd,e3,e4,palY,e5,qb4,rb4,zY,dp,cond_true,qb16,bin_add,w97,c97,e6,eb,qY,Nat.zero_add,e7,l2,dq0,cond_false,k3,k4,k5,resC,packA]
 · have dp : decide ((0 : Int) < ((b / 4 % 4 : Nat) : Int)) = false := by rw [decide_eq_false_iff_not]; omega
   have l2 : A.load false 1 (.pointer (some ⟨h2.next,2,none⟩)) h5 = some (.int .u8 ((a / 8 % 3 : Nat) : Int)) := b5.ld (by rw [hp0]; rfl)
   have e00 : ({ p0 with payload := [] } : Pk) = p0 := by rw [hp0]; rfl
   obtain ⟨tq,tn⟩ := tail h5 [] (by rw [e00]; exact b5) rd5 x5 g5 (by omega) (by unfold payN; rw [if_neg hp])
   by_cases hq : 0 < a / 8 % 3
   · rw [decide_eq_true hq] at dq0
     obtain ⟨hy,hz,hw,k1,k2,k3,k4,k5,k6,k7⟩ := tq hq
     refine ⟨hw,?_,k6,k7⟩
     simp only [F50,p50a,palW,e1,qX,palX,e2,r6,qZ,ix,ld,q8,r3,cq,q32,r2,zQ,dR,qQ,bd,e3,e4,palY,e5,qb4,rb4,zY,dp,cond_true,cond_false,qY,Nat.zero_add,l2,dq0,bin_add,rb,w1,c1,k1,q64,r2',dD,k2,k3,k4,k5,resC,packA]
   · rw [decide_eq_false hq] at dq0
     obtain ⟨hw,k3,k4,k5,k6,k7⟩ := tn hq
     refine ⟨hw,?_,k6,k7⟩
     simp only [F50,p50a,palW,e1,qX,palX,e2,r6,qZ,ix,ld,q8,r3,cq,q32,r2,zQ,dR,qQ,bd,e3,e4,palY,e5,qb4,rb4,zY,dp,cond_false,qY,Nat.zero_add,l2,dq0,k3,k4,k5,resC,packA]
end
end Go.Proofs.YtfodhidpefednaaGreatDoor.An

namespace Go.Proofs.YtfodhidpefednaaGreatDoor.An
open Tryz (prog)
open Go Go.AM AnA AnB
def subN (kind b : Nat) : Sb := ((filters[b % 8]?).getD [],if kind = 8 then b / 8 % 3 else 0)
def subsN (full : List UInt8) (kind : Nat) : Nat → Nat → List Sb
 | 0,_ => []
 | n + 1,j => subN kind (at8 full j) :: subsN full kind n (nx full j)
def nxN (full : List UInt8) : Nat → Nat → Nat
 | 0,j => j
 | n + 1,j => nxN full n (nx full j)
theorem subsN_len (full : List UInt8) (kind : Nat) : ∀ n j,(subsN full kind n j).length = n
 | 0,_ => rfl
 | n + 1,j => by show (subsN full kind n (nx full j)).length + 1 = _; rw [subsN_len full kind n]
theorem filt_mem (b : Nat) : (filters[b % 8]?).getD [] ∈ filters := by
 have h4 : b % 8 = 0 ∨ b % 8 = 1 ∨ b % 8 = 2 ∨ b % 8 = 3 ∨ b % 8 = 4 ∨ b % 8 = 5 ∨ b % 8 = 6 ∨ b % 8 = 7 := by omega
 rcases h4 with h | h | h | h | h | h | h | h <;> rw [h] <;> decide
theorem subsN_ok (full : List UInt8) {kind : Nat} (hk : kind = 8 ∨ kind = 10) : ∀ n j,∀ s ∈ subsN full kind n j,s.1 ∈ filters ∧ s.2 ≤ mostN kind
 | 0,_ => by intro s hs; cases hs
 | n + 1,j => by
  intro s hs
  rcases List.mem_cons.1 hs with rfl | hs
  · refine ⟨filt_mem _,?_⟩
    show (if kind = 8 then at8 full j / 8 % 3 else 0) ≤ mostN kind
    unfold mostN
    rcases hk with rfl | rfl <;> simp <;> omega
  · exact subsN_ok full hk n _ s hs
theorem spS_ok (full : List UInt8) {kind : Nat} (hk : kind = 8 ∨ kind = 10) (a j : Nat) : Okp (mkI kind (1 + a % 4)) (subsN full kind (1 + a / 4 % 2) j) :=
 .s _ _ _ hk (by omega) (by omega) (by rw [subsN_len]; omega) (by rw [subsN_len]; omega) (subsN_ok full hk _ _)
theorem str_filt {b : Nat} {h : H} {F : Nat} (g : h.get F = some (.cells (filters.map str) (some 1))) : A.load false 1 (.pointer (some ⟨F,b % 8,none⟩)) h = some (str ((filters[b % 8]?).getD [])) := by
 rw [qK,g]
 have h4 : b % 8 = 0 ∨ b % 8 = 1 ∨ b % 8 = 2 ∨ b % 8 = 3 ∨ b % 8 = 4 ∨ b % 8 = 5 ∨ b % 8 = 6 ∨ b % 8 = 7 := by omega
 rcases h4 with h | h | h | h | h | h | h | h <;> rw [h] <;> rfl
theorem Bx.setw {h : H} {t : Nat} {p : Pk} {w w' : Value} (b : Bx h t p w) (hv : cellsL w' = some [w']) :
 ∃ h',A.store 1 (.pointer (some ⟨t,22,none⟩)) w' h = some h' ∧ Bx h' t p w' ∧ ExtBut (fun j => j = t) h h' ∧ h'.next = h.next := by
 obtain ⟨h',hh⟩ : ∃ h',h' = h.put t (.cells (p.cells w') (some 0)) := ⟨_,rfl⟩
 refine ⟨h',?_,⟨by rw [hh,H.get_put,if_pos rfl],by rw [hh]; exact b.2⟩,by rw [hh]; exact ExtBut.put ⟨Nat.le_refl _,fun _ _ _ => rfl⟩ t _ rfl,by rw [hh]; rfl⟩
 have hl : (p.cells w).length = 24 := rfl
 have e1 : Nat.ble (22 + 1) (p.cells w).length = true := ble_iff.2 (by omega)
 have e0 : Nat.beq [w'].length 1 = true := rfl
 rw [qU,b.1,hv]
 simp only [e0,e1,Bool.and_self,cond_true,splice_one (by omega : 22 < (p.cells w).length)]
 rw [hh]; rfl
theorem add36 {h : H} {t tb : Nat} {p : Pk} {w : Value} {es : List Sb} {s : Sb} {z : List Value} (hz : z.length = 2) (b : Bx h t p w) (v : Vec 2 h w (es.map sbC)) (g : h.get tb = some (.cells (sbC s) (some 0))) (sw : ∀ i,sid w = some i → i ≠ t) (hl : es.length ≤ 10) :
 ∃ h1 h2 h3 w1 w2,A.load true 2 (ptrV tb) h = some (.agg ⟨sbC s⟩) ∧ A.load false 1 (.pointer (some ⟨t,22,none⟩)) h = some w ∧ A.buildSlice 2 1 z [(0,2,.agg ⟨sbC s⟩)] h = some (w1,h1) ∧ A.append 2 24 w w1 h1 = some (w2,h2) ∧ A.store 1 (.pointer (some ⟨t,22,none⟩)) w2 h2 = some h3 ∧
  Bx h3 t p w2 ∧ Vec 2 h3 w2 ((es ++ [s]).map sbC) ∧ sid w2 = some (h.next + 1) ∧ ExtBut (fun i => i = t ∨ sid w = some i) h h3 ∧ h3.next = h.next + 2 := by
 have l2 : A.load true 2 (ptrV tb) h = some (.agg ⟨sbC s⟩) := by rw [loadN_eq,g]; rfl
 have lw : A.load false 1 (.pointer (some ⟨t,22,none⟩)) h = some w := b.ld (i := 22) rfl
 obtain ⟨h1,hh1⟩ : ∃ h1,h1 = h.push (.cells (sbC s) (some 2)) := ⟨_,rfl⟩
 have e1 : A.buildSlice 2 1 z [(0,2,.agg ⟨sbC s⟩)] h = some (.slice (some ⟨h.next,0,none⟩) 1 3,h1) := by
  rw [hh1]; exact buildSlice_one h hz rfl rfl
 have x1 : Ext h h1 := by rw [hh1]; exact Ext.push h _
 have n1 : h1.next = h.next + 1 := by rw [hh1]; rfl
 have s1 : SliceE 2 h1 (.slice (some ⟨h.next,0,none⟩) 1 3) [sbC s] := by rw [hh1]; exact slice_one rfl
 obtain ⟨h2,e2,v2,n2,x2⟩ := append_vec (bs := 24) (v.ext x1) s1 (by simp) (by omega) (by rw [List.length_map]; simp; omega) (by rw [List.length_map]; simp; omega)
 have b2 : Bx h2 t p w := (b.ext x1).but x2 (fun e => sw _ e rfl)
 obtain ⟨w2,hw2⟩ : ∃ w2,w2 = Value.slice (some ⟨h1.next,0,none⟩) ((es.map sbC).length + [sbC s].length) (2 * ((es.map sbC).length + [sbC s].length)) := ⟨_,rfl⟩
 rw [← hw2] at e2 v2
 obtain ⟨h3,e3,b3,x3,n3⟩ := b2.setw (w' := w2) (by rw [hw2]; rfl)
 have hsid : sid w2 = some (h.next + 1) := by rw [hw2]; show some h1.next = _; rw [n1]
 refine ⟨h1,h2,h3,_,w2,l2,lw,e1,e2,e3,b3,?_,hsid,⟨by omega,fun i hi hs => ?_⟩,by omega⟩
 · rw [List.map_append]
   refine v2.extBut x3 fun i hi e => ?_
   rw [hsid] at hi
   have := b.2
   simp only [Option.some.injEq] at hi
   omega
 · rw [x3.get i (by omega) (fun e => hs (.inl e)),x2.get i (by omega) (fun e => hs (.inr e)),x1.get i hi]
section
variable {Q : Orc} (kn : Kn Q)
include kn
theorem lp36 (k L : Nat) {β : Type} (kx : Value → Value → H → Option β) {kind id ra O t F r N : Nat} {full : List UInt8} (h0 : H) (hk : kind = 8 ∨ kind = 10) (hra : ra < h0.next) (hO : O < h0.next) (ht : h0.next ≤ t) (hF : h0.next ≤ F) (hr : h0.next ≤ r) (htF : t ≠ F) (htr : t ≠ r) (hFr : F ≠ r) (hN : N ≤ 2) :
 ∀ (d m : Nat) (h : H) (w : Value) (es : List Sb) (j : Nat),es.length + d = N → d < m → ExtBut (fun i => i = ra) h0 h → Bx h t (mkI kind id) w → Vec 2 h w (es.map sbC) → (∀ i,sid w = some i → h0.next ≤ i ∧ i ≠ t ∧ i ≠ F ∧ i ≠ r) → Rd h ra O full j →
  h.get F = some (.cells (filters.map str) (some 1)) → F < h.next → h.get r = some (.cells AnA.Z39L (some 0)) → r < h.next →
  ∃ h' w',paiY (callO prog 4 Q (k + 1)) L kx m (.int .i64 (N : Int)) (.int .i64 (es.length : Int)) (.int .u8 (kind : Int)) (.slice (some ⟨F,0,none⟩) 8 17) (ptrV ra) (ptrV t) (ptrV r) h = kx (ptrV t) (ptrV r) h' ∧
   Bx h' t (mkI kind id) w' ∧ Vec 2 h' w' ((es ++ subsN full kind d j).map sbC) ∧ (∀ i,sid w' = some i → h0.next ≤ i ∧ i ≠ t ∧ i ≠ F ∧ i ≠ r) ∧ Rd h' ra O full (nxN full d j) ∧ h'.get r = some (.cells AnA.Z39L (some 0)) ∧ r < h'.next ∧ ExtBut (fun i => i = ra) h0 h' := by
 intro d
 induction d with
 | zero =>
  intro m h w es j hi hm x b v sw rd gF lF gr lr
  obtain ⟨m,rfl⟩ : ∃ r,m = r + 1 := ⟨m - 1,by omega⟩
  have hd : decide ((es.length : Int) < (N : Int)) = false := by rw [decide_eq_false_iff_not]; omega
  refine ⟨h,w,?_,b,by rw [show subsN full kind 0 j = [] from rfl,List.append_nil]; exact v,sw,rd,gr,lr,x⟩
  simp only [paiY,panJ,zZ,hd,qZ,qQ,cond_false]
 | succ d ih =>
  intro m h w es j hi hm x b v sw rd gF lF gr lr
  obtain ⟨m,rfl⟩ : ∃ r,m = r + 1 := ⟨m - 1,by omega⟩
  have hd : decide ((es.length : Int) < (N : Int)) = true := by rw [decide_eq_true_iff]; omega
  obtain ⟨h1,e1,rd1,x1,n1⟩ := T10 kn.fr k rd
  have hb8 := at8_lt full j
  obtain ⟨c,hc⟩ : ∃ c,c = at8 full j := ⟨_,rfl⟩
  rw [← hc] at e1 hb8
  have b1 := b.but x1 (by omega)
  have v1 := v.extBut x1 (fun i hi e => by have := sw i hi; omega)
  have gF1 : h1.get F = some (.cells (filters.map str) (some 1)) := by rw [x1.get F lF (by omega)]; exact gF
  have gr1 : h1.get r = some (.cells AnA.Z39L (some 0)) := by rw [x1.get r lr (by omega)]; exact gr
  have x01 : ExtBut (fun i => i = ra) h0 h1 := x.trans x1
  have r8 : A.bin prog .rem 3 (.int .i64 (c : Int)) (.int .i64 8) = _ := remI (a := c) (c := 8) (by omega)
  have ix := idxS_eq 1 F 0 8 17 (c % 8) .i64 (Nat.mod_lt _ (by omega))
  rw [Nat.zero_add,Nat.mul_one] at ix
  have ld := str_filt (b := c) gF1
  obtain ⟨f,hf⟩ : ∃ f,f = (filters[c % 8]?).getD [] := ⟨_,rfl⟩
  rw [← hf] at ld
  have bd : A.build AnA.Z120L [(0,1,str f)] = some (.agg ⟨sbC (f,0)⟩) := by kernel_rfl
  obtain ⟨h2,hh2⟩ : ∃ h2,h2 = h1.push (.cells AnA.Z120L (some 0)) := ⟨_,rfl⟩
  have e2 : A.box 2 AnA.Z120 h1 = some (ptrV h1.next,h2) := by rw [hh2]; rfl
  have n2 : h2.next = h1.next + 1 := by rw [hh2]; rfl
  have x2 : Ext h1 h2 := by rw [hh2]; exact Ext.push h1 _
  obtain ⟨h3,hh3⟩ : ∃ h3,h3 = h2.put h1.next (.cells (sbC (f,0)) (some 0)) := ⟨_,rfl⟩
  have g2 : h2.get h1.next = some (.cells AnA.Z120L (some 0)) := by rw [hh2,H.get_push,if_pos rfl]
  have hcl : cellsL (.agg ⟨sbC (f,0)⟩) = some (sbC (f,0)) := rfl
  have e3 : A.store 2 (ptrV h1.next) (.agg ⟨sbC (f,0)⟩) h2 = some h3 := by rw [qU,g2,hcl,hh3]; rfl
  have x3 : Ext h1 h3 := by rw [hh3]; exact x2.put _ _ (Nat.le_refl _)
  have n3 : h3.next = h1.next + 1 := by rw [hh3]; exact n2
  have g3 : h3.get h1.next = some (.cells (sbC (f,0)) (some 0)) := by rw [hh3,H.get_put,if_pos rfl]
  have wi : IntKind.i64.wrap ((es.length : Int) + 1) = ((es.length + 1 : Nat) : Int) := wrap_succ (by omega)
  have next : ∀ (h4 : H) (s : Sb),Ext h1 h4 → h4.get h1.next = some (.cells (sbC s) (some 0)) → h1.next < h4.next → s = subN kind c → ∃ h5 h6 h7 w1 w2 h' w',A.load true 2 (ptrV h1.next) h4 = some (.agg ⟨sbC s⟩) ∧ A.load false 1 (.pointer (some ⟨t,22,none⟩)) h4 = some w ∧ A.buildSlice 2 1 AnA.Z120L [(0,2,.agg ⟨sbC s⟩)] h4 = some (w1,h5) ∧ A.append 2 24 w w1 h5 = some (w2,h6) ∧ A.store 1 (.pointer (some ⟨t,22,none⟩)) w2 h6 = some h7 ∧
   paiY (callO prog 4 Q (k + 1)) L kx m (.int .i64 (N : Int)) (.int .i64 ((es.length + 1 : Nat) : Int)) (.int .u8 (kind : Int)) (.slice (some ⟨F,0,none⟩) 8 17) (ptrV ra) (ptrV t) (ptrV r) h7 = kx (ptrV t) (ptrV r) h' ∧
   Bx h' t (mkI kind id) w' ∧ Vec 2 h' w' ((es ++ subsN full kind (d + 1) j).map sbC) ∧ (∀ i,sid w' = some i → h0.next ≤ i ∧ i ≠ t ∧ i ≠ F ∧ i ≠ r) ∧ Rd h' ra O full (nxN full (d + 1) j) ∧ h'.get r = some (.cells AnA.Z39L (some 0)) ∧ r < h'.next ∧ ExtBut (fun i => i = ra) h0 h' := by
   intro h4 s x4 g4 l4 hs
   have hx01 := x01.next
   have hx4 := x4.next
   have ht1 := b1.2
   obtain ⟨h5,h6,h7,w1,w2,a1,a2,a3,a4,a5,b7,v7,s7,x7,n7⟩ := add36 (z := AnA.Z120L) rfl (b1.ext x4) (v1.ext x4) g4 (fun i hi => (sw i hi).2.1) (by omega)
   have x07 : ExtBut (fun i => i = ra) h0 h7 := by
    refine ⟨by omega,fun i hi hn => ?_⟩
    rw [x7.get i (by omega) (fun e => by rcases e with e | e; omega; have := sw i e; omega),x4.get i (by omega),x01.get i hi hn]
   have rd7 : Rd h7 ra O full (nx full j) := (rd1.ext x4).but x7 (fun e => by rcases e with e | e; omega; have := sw ra e; omega) (fun e => by rcases e with e | e; omega; have := sw O e; omega)
   have gF7 : h7.get F = some (.cells (filters.map str) (some 1)) := by
    rw [x7.get F (by omega) (fun e => by rcases e with e | e; omega; have := sw F e; omega),x4.get F (by omega)]; exact gF1
   have gr7 : h7.get r = some (.cells AnA.Z39L (some 0)) := by
    rw [x7.get r (by omega) (fun e => by rcases e with e | e; omega; have := sw r e; omega),x4.get r (by omega)]; exact gr1
   have hl7 : (es ++ [s]).length = es.length + 1 := by simp
   obtain ⟨h',w',f1,f2,f3,f4,f5,f6,f7,f8⟩ := ih m h7 w2 (es ++ [s]) (nx full j) (by omega) (by omega) x07 b7 v7 (fun i hi => by rw [s7] at hi; simp only [Option.some.injEq] at hi; omega) rd7 gF7 (by omega) gr7 (by omega)
   rw [hl7] at f1
   refine ⟨h5,h6,h7,w1,w2,h',w',a1,a2,a3,a4,a5,f1,f2,?_,f4,f5,f6,f7,f8⟩
   have : es ++ subsN full kind (d + 1) j = (es ++ [s]) ++ subsN full kind d (nx full j) := by
    rw [List.append_assoc,hs,hc]; rfl
   rw [this]; exact f3
  rcases hk with hk | hk
  · have d8 : decide ((kind : Int) = 8) = true := by rw [decide_eq_true_iff]; omega
    have q8 : A.bin prog .quo 3 (.int .i64 (c : Int)) (.int .i64 8) = _ := quoI (a := c) (c := 8) (by omega) (by omega)
    have r3 : A.bin prog .rem 3 (.int .i64 ((c / 8 : Nat) : Int)) (.int .i64 3) = _ := remI (a := c / 8) (c := 3) (by omega)
    have hq3 : c / 8 % 3 < 3 := Nat.mod_lt _ (by omega)
    have cq := conv35 (n := c / 8 % 3) (by omega)
    obtain ⟨h4,hh4⟩ : ∃ h4,h4 = h3.put h1.next (.cells (sbC (f,c / 8 % 3)) (some 0)) := ⟨_,rfl⟩
    have e4 : A.store 1 (.pointer (some ⟨h1.next,1,none⟩)) (.int .u8 ((c / 8 % 3 : Nat) : Int)) h3 = some h4 := by rw [qU,g3,hh4]; rfl
    obtain ⟨h5,h6,h7,w1,w2,h',w',a1,a2,a3,a4,a5,f1,rest⟩ := next h4 (f,c / 8 % 3) (by rw [hh4]; exact x3.put _ _ (Nat.le_refl _)) (by rw [hh4,H.get_put,if_pos rfl]) (by rw [hh4]; show h1.next < h3.next; omega) (by unfold subN; rw [if_pos hk,← hf])
    refine ⟨h',w',?_,rest⟩
    simp only [paiY,panJ,zZ,hd,qZ,qQ,cond_true,e1,qX,r8,ix,ld,bd,e2,e3,zQ,d8,q8,r3,cq,qY,Nat.zero_add,e4,a2,a1,a3,a4,a5,bin_add,wi,f1]
  · have d8 : decide ((kind : Int) = 8) = false := by rw [decide_eq_false_iff_not]; omega
    obtain ⟨h5,h6,h7,w1,w2,h',w',a1,a2,a3,a4,a5,f1,rest⟩ := next h3 (f,0) x3 g3 (by omega) (by unfold subN; rw [if_neg (by omega),← hf])
    refine ⟨h',w',?_,rest⟩
    simp only [paiY,panJ,zZ,hd,qZ,qQ,cond_true,e1,qX,r8,ix,ld,bd,e2,e3,zQ,d8,cond_false,qY,Nat.zero_add,a2,a1,a3,a4,a5,bin_add,wi,f1]
variable {h : H}
theorem T36 (k : Nat) {kind ra O a : Nat} {full : List UInt8} {j : Nat} (hk : kind = 8 ∨ kind = 10) (rd : Rd h ra O full j) (hO : O < h.next) (ha : a < 256) :
 ∃ h' w,callO prog 4 Q (k + 5) 49 [ptrV ra,.int .u8 (kind : Int),.int .i64 (a : Int)] h = some (.agg ⟨(mkI kind (1 + a % 4)).cells w⟩,h') ∧ SliceE 2 h' w ((subsN full kind (1 + a / 4 % 2) j).map sbC) ∧ (∀ i,sid w = some i → h.next ≤ i) ∧ Rd h' ra O full (nxN full (1 + a / 4 % 2) j) ∧ ExtBut (fun i => i = ra) h h' := by
 rw [F49eq Q (k + 4) _ _ _ h (kn.fr 49 _ (by decide))]
 have hra := rd.ha
 obtain ⟨h1,hh1⟩ : ∃ h1,h1 = h.push (.cells AnA.Z39L (some 0)) := ⟨_,rfl⟩
 have e1 : A.box 24 AnA.Z39 h = some (ptrV h.next,h1) := by rw [hh1]; rfl
 have x1 : Ext h h1 := by rw [hh1]; exact Ext.push h _
 have n1 : h1.next = h.next + 1 := by rw [hh1]; rfl
 have r4 : A.bin prog .rem 3 (.int .i64 (a : Int)) (.int .i64 4) = _ := remI (a := a) (c := 4) (by omega)
 have ham : a % 4 < 4 := Nat.mod_lt _ (by omega)
 obtain ⟨z,hz⟩ : ∃ z,z = a % 4 := ⟨_,rfl⟩
 rw [← hz] at r4 ham ⊢
 have w1 : IntKind.i64.wrap ((1 : Int) + (z : Int)) = ((1 + z : Nat) : Int) := by rw [wrap64 (by omega) (by omega)]; omega
 have c1 := conv372 (n := 1 + z) (by omega)
 obtain ⟨p,hp⟩ : ∃ p,p = mkI kind (1 + z) := ⟨_,rfl⟩
 have bd : A.build AnA.Z39L [(0,1,.int .u8 (kind : Int)),(4,1,.int .u16 ((1 + z : Nat) : Int))] = some (.agg ⟨p.cells nilS⟩) := by rw [hp]; kernel_rfl
 obtain ⟨h2,hh2⟩ : ∃ h2,h2 = h1.push (.cells AnA.Z39L (some 0)) := ⟨_,rfl⟩
 have e2 : A.box 24 AnA.Z39 h1 = some (ptrV h1.next,h2) := by rw [hh2]; rfl
 have n2 : h2.next = h1.next + 1 := by rw [hh2]; rfl
 obtain ⟨h3,hh3⟩ : ∃ h3,h3 = h2.put h1.next (.cells (p.cells nilS) (some 0)) := ⟨_,rfl⟩
 have g2 : h2.get h1.next = some (.cells AnA.Z39L (some 0)) := by rw [hh2,H.get_push,if_pos rfl]
 have hcl : cellsL (.agg ⟨p.cells nilS⟩) = some (p.cells nilS) := rfl
 have e3 : A.store 24 (ptrV h1.next) (.agg ⟨p.cells nilS⟩) h2 = some h3 := by rw [qU,g2,hcl,hh3]; rfl
 have n3 : h3.next = h1.next + 1 := by rw [hh3]; exact n2
 have x3 : Ext h h3 := by rw [hh3]; exact (x1.trans (hh2 ▸ Ext.push h1 _ : Ext h1 h2)).put _ _ (by omega)
 obtain ⟨h4,hh4⟩ : ∃ h4,h4 = h3.push (.cells (filters.map str) (some 1)) := ⟨_,rfl⟩
 have e4 : A.buildSlice 1 8 AnA.Z9L [(0,1,(.string ⟨⟨[97]⟩⟩)),(1,1,(.string ⟨⟨[97,47,43]⟩⟩)),(2,1,(.string ⟨⟨[35]⟩⟩)),(3,1,(.string ⟨⟨[43,47,98]⟩⟩)),(4,1,(.string ⟨⟨[97,47,35]⟩⟩)),(5,1,(.string ⟨⟨[98]⟩⟩)),(6,1,(.string ⟨⟨[36,115,47,35]⟩⟩)),(7,1,(.string ⟨⟨[43]⟩⟩))] h3 = some (.slice (some ⟨h3.next,0,none⟩) 8 17,h4) := by rw [hh4]; rfl
 have x4 : Ext h3 h4 := by rw [hh4]; exact Ext.push h3 _
 have n4 : h4.next = h3.next + 1 := by rw [hh4]; rfl
 have q4 : A.bin prog .quo 3 (.int .i64 (a : Int)) (.int .i64 4) = _ := quoI (a := a) (c := 4) (by omega) (by omega)
 have r2 : A.bin prog .rem 3 (.int .i64 ((a / 4 : Nat) : Int)) (.int .i64 2) = _ := remI (a := a / 4) (c := 2) (by omega)
 have hm2 : a / 4 % 2 < 2 := Nat.mod_lt _ (by omega)
 obtain ⟨y,hy⟩ : ∃ y,y = a / 4 % 2 := ⟨_,rfl⟩
 rw [← hy] at r2 hm2 ⊢
 have w2 : IntKind.i64.wrap ((1 : Int) + (y : Int)) = ((1 + y : Nat) : Int) := by rw [wrap64 (by omega) (by omega)]; omega
 have b4 : Bx h4 h1.next p nilS := ⟨by rw [x4.get _ (by omega),hh3,H.get_put,if_pos rfl],by omega⟩
 have gF : h4.get h3.next = some (.cells (filters.map str) (some 1)) := by rw [hh4,H.get_push,if_pos rfl]
 have gr : h4.get h.next = some (.cells AnA.Z39L (some 0)) := by
  rw [x4.get _ (by omega),hh3,H.get_put,if_neg (by omega),hh2,H.get_push,if_neg (by omega),hh1,H.get_push,if_pos rfl]
 rw [hp] at b4
 have sw0 : ∀ i,sid nilS = some i → h.next ≤ i ∧ i ≠ h1.next ∧ i ≠ h3.next ∧ i ≠ h.next := fun i hi => by simp [sid] at hi
 have loop := fun (kx : Value → Value → H → Option (Value × H)) => lp36 kn (k + 3) (k + 4) kx (kind := kind) (id := 1 + z) (ra := ra) (O := O) (t := h1.next) (F := h3.next) (r := h.next) (N := 1 + y) (full := full) h hk hra hO (by omega) (by omega) (by omega) (by omega) (by omega) (by omega) (by omega) (1 + y) (k + 4) h4 nilS [] j (by simp) (by omega) (x3.trans x4).but b4 (Vec.nil 2 h4) sw0 (rd.ext (x3.trans x4)) gF (by omega) gr (by omega)
 obtain ⟨h5,w,f1,b5,v5,s5,rd5,gr5,lr5,x5⟩ := loop (fun x7 x6 hx => paqE (callO prog 4 Q (k + 4)) (k + 4) x7 x6 hx (fun x6 h => bnd (resC (A.load true 24 x6 h) (some [])) fun vs => some (packA vs,h)))
 obtain ⟨h6,hh6⟩ : ∃ h6,h6 = h5.put h.next (.cells ((mkI kind (1 + z)).cells w) (some 0)) := ⟨_,rfl⟩
 have hclw : cellsL (.agg ⟨(mkI kind (1 + z)).cells w⟩) = some ((mkI kind (1 + z)).cells w) := rfl
 have x6 : ExtBut (fun i => i = h.next) h5 h6 := by rw [hh6]; exact ExtBut.put ⟨Nat.le_refl _,fun _ _ _ => rfl⟩ _ _ rfl
 have e6 : A.store 24 (ptrV h.next) (.agg ⟨(mkI kind (1 + z)).cells w⟩) h5 = some h6 := by rw [qU,gr5,hclw,hh6]; rfl
 have l6 : A.load true 24 (ptrV h.next) h6 = some (.agg ⟨(mkI kind (1 + z)).cells w⟩) := by rw [loadN_eq,hh6,H.get_put,if_pos rfl]; rfl
 refine ⟨h6,w,?_,(v5.extBut x6 (fun i hi e => (s5 i hi).2.2.2 e)).slice,fun i hi => (s5 i hi).1,rd5.but x6 (by omega) (by omega),⟨by have := x5.next; have := x6.next; omega,fun i hi hs => by have := x5.next; rw [x6.get i (by omega) (by omega),x5.get i hi hs]⟩⟩
 simp only [F49,p49a,patU,e1,qX,patV,r4,qZ,bin_add,w1,c1,bd,e2,e3,patW,e4,pafH,patX,q4,r2,w2,pagS]
 refine f1.trans ?_
 simp only [paqE,b5.all,qZ,e6,l6,resC,packA]
end
end Go.Proofs.YtfodhidpefednaaGreatDoor.An

namespace Go.Proofs.YtfodhidpefednaaGreatDoor.An
open Tryz (prog)
open Go Go.AM AnA AnB
structure Ent where
 kind : Nat
 conn : Nat
 n : Nat
 m1 : Nat
 m2 : Nat
 m3 : Nat
 text : List UInt8
def Ent.cells (e : Ent) : List Value := [.int .u8 (e.kind : Int),.int .i64 (e.conn : Int),.int .i64 (e.n : Int),.int .i64 (e.m1 : Int),.int .i64 (e.m2 : Int),.int .i64 (e.m3 : Int),str e.text]
def rawN (full : List UInt8) : Nat → Nat → List UInt8
 | 0,_ => []
 | n + 1,j => UInt8.ofNat (at8 full j) :: rawN full n (nx full j)
theorem rawN_len (full : List UInt8) : ∀ n j,(rawN full n j).length = n
 | 0,_ => rfl
 | n + 1,j => by show (rawN full n (nx full j)).length + 1 = _; rw [rawN_len full n]
def fdA (full : List UInt8) (k a j : Nat) : Pk × List Sb × Nat :=
 if k = 1 ∨ k = 2 then (spC a (at8 full j),[],nx full j)
 else if k = 3 then (mkI 8 (1 + a % 4),subsN full 8 (1 + a / 4 % 2) j,nxN full (1 + a / 4 % 2) j)
 else if k = 4 then (mkI 10 (1 + a % 4),subsN full 10 (1 + a / 4 % 2) j,nxN full (1 + a / 4 % 2) j)
 else if k = 5 ∨ k = 6 then (spP a (at8 full j),[],nx full j)
 else if k = 7 then (mkI (4 + a % 4) (1 + a / 4 % 4),[],j)
 else (mkI (if a % 2 = 1 then 14 else 12) 0,[],j)
theorem fdA_ok (full : List UInt8) (k a j : Nat) : Okp (fdA full k a j).1 (fdA full k a j).2.1 := by
 unfold fdA
 split
 · exact spC_ok _ _
 · split
   · exact spS_ok full (.inl rfl) a j
   · split
     · exact spS_ok full (.inr rfl) a j
     · split
       · exact spP_ok _ _
       · split
         · exact .a _ _ (by omega) (by omega) (by omega)
         · exact .b _ (by split <;> simp)
def feedA (full : List UInt8) (k a j : Nat) : List UInt8 × Nat :=
 if k = 9 then (rawN full (a % 16) j,nxN full (a % 16) j) else (encB (fdA full k a j).1 (fdA full k a j).2.1,(fdA full k a j).2.2)
theorem dne {k : Nat} {c : Int} (h : (k : Int) ≠ c) : decide ((k : Int) = c) = false := decide_eq_false h
theorem deq {k : Nat} {c : Int} (h : (k : Int) = c) : decide ((k : Int) = c) = true := decide_eq_true h
theorem store24 {h : H} {t : Nat} {zs : List Value} (hz : zs.length = 24) (g : h.get t = some (.cells zs (some 0))) (lt : t < h.next) (p : Pk) (w : Value) :
 ∃ h',A.store 24 (ptrV t) (.agg ⟨p.cells w⟩) h = some h' ∧ Bx h' t p w ∧ ExtBut (fun i => i = t) h h' ∧ h'.next = h.next := by
 obtain ⟨h',hh⟩ : ∃ h',h' = h.put t (.cells (p.cells w) (some 0)) := ⟨_,rfl⟩
 have hcl : cellsL (.agg ⟨p.cells w⟩) = some (p.cells w) := rfl
 refine ⟨h',?_,⟨by rw [hh,H.get_put,if_pos rfl],by rw [hh]; exact lt⟩,by rw [hh]; exact ExtBut.put ⟨Nat.le_refl _,fun _ _ _ => rfl⟩ _ _ rfl,by rw [hh]; rfl⟩
 rw [qU,g,hcl]
 have e1 : Nat.beq (p.cells w).length 24 = true := rfl
 have e2 : Nat.ble (0 + 24) zs.length = true := ble_iff.2 (by omega)
 have e3 : splice zs 0 (p.cells w) = p.cells w := by
  simp only [splice,List.take_zero,List.nil_append,Nat.zero_add]
  rw [List.drop_eq_nil_of_le (by rw [hz]; exact Nat.le_refl _),List.append_nil]
 simp only [e1,e2,Bool.and_self,cond_true,e3]
 rw [hh]
theorem store7 {h : H} {t : Nat} {zs : List Value} (hz : zs.length = 7) (g : h.get t = some (.cells zs (some 0))) (e : Ent) :
 ∃ h',A.store 7 (ptrV t) (.agg ⟨e.cells⟩) h = some h' ∧ h'.get t = some (.cells e.cells (some 0)) ∧ ExtBut (fun i => i = t) h h' ∧ h'.next = h.next := by
 obtain ⟨h',hh⟩ : ∃ h',h' = h.put t (.cells e.cells (some 0)) := ⟨_,rfl⟩
 have hcl : cellsL (.agg ⟨e.cells⟩) = some e.cells := rfl
 refine ⟨h',?_,by rw [hh,H.get_put,if_pos rfl],by rw [hh]; exact ExtBut.put ⟨Nat.le_refl _,fun _ _ _ => rfl⟩ _ _ rfl,by rw [hh]; rfl⟩
 rw [qU,g,hcl]
 have e1 : Nat.beq e.cells.length 7 = true := rfl
 have e2 : Nat.ble (0 + 7) zs.length = true := ble_iff.2 (by omega)
 have e3 : splice zs 0 e.cells = e.cells := by
  simp only [splice,List.take_zero,List.nil_append,Nat.zero_add]
  rw [List.drop_eq_nil_of_le (by rw [hz]; exact Nat.le_refl _),List.append_nil]
 simp only [e1,e2,Bool.and_self,cond_true,e3]
 rw [hh]
theorem load7 {h : H} {t : Nat} {e : Ent} (g : h.get t = some (.cells e.cells (some 0))) : A.load true 7 (ptrV t) h = some (.agg ⟨e.cells⟩) := by rw [loadN_eq,g]; rfl
theorem set7 {h : H} {t : Nat} {e e' : Ent} (g : h.get t = some (.cells e.cells (some 0))) {i : Nat} {v : Value} (hi : i < 7) (hv : cellsL v = some [v]) (hp : e'.cells = e.cells.set i v) :
 ∃ h',A.store 1 (.pointer (some ⟨t,i,none⟩)) v h = some h' ∧ h'.get t = some (.cells e'.cells (some 0)) ∧ ExtBut (fun j => j = t) h h' ∧ h'.next = h.next := by
 obtain ⟨h',hh⟩ : ∃ h',h' = h.put t (.cells e'.cells (some 0)) := ⟨_,rfl⟩
 refine ⟨h',?_,by rw [hh,H.get_put,if_pos rfl],by rw [hh]; exact ExtBut.put ⟨Nat.le_refl _,fun _ _ _ => rfl⟩ t _ rfl,by rw [hh]; rfl⟩
 have hl : e.cells.length = 7 := rfl
 have e1 : Nat.ble (i + 1) e.cells.length = true := ble_iff.2 (by omega)
 have e0 : Nat.beq [v].length 1 = true := rfl
 rw [qU,g,hv]
 simp only [e0,e1,Bool.and_self,cond_true,splice_one (by omega : i < e.cells.length)]
 rw [hh,hp]
theorem fin18 {h : H} {r t : Nat} {zs : List Value} (hz : zs.length = 7) {e : Ent} (g : h.get t = some (.cells e.cells (some 0))) (gr : h.get r = some (.cells zs (some 0))) (lr : r < h.next) (hrt : r ≠ t) (tx : List UInt8) :
 ∃ h1 h2,A.store 1 (.pointer (some ⟨t,6,none⟩)) (str tx) h = some h1 ∧ A.load true 7 (ptrV t) h1 = some (.agg ⟨({ e with text := tx } : Ent).cells⟩) ∧ A.store 7 (ptrV r) (.agg ⟨({ e with text := tx } : Ent).cells⟩) h1 = some h2 ∧ A.load true 7 (ptrV r) h2 = some (.agg ⟨({ e with text := tx } : Ent).cells⟩) ∧ ExtBut (fun i => i = t ∨ i = r) h h2 := by
 obtain ⟨h1,e1,g1,x1,n1⟩ := set7 (e' := { e with text := tx }) g (i := 6) (v := str tx) (by omega) rfl rfl
 obtain ⟨h2,e2,g2,x2,n2⟩ := store7 hz (by rw [x1.get r lr hrt]; exact gr : h1.get r = some (.cells zs (some 0))) { e with text := tx }
 exact ⟨h1,h2,e1,load7 g1,e2,load7 g2,⟨by omega,fun i hi hs => by rw [x2.get i (by omega) (fun e => hs (.inr e)),x1.get i hi (fun e => hs (.inl e))]⟩⟩
section
variable {Q : Orc} (kn : Kn Q) {h : H}
include kn
theorem disp18 (K : Nat) {k a j ra O t : Nat} {full : List UInt8} {x5 x4 : Value} (hk : 0 < k) (hk8 : k < 9) (ha : a < 256) (rd : Rd h ra O full j) (hO : O < h.next) (g : h.get t = some (.cells AnA.Z39L (some 0))) (lt : t < h.next) (hrt : ra ≠ t) (hOt : O ≠ t) :
 ∃ h' w,(∀ (β : Type) (kc : Value → Value → Value → H → Option β) (kr : Value → H → Option β),paaD (callO prog 4 Q (K + 5)) (K + 5) (.int .i64 (k : Int)) (ptrV t) (.int .i64 (a : Int)) (ptrV ra) x5 x4 h kc kr = kc (ptrV t) x5 x4 h') ∧
  Bx h' t (fdA full k a j).1 w ∧ SliceE 2 h' w ((fdA full k a j).2.1.map sbC) ∧ Rd h' ra O full (fdA full k a j).2.2 ∧ ExtBut (fun i => i = ra ∨ i = t) h h' := by
 have join : ∀ {h1 h2 : H},ExtBut (fun i => i = ra) h h1 → ExtBut (fun i => i = t) h1 h2 → ExtBut (fun i => i = ra ∨ i = t) h h2 := fun {h1 h2} a b => by
  have := a.next
  exact ⟨Nat.le_trans a.next b.next,fun i hi hs => by rw [b.get i (by omega) (fun e => hs (.inr e)),a.get i hi (fun e => hs (.inl e))]⟩
 have keep : ∀ {h1 : H},ExtBut (fun i => i = ra) h h1 → h1.get t = some (.cells AnA.Z39L (some 0)) ∧ t < h1.next := fun {h1} x => ⟨by rw [x.get t lt (fun e => hrt e.symm)]; exact g,Nat.lt_of_lt_of_le lt x.next⟩
 by_cases k12 : k = 1 ∨ k = 2
 · obtain ⟨h1,e1,rd1,x1⟩ := T35 kn (K + 3) rd hO ha
   have e1 : callO prog 4 Q (K + 5) 48 [ptrV ra,.int .i64 (a : Int)] h = _ := e1
   obtain ⟨g1,l1⟩ := keep x1
   obtain ⟨h2,e2,b2,x2,n2⟩ := store24 rfl g1 l1 (spC a (at8 full j)) nilS
   have ef : fdA full k a j = (spC a (at8 full j),[],nx full j) := by unfold fdA; rw [if_pos k12]
   rw [ef]
   refine ⟨h2,nilS,fun β kc kr => ?_,b2,(Vec.nil 2 h2).slice,rd1.but x2 hrt hOt,join x1 x2⟩
   rcases k12 with k1 | k2
   · have d1 := deq (k := k) (c := 1) (by omega)
     simp only [paaD,pahW,paaF,pahX,zQ,d1,qZ,qQ,cond_true,paaI,qW,papT,e1,qX,e2]
   · have d1 := dne (k := k) (c := 1) (by omega)
     have d2 := deq (k := k) (c := 2) (by omega)
     simp only [paaD,pahW,paaF,pahX,zQ,d1,d2,qZ,qQ,cond_true,cond_false,paaI,qW,papT,e1,qX,e2]
 have d1 := dne (k := k) (c := 1) (by omega)
 have d2 := dne (k := k) (c := 2) (by omega)
 by_cases k3 : k = 3
 · obtain ⟨h1,w,e1,s1,sw,rd1,x1⟩ := T36 kn K (kind := 8) (.inl rfl) rd hO ha
   have e1 : callO prog 4 Q (K + 5) 49 [ptrV ra,.int .u8 8,.int .i64 (a : Int)] h = _ := e1
   obtain ⟨g1,l1⟩ := keep x1
   obtain ⟨h2,e2,b2,x2,n2⟩ := store24 rfl g1 l1 (mkI 8 (1 + a % 4)) w
   have ef : fdA full k a j = (mkI 8 (1 + a % 4),subsN full 8 (1 + a / 4 % 2) j,nxN full (1 + a / 4 % 2) j) := by unfold fdA; rw [if_neg k12,if_pos k3]
   rw [ef]
   have d3 := deq (k := k) (c := 3) (by omega)
   refine ⟨h2,w,fun β kc kr => ?_,b2,s1.extBut x2 (fun i hi e => by have := sw i hi; omega),rd1.but x2 hrt hOt,join x1 x2⟩
   simp only [paaD,pahW,paaF,pahX,zQ,qZ,qQ,cond_true,cond_false,paaI,qW,qX,d1,d2,d3,paaN,paiQ,paaR,pasX,e1,e2]
 have d3 := dne (k := k) (c := 3) (by omega)
 by_cases k4 : k = 4
 · obtain ⟨h1,w,e1,s1,sw,rd1,x1⟩ := T36 kn K (kind := 10) (.inr rfl) rd hO ha
   have e1 : callO prog 4 Q (K + 5) 49 [ptrV ra,.int .u8 10,.int .i64 (a : Int)] h = _ := e1
   obtain ⟨g1,l1⟩ := keep x1
   obtain ⟨h2,e2,b2,x2,n2⟩ := store24 rfl g1 l1 (mkI 10 (1 + a % 4)) w
   have ef : fdA full k a j = (mkI 10 (1 + a % 4),subsN full 10 (1 + a / 4 % 2) j,nxN full (1 + a / 4 % 2) j) := by unfold fdA; rw [if_neg k12,if_neg k3,if_pos k4]
   rw [ef]
   have d4 := deq (k := k) (c := 4) (by omega)
   refine ⟨h2,w,fun β kc kr => ?_,b2,s1.extBut x2 (fun i hi e => by have := sw i hi; omega),rd1.but x2 hrt hOt,join x1 x2⟩
   simp only [paaD,pahW,paaF,pahX,zQ,qZ,qQ,cond_true,cond_false,paaI,qW,qX,d1,d2,d3,d4,paaN,paiQ,paaR,paaX,paiW,pabB,pasW,e1,e2]
 have d4 := dne (k := k) (c := 4) (by omega)
 by_cases k56 : k = 5 ∨ k = 6
 · obtain ⟨h1,e1,rd1,x1⟩ := T37 kn (K + 3) rd hO ha
   have e1 : callO prog 4 Q (K + 5) 50 [ptrV ra,.int .i64 (a : Int)] h = _ := e1
   obtain ⟨g1,l1⟩ := keep x1
   obtain ⟨h2,e2,b2,x2,n2⟩ := store24 rfl g1 l1 (spP a (at8 full j)) nilS
   have ef : fdA full k a j = (spP a (at8 full j),[],nx full j) := by unfold fdA; rw [if_neg k12,if_neg k3,if_neg k4,if_pos k56]
   rw [ef]
   refine ⟨h2,nilS,fun β kc kr => ?_,b2,(Vec.nil 2 h2).slice,rd1.but x2 hrt hOt,join x1 x2⟩
   rcases k56 with k5 | k6
   · have d5 := deq (k := k) (c := 5) (by omega)
     simp only [paaD,pahW,paaF,pahX,zQ,qZ,qQ,cond_true,cond_false,paaI,qW,qX,d1,d2,d3,d4,d5,paaN,paiQ,paaR,paaX,paiW,pabB,pabF,pajQ,pabN,papS,e1,e2]
   · have d5 := dne (k := k) (c := 5) (by omega)
     have d6 := deq (k := k) (c := 6) (by omega)
     simp only [paaD,pahW,paaF,pahX,zQ,qZ,qQ,cond_true,cond_false,paaI,qW,qX,d1,d2,d3,d4,d5,d6,paaN,paiQ,paaR,paaX,paiW,pabB,pabF,pajQ,pabN,papS,e1,e2]
 have d5 := dne (k := k) (c := 5) (by omega)
 have d6 := dne (k := k) (c := 6) (by omega)
 by_cases k7 : k = 7
 · have d7 := deq (k := k) (c := 7) (by omega)
   have r4 : A.bin prog .rem 3 (.int .i64 (a : Int)) (.int .i64 4) = _ := remI (a := a) (c := 4) (by omega)
   have q4 : A.bin prog .quo 3 (.int .i64 (a : Int)) (.int .i64 4) = _ := quoI (a := a) (c := 4) (by omega) (by omega)
   have r4' : A.bin prog .rem 3 (.int .i64 ((a / 4 : Nat) : Int)) (.int .i64 4) = _ := remI (a := a / 4) (c := 4) (by omega)
   have hm1 : a % 4 < 4 := Nat.mod_lt _ (by omega)
   have hm2 : a / 4 % 4 < 4 := Nat.mod_lt _ (by omega)
   have ef : fdA full k a j = (mkI (4 + a % 4) (1 + a / 4 % 4),[],j) := by unfold fdA; rw [if_neg k12,if_neg k3,if_neg k4,if_neg k56,if_pos k7]
   rw [ef]
   obtain ⟨y,hy⟩ : ∃ y,y = a % 4 := ⟨_,rfl⟩
   obtain ⟨z,hz⟩ : ∃ z,z = a / 4 % 4 := ⟨_,rfl⟩
   rw [← hy] at r4 hm1 ⊢
   rw [← hz] at r4' hm2 ⊢
   have w1 : IntKind.i64.wrap ((4 : Int) + (y : Int)) = ((4 + y : Nat) : Int) := by rw [wrap64 (by omega) (by omega)]; omega
   have w2 : IntKind.i64.wrap ((1 : Int) + (z : Int)) = ((1 + z : Nat) : Int) := by rw [wrap64 (by omega) (by omega)]; omega
   have c1 := conv35 (n := 4 + y) (by omega)
   have c2 := conv372 (n := 1 + z) (by omega)
   have bd : A.build AnA.Z39L [(0,1,.int .u8 ((4 + y : Nat) : Int)),(4,1,.int .u16 ((1 + z : Nat) : Int))] = some (.agg ⟨(mkI (4 + y) (1 + z)).cells nilS⟩) := by kernel_rfl
   obtain ⟨h2,e2,b2,x2,n2⟩ := store24 rfl g lt (mkI (4 + y) (1 + z)) nilS
   refine ⟨h2,nilS,fun β kc kr => ?_,b2,(Vec.nil 2 h2).slice,rd.but x2 hrt hOt,⟨x2.next,fun i hi hs => x2.get i hi (fun e => hs (.inr e))⟩⟩
   simp only [paaD,pahW,paaF,pahX,zQ,qZ,qQ,cond_true,cond_false,paaI,qW,qX,d1,d2,d3,d4,d5,d6,d7,paaN,paiQ,paaR,paaX,paiW,pabB,pabF,pajQ,pabN,pabY,palJ,pacJ,pasV,r4,q4,r4',bin_add,w1,w2,c1,c2,bd,e2]
 have d7 := dne (k := k) (c := 7) (by omega)
 have d8 := deq (k := k) (c := 8) (by omega)
 have r2 : A.bin prog .rem 3 (.int .i64 (a : Int)) (.int .i64 2) = _ := remI (a := a) (c := 2) (by omega)
 have ef : fdA full k a j = (mkI (if a % 2 = 1 then 14 else 12) 0,[],j) := by unfold fdA; rw [if_neg k12,if_neg k3,if_neg k4,if_neg k56,if_neg k7]
 rw [ef]
 have bd : A.build AnA.Z39L [(0,1,.int .u8 12)] = some (.agg ⟨(mkI 12 0).cells nilS⟩) := by kernel_rfl
 obtain ⟨h2,e2,b2,x2,n2⟩ := store24 rfl g lt (mkI 12 0) nilS
 by_cases ha2 : a % 2 = 1
 · have da : decide (((a % 2 : Nat) : Int) = 1) = true := decide_eq_true (by omega)
   obtain ⟨h3,e3,b3,x3,n3⟩ := b2.set (i := 0) (v := .int .u8 14) (p' := mkI 14 0) (by omega) rfl rfl
   rw [if_pos ha2]
   refine ⟨h3,nilS,fun β kc kr => ?_,b3,(Vec.nil 2 h3).slice,(rd.but x2 hrt hOt).but x3 hrt hOt,⟨Nat.le_trans x2.next x3.next,fun i hi hs => by rw [x3.get i (by omega) (fun e => hs (.inr e)),x2.get i hi (fun e => hs (.inr e))]⟩⟩
   simp only [paaD,pahW,paaF,pahX,zQ,qZ,qQ,cond_true,cond_false,paaI,qW,qX,d1,d2,d3,d4,d5,d6,d7,d8,paaN,paiQ,paaR,paaX,paiW,pabB,pabF,pajQ,pabN,pabY,palJ,pacJ,pacV,panF,padM,papR,bd,e2,r2,da,qY,Nat.zero_add,e3]
 · have da : decide (((a % 2 : Nat) : Int) = 1) = false := decide_eq_false (by omega)
   rw [if_neg ha2]
   refine ⟨h2,nilS,fun β kc kr => ?_,b2,(Vec.nil 2 h2).slice,rd.but x2 hrt hOt,⟨x2.next,fun i hi hs => x2.get i hi (fun e => hs (.inr e))⟩⟩
   simp only [paaD,pahW,paaF,pahX,zQ,qZ,qQ,cond_true,cond_false,paaI,qW,qX,d1,d2,d3,d4,d5,d6,d7,d8,paaN,paiQ,paaR,paaX,paiW,pabB,pabF,pajQ,pabN,pabY,palJ,pacJ,pacV,panF,padM,papR,bd,e2,r2,da]
theorem lp18 (K L : Nat) {β : Type} (kx : Value → Value → Value → H → Option β) {ra O R n : Nat} {full : List UInt8} {x5 x4 : Value} (hR : R ≠ ra) (hRO : O ≠ R) (hn : n ≤ 100) :
 ∀ (d m : Nat) (h : H) (es : List UInt8) (cs : List Value) (j : Nat),es.length + d = n → d < m → Rd h ra O full j → h.get R = some (.cells cs (some 1)) → R < h.next → cs.length = n → cs.take es.length = es.map u8 →
  ∃ h' cs',pajR (callO prog 4 Q (K + 1)) L kx m (.int .i64 (n : Int)) (.int .i64 (es.length : Int)) (ptrV ra) (.slice (some ⟨R,0,none⟩) n (2 * n + 1)) x5 x4 h = kx (.slice (some ⟨R,0,none⟩) n (2 * n + 1)) x5 x4 h' ∧
   h'.get R = some (.cells cs' (some 1)) ∧ cs' = (es ++ rawN full d j).map u8 ∧ Rd h' ra O full (nxN full d j) ∧ ExtBut (fun i => i = ra ∨ i = R) h h' := by
 intro d
 induction d with
 | zero =>
  intro m h es cs j hi hm rd g lt hl ht
  obtain ⟨m,rfl⟩ : ∃ r,m = r + 1 := ⟨m - 1,by omega⟩
  have hd : decide ((es.length : Int) < (n : Int)) = false := by rw [decide_eq_false_iff_not]; omega
  refine ⟨h,cs,?_,g,?_,rd,⟨Nat.le_refl _,fun _ _ _ => rfl⟩⟩
  · simp only [pajR,papQ,zZ,hd,qZ,qW,cond_false]
  · rw [show rawN full 0 j = [] from rfl,List.append_nil,← ht,List.take_of_length_le (by omega)]
 | succ d ih =>
  intro m h es cs j hi hm rd g lt hl ht
  obtain ⟨m,rfl⟩ : ∃ r,m = r + 1 := ⟨m - 1,by omega⟩
  have hd : decide ((es.length : Int) < (n : Int)) = true := by rw [decide_eq_true_iff]; omega
  obtain ⟨h1,e1,rd1,x1,n1⟩ := T10 kn.fr K rd
  have hb8 := at8_lt full j
  have cv := conv35 hb8
  have ix := idxS_eq 1 R 0 n (2 * n + 1) es.length .i64 (by omega)
  rw [Nat.zero_add,Nat.mul_one] at ix
  have g1 : h1.get R = some (.cells cs (some 1)) := by rw [x1.get R lt hR]; exact g
  obtain ⟨h2,hh2⟩ : ∃ h2,h2 = h1.put R (.cells (cs.set es.length (u8 (UInt8.ofNat (at8 full j)))) (some 1)) := ⟨_,rfl⟩
  have eu : Value.int .u8 (at8 full j : Int) = u8 (UInt8.ofNat (at8 full j)) := by
   show _ = Value.int .u8 ((UInt8.ofNat (at8 full j)).toNat : Int)
   rw [← ofNat_int hb8]
  have e2 : A.store 1 (.pointer (some ⟨R,es.length,none⟩)) (.int .u8 (at8 full j : Int)) h1 = some h2 := by
   rw [eu,qU,g1]
   have q1 : Nat.ble (es.length + 1) cs.length = true := ble_iff.2 (by omega)
   have q0 : Nat.beq [u8 (UInt8.ofNat (at8 full j))].length 1 = true := rfl
   show (bif (Nat.beq [u8 (UInt8.ofNat (at8 full j))].length 1 && Nat.ble (es.length + 1) cs.length) then _ else none) = _
   simp only [q0,q1,Bool.and_self,cond_true,splice_one (by omega : es.length < cs.length)]
   rw [hh2]
  have x2 : ExtBut (fun i => i = R) h1 h2 := by rw [hh2]; exact ExtBut.put ⟨Nat.le_refl _,fun _ _ _ => rfl⟩ _ _ rfl
  have wi : IntKind.i64.wrap ((es.length : Int) + 1) = ((es.length + 1 : Nat) : Int) := wrap_succ (by omega)
  have hle : (es ++ [UInt8.ofNat (at8 full j)]).length = es.length + 1 := by simp
  obtain ⟨h',cs',f1,f2,f3,f4,f5⟩ := ih m h2 (es ++ [UInt8.ofNat (at8 full j)]) (cs.set es.length (u8 (UInt8.ofNat (at8 full j)))) (nx full j) (by omega) (by omega) (rd1.but x2 (fun e => hR e.symm) hRO) (by rw [hh2,H.get_put,if_pos rfl]) (by rw [hh2]; show R < h1.next; omega) (by rw [List.length_set]; exact hl) (by
   rw [hle,List.map_append,← ht,List.take_add_one,List.take_set_of_le (Nat.le_refl _),List.getElem?_set_self (by omega)]; rfl)
  rw [hle] at f1
  refine ⟨h',cs',?_,f2,?_,f4,⟨Nat.le_trans x1.next (Nat.le_trans x2.next f5.next),fun i hi hs => ?_⟩⟩
  · simp only [pajR,papQ,zZ,hd,qZ,qW,cond_true,e1,qX,cv,ix,e2,bin_add,wi,f1]
  · rw [f3,List.append_assoc]; rfl
  · have := x1.next
    have := x2.next
    rw [f5.get i (by omega) hs,x2.get i (by omega) (fun e => hs (.inr e)),x1.get i hi (fun e => hs (.inl e))]
theorem T18 (K : Nat) {k j ra O : Nat} {full : List UInt8} (hk : 0 < k) (hk9 : k ≤ 9) (rd : Rd h ra O full j) (hO : O < h.next) :
 ∃ h',callO prog 4 Q (K + 2021) 29 [ptrV ra,.int .i64 (k : Int)] h = some (.agg ⟨(⟨2,at8 full j % 6,0,0,0,0,(feedA full k (at8 full (nx full j)) (nx full (nx full j))).1⟩ : Ent).cells⟩,h') ∧ Rd h' ra O full (feedA full k (at8 full (nx full j)) (nx full (nx full j))).2 ∧ ExtBut (fun i => i = ra) h h' := by
 rw [F29eq Q (K + 2020) _ _ h (kn.fr 29 _ (by decide))]
 have hra := rd.ha
 obtain ⟨h1,hh1⟩ : ∃ h1,h1 = h.push (.cells AnA.Z33L (some 0)) := ⟨_,rfl⟩
 have e1 : A.box 7 AnA.Z33 h = some (ptrV h.next,h1) := by rw [hh1]; rfl
 have x1 : Ext h h1 := by rw [hh1]; exact Ext.push h _
 have n1 : h1.next = h.next + 1 := by rw [hh1]; rfl
 have g1 : h1.get h.next = some (.cells AnA.Z33L (some 0)) := by rw [hh1,H.get_push,if_pos rfl]
 obtain ⟨h2,e2,rd2,x2,n2⟩ := T10 kn.fr (h := h1) (K + 2019) (rd.ext x1)
 have e2 : callO prog 4 Q (K + 2020) 12 [ptrV ra] h1 = _ := e2
 have hc8 := at8_lt full j
 have ha8 := at8_lt full (nx full j)
 obtain ⟨c,hc⟩ : ∃ c,c = at8 full j := ⟨_,rfl⟩
 obtain ⟨a,hha⟩ : ∃ a,a = at8 full (nx full j) := ⟨_,rfl⟩
 rw [← hc] at e2 hc8 ⊢
 rw [← hha] at ha8 ⊢
 obtain ⟨j2,hj2⟩ : ∃ j2,j2 = nx full (nx full j) := ⟨_,rfl⟩
 rw [← hj2]
 have r6 : A.bin prog .rem 3 (.int .i64 (c : Int)) (.int .i64 6) = _ := remI (a := c) (c := 6) (by omega)
 obtain ⟨E,hE⟩ : ∃ E : Ent,E = ⟨2,c % 6,0,0,0,0,[]⟩ := ⟨_,rfl⟩
 have bd : A.build AnA.Z33L [(0,1,.int .u8 2),(1,1,.int .i64 ((c % 6 : Nat) : Int))] = some (.agg ⟨E.cells⟩) := by rw [hE]; kernel_rfl
 obtain ⟨h3,hh3⟩ : ∃ h3,h3 = h2.push (.cells AnA.Z33L (some 0)) := ⟨_,rfl⟩
 have e3 : A.box 7 AnA.Z33 h2 = some (ptrV h2.next,h3) := by rw [hh3]; rfl
 have x3 : Ext h2 h3 := by rw [hh3]; exact Ext.push h2 _
 have n3 : h3.next = h2.next + 1 := by rw [hh3]; rfl
 obtain ⟨h4,e4,g4,x4,n4⟩ := store7 (h := h3) (t := h2.next) (zs := AnA.Z33L) rfl (by rw [hh3,H.get_push,if_pos rfl]) E
 obtain ⟨h5,e5,rd5,x5,n5⟩ := T10 kn.fr (h := h4) (K + 2019) ((rd2.ext x3).but x4 (by omega) (by omega))
 have e5 : callO prog 4 Q (K + 2020) 12 [ptrV ra] h4 = _ := e5
 rw [← hha] at e5
 rw [← hj2] at rd5
 obtain ⟨h6,hh6⟩ : ∃ h6,h6 = h5.push (.cells AnA.Z39L (some 0)) := ⟨_,rfl⟩
 have e6 : A.box 24 AnA.Z39 h5 = some (ptrV h5.next,h6) := by rw [hh6]; rfl
 have x6 : Ext h5 h6 := by rw [hh6]; exact Ext.push h5 _
 have n6 : h6.next = h5.next + 1 := by rw [hh6]; rfl
 have gr : h6.get h.next = some (.cells AnA.Z33L (some 0)) := by
  rw [x6.get _ (by omega),x5.get _ (by omega) (by omega),x4.get _ (by omega) (by omega),x3.get _ (by omega),x2.get _ (by omega) (by omega)]; exact g1
 have gE : h6.get h2.next = some (.cells E.cells (some 0)) := by
  rw [x6.get _ (by omega),x5.get _ (by omega) (by omega)]; exact g4
 have gp : h6.get h5.next = some (.cells AnA.Z39L (some 0)) := by rw [hh6,H.get_push,if_pos rfl]
 have x06 : ExtBut (fun i => i = ra) h h6 := ⟨by omega,fun i hi hs => by
  rw [x6.get _ (by omega),x5.get _ (by omega) hs,x4.get _ (by omega) (by omega),x3.get _ (by omega),x2.get _ (by omega) hs,x1.get _ hi]⟩
 have rd6 := rd5.ext x6
 by_cases k9 : k = 9
 · have ef : feedA full k a j2 = (rawN full (a % 16) j2,nxN full (a % 16) j2) := by unfold feedA; rw [if_pos k9]
   rw [ef]
   have r16 : A.bin prog .rem 3 (.int .i64 (a : Int)) (.int .i64 16) = _ := remI (a := a) (c := 16) (by omega)
   have hm : a % 16 < 16 := Nat.mod_lt _ (by omega)
   obtain ⟨n,hn⟩ : ∃ n,n = a % 16 := ⟨_,rfl⟩
   rw [← hn] at r16 hm ⊢
   have hzl : ∀ n,(A.zeros AnA.Z5L n).length = n := fun n => by
    induction n with
    | zero => rfl
    | succ n ih => simp only [A.zeros,List.length_append] at ih ⊢; rw [ih]; show 1 + n = n + 1; omega
   obtain ⟨h7,hh7⟩ : ∃ h7,h7 = h6.push (.cells (A.zeros AnA.Z5L n) (some 1)) := ⟨_,rfl⟩
   have e7 : A.makeSlice 1 1 AnA.Z5L (.int .i64 (n : Int)) (.int .i64 (n : Int)) h6 = some (.slice (some ⟨h6.next,0,none⟩) n (2 * n + 1),h7) := by
    have q1 : Nat.ble (1 * n) (2 ^ 47) = true := ble_iff.2 (by omega)
    have q2 : Nat.ble n (2 ^ 47) = true := ble_iff.2 (by omega)
    show (bif Nat.ble n n && Nat.ble (1 * n) (2 ^ 47) && Nat.ble n (2 ^ 47) then some (Value.slice (some ⟨h6.next,0,none⟩) n (2 * n + 1),h6.push (.cells (A.zeros AnA.Z5L n) (some 1))) else none) = _
    rw [q1,q2,← hh7,show Nat.ble n n = true from ble_iff.2 (Nat.le_refl _)]; rfl
   have x7 : Ext h6 h7 := by rw [hh7]; exact Ext.push h6 _
   have n7 : h7.next = h6.next + 1 := by rw [hh7]; rfl
   have hl7 : A.lenS (.slice (some ⟨h6.next,0,none⟩) n (2 * n + 1)) = some (.int .i64 (n : Int)) := rfl
   have d1 := dne (k := k) (c := 1) (by omega)
   have d2 := dne (k := k) (c := 2) (by omega)
   have d3 := dne (k := k) (c := 3) (by omega)
   have d4 := dne (k := k) (c := 4) (by omega)
   have d5 := dne (k := k) (c := 5) (by omega)
   have d6 := dne (k := k) (c := 6) (by omega)
   have d7 := dne (k := k) (c := 7) (by omega)
   have d8 := dne (k := k) (c := 8) (by omega)
   have loop := fun (kx : Value → Value → Value → H → Option (Value × H)) => lp18 kn (K + 2019) (K + 2020) kx (ra := ra) (O := O) (R := h6.next) (n := n) (full := full) (x5 := ptrV h2.next) (x4 := ptrV h.next) (by omega) (by omega) (by omega) n (K + 2020) h7 [] (A.zeros AnA.Z5L n) j2 (by simp) (by omega) (rd6.ext x7) (by rw [hh7,H.get_push,if_pos rfl]) (by omega) (hzl n) rfl
   obtain ⟨h8,cs',f1,f2,f3,f4,f5⟩ := loop (fun x8 x5 x4 hx => panG (callO prog 4 Q (K + 2020)) (K + 2020) x8 x5 x4 hx (fun x4 h => bnd (resC (A.load true 7 x4 h) (some [])) fun vs => some (packA vs,h)))
   have f1 : pajR (callO prog 4 Q (K + 2020)) (K + 2020) (fun x8 x5 x4 hx => panG (callO prog 4 Q (K + 2020)) (K + 2020) x8 x5 x4 hx (fun x4 h => bnd (resC (A.load true 7 x4 h) (some [])) fun vs => some (packA vs,h))) (K + 2020) (.int .i64 (n : Int)) (.int .i64 0) (ptrV ra) (.slice (some ⟨h6.next,0,none⟩) n (2 * n + 1)) (ptrV h2.next) (ptrV h.next) h7 = _ := f1
   have hf5 := f5.next
   obtain ⟨h9,h10,s1,s2,s3,s4,xs⟩ := fin18 (h := h8) (r := h.next) (t := h2.next) (zs := AnA.Z33L) rfl (e := E) (by rw [f5.get _ (by omega) (by omega),x7.get _ (by omega)]; exact gE) (by rw [f5.get _ (by omega) (by omega),x7.get _ (by omega)]; exact gr) (by omega) (by omega) (rawN full n j2)
   have hcl : cs'.length = n := by rw [f3]; simp [rawN_len]
   have eb : A.b2s (.slice (some ⟨h6.next,0,none⟩) n (2 * n + 1)) h8 = some (str (rawN full n j2)) := by
    have hel : A.elems 1 (.slice (some ⟨h6.next,0,none⟩) n (2 * n + 1)) h8 = some ((rawN full n j2).map u8) := by
     simp only [A.elems]
     by_cases h0 : n = 0
     · subst h0; rfl
     · rw [show Nat.beq n 0 = false by rw [T.beq_dec,decide_eq_false_iff_not]; exact h0]
       simp only [cond_false,f2]
       rw [show Nat.ble (0 + n * 1) cs'.length = true from ble_iff.2 (by omega)]
       simp only [cond_true,List.drop_zero,Nat.mul_one]
       rw [List.take_of_length_le (by omega),f3]; rfl
    simp only [A.b2s,hel,toBytes_u8]; rfl
   have hE' : ({ E with text := rawN full n j2 } : Ent) = ⟨2,c % 6,0,0,0,0,rawN full n j2⟩ := by rw [hE]
   rw [hE'] at s2 s3 s4
   refine ⟨h10,?_,f4.but xs (by omega) (by omega),⟨by have := xs.next; omega,fun i hi hs => by rw [xs.get i (by omega) (by omega),f5.get i (by omega) (by omega),x7.get i (by omega),x06.get i hi hs]⟩⟩
   simp only [F29,p29a,papM,e1,qX,papN,e2,r6,qZ,bd,e3,e4,papO,e5,papP,e6,paaD,pahW,paaF,pahX,zQ,qZ,qQ,cond_true,cond_false,paaI,qW,qX,d1,d2,d3,d4,d5,d6,d7,d8,paaN,paiQ,paaR,paaX,paiW,pabB,pabF,pajQ,pabN,pabY,palJ,pacJ,pacV,panF,padM,paeE,pasT,pafN,pasU,pagZ,r16,e7,hl7]
   refine f1.trans ?_
   simp only [panG,eb,qZ,qY,Nat.zero_add,s1,s2,s3,s4,resC,packA]
 · obtain ⟨h7,w,e7,b7,s7,rd7,x7⟩ := disp18 kn (h := h6) (K + 2015) (k := k) (a := a) (j := j2) (ra := ra) (O := O) (t := h5.next) (full := full) (x5 := ptrV h2.next) (x4 := ptrV h.next) hk (by omega) ha8 rd6 (by omega) gp (by omega) (by omega) (by omega)
   have e7 : ∀ (β : Type) (kc : Value → Value → Value → H → Option β) (kr : Value → H → Option β),paaD (callO prog 4 Q (K + 2020)) (K + 2020) (.int .i64 (k : Int)) (ptrV h5.next) (.int .i64 (a : Int)) (ptrV ra) (ptrV h2.next) (ptrV h.next) h6 kc kr = kc (ptrV h5.next) (ptrV h2.next) (ptrV h.next) h7 := e7
   obtain ⟨h8,e8,x8⟩ := T38 kn (h := h7) (K + 9) (fdA_ok full k a j2) s7
   have e8 : callO prog 4 Q (K + 2020) 51 [.agg ⟨(fdA full k a j2).1.cells w⟩] h7 = _ := e8
   have hx7 := x7.next
   have hx8 := x8.next
   have ef : feedA full k a j2 = (encB (fdA full k a j2).1 (fdA full k a j2).2.1,(fdA full k a j2).2.2) := by unfold feedA; rw [if_neg k9]
   rw [ef]
   obtain ⟨tx,htx⟩ : ∃ tx,tx = encB (fdA full k a j2).1 (fdA full k a j2).2.1 := ⟨_,rfl⟩
   rw [← htx] at e8 ⊢
   obtain ⟨h9,h10,s1,s2,s3,s4,xs⟩ := fin18 (h := h8) (r := h.next) (t := h2.next) (zs := AnA.Z33L) rfl (e := E) (by rw [x8.get _ (by omega),x7.get _ (by omega) (by omega)]; exact gE) (by rw [x8.get _ (by omega),x7.get _ (by omega) (by omega)]; exact gr) (by omega) (by omega) tx
   have hE' : ({ E with text := tx } : Ent) = ⟨2,c % 6,0,0,0,0,tx⟩ := by rw [hE]
   rw [hE'] at s2 s3 s4
   have t0 : A.extract 0 (.tuple ⟨[str tx,.int .i64 0]⟩) = some (str tx) := rfl
   have t1 : A.extract 1 (.tuple ⟨[str tx,.int .i64 0]⟩) = some (.int .i64 0) := rfl
   refine ⟨h10,?_,(rd7.ext x8).but xs (by omega) (by omega),⟨by have := xs.next; omega,fun i hi hs => by rw [xs.get i (by omega) (by omega),x8.get i (by omega),x7.get i (by omega) (by omega),x06.get i hi hs]⟩⟩
   simp only [F29,p29a,papM,e1,qX,papN,e2,r6,qZ,bd,e3,e4,papO,e5,papP,e6,e7,pasY,b7.all,e8,t0,t1,qY,Nat.zero_add,s1,s2,s3,s4,resC,packA]
end
end Go.Proofs.YtfodhidpefednaaGreatDoor.An

namespace Go.Proofs.YtfodhidpefednaaGreatDoor.An
open Tryz (prog)
open Go Go.AM AnA AnB
def entA (full : List UInt8) (j : Nat) : Ent × Nat :=
 if at8 full j % 16 = 0 then (⟨1,0,0,0,0,0,[]⟩,nx full j)
 else if at8 full j % 16 = 10 then (if at8 full (nx full j) % 2 = 1 then (⟨4,0,at8 full (nx full j) / 2 % 4,0,0,0,[]⟩,nx full (nx full j)) else (⟨3,at8 full (nx full (nx full j)) % 6,0,0,0,0,[]⟩,nx full (nx full (nx full j))))
 else if at8 full j % 16 = 11 then (⟨5,at8 full (nx full j) % 6,0,0,0,0,[]⟩,nx full (nx full j))
 else if at8 full j % 16 = 12 ∨ at8 full j % 16 = 13 then (⟨6,0,0,at8 full (nx full j) % 5,at8 full (nx full (nx full j)) % 8,at8 full (nx full (nx full (nx full j))) % 7,[]⟩,nx full (nx full (nx full (nx full j))))
 else if at8 full j % 16 = 14 ∨ at8 full j % 16 = 15 then (⟨7,0,0,0,0,0,[]⟩,nx full j)
 else (⟨2,at8 full (nx full j) % 6,0,0,0,0,(feedA full (at8 full j % 16) (at8 full (nx full (nx full j))) (nx full (nx full (nx full j)))).1⟩,(feedA full (at8 full j % 16) (at8 full (nx full (nx full j))) (nx full (nx full (nx full j)))).2)
def rowA (full : List UInt8) : Nat → Nat → List Ent
 | 0,_ => []
 | d + 1,j => if j < full.length then (entA full j).1 :: rowA full d (entA full j).2 else []
def cfgA (full : List UInt8) : List Value := [.int .i64 ((1 + at8 full 0 % 4 : Nat) : Int),.int .i64 ((1 + at8 full (nxN full 1 0) % 2 : Nat) : Int),.int .i64 ((16 + at8 full (nxN full 2 0) : Nat) : Int),.int .i64 ((1 + at8 full (nxN full 3 0) % 5 : Nat) : Int),.int .i64 ((1 + at8 full (nxN full 4 0) % 3 : Nat) : Int)]
section
variable {Q : Orc} (kn : Kn Q) {h : H}
include kn
theorem T11 (K : Nat) {j ra O : Nat} {full : List UInt8} (rd : Rd h ra O full j) (hO : O < h.next) :
 ∃ h',callO prog 4 Q (K + 2022) 13 [ptrV ra] h = some (.agg ⟨(entA full j).1.cells⟩,h') ∧ Rd h' ra O full (entA full j).2 ∧ ExtBut (fun i => i = ra) h h' := by
 rw [F13eq Q (K + 2021) _ h (kn.fr 13 _ (by decide))]
 have hra := rd.ha
 obtain ⟨h1,hh1⟩ : ∃ h1,h1 = h.push (.cells AnA.Z33L (some 0)) := ⟨_,rfl⟩
 have e1 : A.box 7 AnA.Z33 h = some (ptrV h.next,h1) := by rw [hh1]; rfl
 have x1 : Ext h h1 := by rw [hh1]; exact Ext.push h _
 have n1 : h1.next = h.next + 1 := by rw [hh1]; rfl
 have g1 : h1.get h.next = some (.cells AnA.Z33L (some 0)) := by rw [hh1,H.get_push,if_pos rfl]
 have next : ∀ {hx : H} {j : Nat},Rd hx ra O full j → ∃ h',callO prog 4 Q (K + 2021) 12 [ptrV ra] hx = some (.int .i64 (at8 full j : Int),h') ∧ Rd h' ra O full (nx full j) ∧ ExtBut (fun i => i = ra) hx h' ∧ h'.next = hx.next := fun {hx j} r => T10 kn.fr (K + 2020) r
 obtain ⟨h2,e2,rd2,x2,n2⟩ := next (rd.ext x1)
 have hc8 := at8_lt full j
 obtain ⟨c,hc⟩ : ∃ c,c = at8 full j := ⟨_,rfl⟩
 unfold entA
 rw [← hc] at e2 hc8 ⊢
 have r16 : A.bin prog .rem 3 (.int .i64 (c : Int)) (.int .i64 16) = _ := remI (a := c) (c := 16) (by omega)
 have hk16 : c % 16 < 16 := Nat.mod_lt _ (by omega)
 obtain ⟨k,hk⟩ : ∃ k,k = c % 16 := ⟨_,rfl⟩
 rw [← hk] at r16 hk16 ⊢
 obtain ⟨j1,hj1⟩ : ∃ j1,j1 = nx full j := ⟨_,rfl⟩
 rw [← hj1] at rd2 ⊢
 have gr : h2.get h.next = some (.cells AnA.Z33L (some 0)) := by rw [x2.get _ (by omega) (by omega)]; exact g1
 have x02 : ExtBut (fun i => i = ra) h h2 := x1.but.trans x2
 have fin : ∀ {hx : H} {jx : Nat} (e : Ent),Rd hx ra O full jx → ExtBut (fun i => i = ra) h hx → hx.get h.next = some (.cells AnA.Z33L (some 0)) → h.next < hx.next →
  ∃ hy,A.store 7 (ptrV h.next) (.agg ⟨e.cells⟩) hx = some hy ∧ A.load true 7 (ptrV h.next) hy = some (.agg ⟨e.cells⟩) ∧ Rd hy ra O full jx ∧ ExtBut (fun i => i = ra) h hy := by
  intro hx jx e rdx xx gx lx
  obtain ⟨hy,ey,gy,yy,ny⟩ := store7 rfl gx e
  exact ⟨hy,ey,load7 gy,rdx.but yy (by omega) (by omega),⟨by omega,fun i hi hs => by rw [yy.get i (by omega) (by omega),xx.get i hi hs]⟩⟩
 have step : ∀ {hx hy : H},ExtBut (fun i => i = ra) h hx → hx.get h.next = some (.cells AnA.Z33L (some 0)) → h.next < hx.next → ExtBut (fun i => i = ra) hx hy → hy.next = hx.next → ExtBut (fun i => i = ra) h hy ∧ hy.get h.next = some (.cells AnA.Z33L (some 0)) ∧ h.next < hy.next := by
  intro hx hy xx gx lx yy ny
  exact ⟨xx.trans yy,by rw [yy.get _ lx (by omega)]; exact gx,by omega⟩
 have l2 : h.next < h2.next := by omega
 by_cases k0 : k = 0
 · have d0 := deq (k := k) (c := 0) (by omega)
   rw [if_pos k0]
   have bd : A.build AnA.Z33L [(0,1,.int .u8 1)] = some (.agg ⟨(⟨1,0,0,0,0,0,[]⟩ : Ent).cells⟩) := by kernel_rfl
   obtain ⟨hy,f1,f2,f3,f4⟩ := fin ⟨1,0,0,0,0,0,[]⟩ rd2 x02 gr l2
   refine ⟨hy,?_,f3,f4⟩
   simp only [F13,p13a,paiE,e1,qX,paiF,e2,r16,qZ,paaW,paiG,pabA,paiH,zQ,d0,qQ,pabI,qW,cond_true,parN,bd,f1,f2,resC,packA]
 have d0 := dne (k := k) (c := 0) (by omega)
 rw [if_neg k0]
 by_cases k10 : k = 10
 · have d10 := deq (k := k) (c := 10) (by omega)
   rw [if_pos k10]
   obtain ⟨h3,e3,rd3,x3,n3⟩ := next rd2
   obtain ⟨x03,g3,l3⟩ := step x02 gr l2 x3 n3
   have ha8 := at8_lt full j1
   obtain ⟨a,ha⟩ : ∃ a,a = at8 full j1 := ⟨_,rfl⟩
   rw [← ha] at e3 ha8 ⊢
   have r2 : A.bin prog .rem 3 (.int .i64 (a : Int)) (.int .i64 2) = _ := remI (a := a) (c := 2) (by omega)
   by_cases ha2 : a % 2 = 1
   · have da : decide (((a % 2 : Nat) : Int) = 1) = true := decide_eq_true (by omega)
     rw [if_pos ha2]
     have q2 : A.bin prog .quo 3 (.int .i64 (a : Int)) (.int .i64 2) = _ := quoI (a := a) (c := 2) (by omega) (by omega)
     have r4 : A.bin prog .rem 3 (.int .i64 ((a / 2 : Nat) : Int)) (.int .i64 4) = _ := remI (a := a / 2) (c := 4) (by omega)
     have bd : A.build AnA.Z33L [(0,1,.int .u8 4),(2,1,.int .i64 ((a / 2 % 4 : Nat) : Int))] = some (.agg ⟨(⟨4,0,a / 2 % 4,0,0,0,[]⟩ : Ent).cells⟩) := by kernel_rfl
     obtain ⟨hy,f1,f2,f3,f4⟩ := fin ⟨4,0,a / 2 % 4,0,0,0,[]⟩ rd3 x03 g3 l3
     refine ⟨hy,?_,f3,f4⟩
     simp only [F13,p13a,paiE,e1,qX,paiF,e2,r16,qZ,paaW,paiG,pabA,paiH,zQ,d0,qQ,pabI,qW,cond_true,cond_false,pabT,paiN,d10,pacH,paoO,e3,r2,da,q2,r4,bd,f1,f2,resC,packA]
   · have da : decide (((a % 2 : Nat) : Int) = 1) = false := decide_eq_false (by omega)
     rw [if_neg ha2]
     obtain ⟨h4,e4,rd4,x4,n4⟩ := next rd3
     obtain ⟨x04,g4,l4⟩ := step x03 g3 l3 x4 n4
     obtain ⟨b,hb⟩ : ∃ b,b = at8 full (nx full j1) := ⟨_,rfl⟩
     rw [← hb] at e4 ⊢
     have r6 : A.bin prog .rem 3 (.int .i64 (b : Int)) (.int .i64 6) = _ := remI (a := b) (c := 6) (by omega)
     have bd : A.build AnA.Z33L [(0,1,.int .u8 3),(1,1,.int .i64 ((b % 6 : Nat) : Int))] = some (.agg ⟨(⟨3,b % 6,0,0,0,0,[]⟩ : Ent).cells⟩) := by kernel_rfl
     obtain ⟨hy,f1,f2,f3,f4⟩ := fin ⟨3,b % 6,0,0,0,0,[]⟩ rd4 x04 g4 l4
     refine ⟨hy,?_,f3,f4⟩
     simp only [F13,p13a,paiE,e1,qX,paiF,e2,r16,qZ,paaW,paiG,pabA,paiH,zQ,d0,qQ,pabI,qW,cond_true,cond_false,pabT,paiN,d10,pacH,paoO,e3,r2,da,e4,r6,bd,f1,f2,resC,packA]
 have d10 := dne (k := k) (c := 10) (by omega)
 rw [if_neg k10]
 by_cases k11 : k = 11
 · have d11 := deq (k := k) (c := 11) (by omega)
   rw [if_pos k11]
   obtain ⟨h3,e3,rd3,x3,n3⟩ := next rd2
   obtain ⟨x03,g3,l3⟩ := step x02 gr l2 x3 n3
   obtain ⟨b,hb⟩ : ∃ b,b = at8 full j1 := ⟨_,rfl⟩
   rw [← hb] at e3 ⊢
   have r6 : A.bin prog .rem 3 (.int .i64 (b : Int)) (.int .i64 6) = _ := remI (a := b) (c := 6) (by omega)
   have bd : A.build AnA.Z33L [(0,1,.int .u8 5),(1,1,.int .i64 ((b % 6 : Nat) : Int))] = some (.agg ⟨(⟨5,b % 6,0,0,0,0,[]⟩ : Ent).cells⟩) := by kernel_rfl
   obtain ⟨hy,f1,f2,f3,f4⟩ := fin ⟨5,b % 6,0,0,0,0,[]⟩ rd3 x03 g3 l3
   refine ⟨hy,?_,f3,f4⟩
   simp only [F13,p13a,paiE,e1,qX,paiF,e2,r16,qZ,paaW,paiG,pabA,paiH,zQ,d0,qQ,pabI,qW,cond_true,cond_false,pabT,paiN,d10,pacH,padA,pajM,d11,padW,parM,e3,r6,bd,f1,f2,resC,packA]
 have d11 := dne (k := k) (c := 11) (by omega)
 rw [if_neg k11]
 by_cases k12 : k = 12 ∨ k = 13
 · rw [if_pos k12]
   have bd : A.build AnA.Z33L [(0,1,.int .u8 6)] = some (.agg ⟨(⟨6,0,0,0,0,0,[]⟩ : Ent).cells⟩) := by kernel_rfl
   obtain ⟨h3,hh3⟩ : ∃ h3,h3 = h2.push (.cells AnA.Z33L (some 0)) := ⟨_,rfl⟩
   have e3 : A.box 7 AnA.Z33 h2 = some (ptrV h2.next,h3) := by rw [hh3]; rfl
   have x3 : Ext h2 h3 := by rw [hh3]; exact Ext.push h2 _
   have n3 : h3.next = h2.next + 1 := by rw [hh3]; rfl
   obtain ⟨h4,e4,g4,x4,n4⟩ := store7 (h := h3) (t := h2.next) (zs := AnA.Z33L) rfl (by rw [hh3,H.get_push,if_pos rfl]) ⟨6,0,0,0,0,0,[]⟩
   obtain ⟨h5,e5,rd5,x5,n5⟩ := next ((rd2.ext x3).but x4 (by omega) (by omega))
   obtain ⟨a,ha⟩ : ∃ a,a = at8 full j1 := ⟨_,rfl⟩
   rw [← ha] at e5 ⊢
   have r5 : A.bin prog .rem 3 (.int .i64 (a : Int)) (.int .i64 5) = _ := remI (a := a) (c := 5) (by omega)
   obtain ⟨h6,e6,g6,x6,n6⟩ := set7 (h := h5) (t := h2.next) (e := ⟨6,0,0,0,0,0,[]⟩) (e' := ⟨6,0,0,a % 5,0,0,[]⟩) (by rw [x5.get _ (by omega) (by omega)]; exact g4) (i := 3) (v := .int .i64 ((a % 5 : Nat) : Int)) (by omega) rfl rfl
   obtain ⟨h7,e7,rd7,x7,n7⟩ := next (rd5.but x6 (by omega) (by omega))
   obtain ⟨b,hb⟩ : ∃ b,b = at8 full (nx full j1) := ⟨_,rfl⟩
   rw [← hb] at e7 ⊢
   have r8 : A.bin prog .rem 3 (.int .i64 (b : Int)) (.int .i64 8) = _ := remI (a := b) (c := 8) (by omega)
   obtain ⟨h8,e8,g8,x8,n8⟩ := set7 (h := h7) (t := h2.next) (e := ⟨6,0,0,a % 5,0,0,[]⟩) (e' := ⟨6,0,0,a % 5,b % 8,0,[]⟩) (by rw [x7.get _ (by omega) (by omega)]; exact g6) (i := 4) (v := .int .i64 ((b % 8 : Nat) : Int)) (by omega) rfl rfl
   obtain ⟨h9,e9,rd9,x9,n9⟩ := next (rd7.but x8 (by omega) (by omega))
   obtain ⟨d,hd⟩ : ∃ d,d = at8 full (nx full (nx full j1)) := ⟨_,rfl⟩
   rw [← hd] at e9 ⊢
   have r7 : A.bin prog .rem 3 (.int .i64 (d : Int)) (.int .i64 7) = _ := remI (a := d) (c := 7) (by omega)
   obtain ⟨h10,e10,g10,x10,n10⟩ := set7 (h := h9) (t := h2.next) (e := ⟨6,0,0,a % 5,b % 8,0,[]⟩) (e' := ⟨6,0,0,a % 5,b % 8,d % 7,[]⟩) (by rw [x9.get _ (by omega) (by omega)]; exact g8) (i := 5) (v := .int .i64 ((d % 7 : Nat) : Int)) (by omega) rfl rfl
   have e11 := load7 g10
   have gt : ∀ i,i < h2.next → i ≠ ra → h10.get i = h2.get i := fun i hi hs => by
    rw [x10.get i (by omega) (by omega),x9.get i (by omega) hs,x8.get i (by omega) (by omega),x7.get i (by omega) hs,x6.get i (by omega) (by omega),x5.get i (by omega) hs,x4.get i (by omega) (by omega),x3.get i (by omega)]
   have x010 : ExtBut (fun i => i = ra) h h10 := ⟨by omega,fun i hi hs => by rw [gt i (by omega) hs,x02.get i hi hs]⟩
   obtain ⟨hy,f1,f2,f3,f4⟩ := fin ⟨6,0,0,a % 5,b % 8,d % 7,[]⟩ (rd9.but x10 (by omega) (by omega)) x010 (by rw [gt _ (by omega) (by omega)]; exact gr) (by omega)
   refine ⟨hy,?_,f3,f4⟩
   rcases k12 with k12 | k13
   · have d12 := deq (k := k) (c := 12) (by omega)
     simp only [F13,p13a,paiE,e1,qX,paiF,e2,r16,qZ,paaW,paiG,pabA,paiH,zQ,d0,qQ,pabI,qW,cond_true,cond_false,pabT,paiN,d10,pacH,padA,pajM,d11,padW,paeR,pajY,d12,pagX,paoN,bd,e3,e4,e5,r5,qY,Nat.zero_add,Nat.add_zero,e6,e7,r8,e8,e9,r7,e10,e11,f1,f2,resC,packA,Nat.reduceAdd]
   · have d12 := dne (k := k) (c := 12) (by omega)
     have d13 := deq (k := k) (c := 13) (by omega)
     simp only [F13,p13a,paiE,e1,qX,paiF,e2,r16,qZ,paaW,paiG,pabA,paiH,zQ,d0,qQ,pabI,qW,cond_true,cond_false,pabT,paiN,d10,pacH,padA,pajM,d11,padW,paeR,pajY,d12,d13,pagX,paoN,bd,e3,e4,e5,r5,qY,Nat.zero_add,Nat.add_zero,e6,e7,r8,e8,e9,r7,e10,e11,f1,f2,resC,packA,Nat.reduceAdd]
 have d12 := dne (k := k) (c := 12) (by omega)
 have d13 := dne (k := k) (c := 13) (by omega)
 rw [if_neg k12]
 by_cases k14 : k = 14 ∨ k = 15
 · rw [if_pos k14]
   have bd : A.build AnA.Z33L [(0,1,.int .u8 7)] = some (.agg ⟨(⟨7,0,0,0,0,0,[]⟩ : Ent).cells⟩) := by kernel_rfl
   obtain ⟨hy,f1,f2,f3,f4⟩ := fin ⟨7,0,0,0,0,0,[]⟩ rd2 x02 gr l2
   refine ⟨hy,?_,f3,f4⟩
   rcases k14 with k14 | k15
   · have d14 := deq (k := k) (c := 14) (by omega)
     simp only [F13,p13a,paiE,e1,qX,paiF,e2,r16,qZ,paaW,paiG,pabA,paiH,zQ,d0,qQ,pabI,qW,cond_true,cond_false,pabT,paiN,d10,pacH,padA,pajM,d11,padW,paeR,pajY,d12,d13,pagX,pamZ,d14,bd,f1,f2,resC,packA]
   · have d14 := dne (k := k) (c := 14) (by omega)
     have d15 := deq (k := k) (c := 15) (by omega)
     simp only [F13,p13a,paiE,e1,qX,paiF,e2,r16,qZ,paaW,paiG,pabA,paiH,zQ,d0,qQ,pabI,qW,cond_true,cond_false,pabT,paiN,d10,pacH,padA,pajM,d11,padW,paeR,pajY,d12,d13,pagX,pamZ,d14,d15,bd,f1,f2,resC,packA]
 rw [if_neg k14]
 have d14 := dne (k := k) (c := 14) (by omega)
 have d15 := dne (k := k) (c := 15) (by omega)
 obtain ⟨h3,e3,rd3,x3⟩ := T18 kn (h := h2) K (k := k) (by omega) (by omega) rd2 (by omega)
 obtain ⟨E,hE⟩ : ∃ E : Ent,E = ⟨2,at8 full j1 % 6,0,0,0,0,(feedA full k (at8 full (nx full j1)) (nx full (nx full j1))).1⟩ := ⟨_,rfl⟩
 rw [← hE] at e3 ⊢
 have hx3 := x3.next
 obtain ⟨hy,f1,f2,f3,f4⟩ := fin E rd3 (x02.trans x3) (by rw [x3.get _ l2 (by omega)]; exact gr) (by omega)
 refine ⟨hy,?_,f3,f4⟩
 simp only [F13,p13a,paiE,e1,qX,paiF,e2,r16,qZ,paaW,paiG,pabA,paiH,zQ,d0,qQ,pabI,qW,cond_false,pabT,paiN,d10,pacH,padA,pajM,d11,padW,paeR,pajY,d12,d13,pagX,pamZ,d14,d15,parO,e3,f1,f2,resC,packA]
end
end Go.Proofs.YtfodhidpefednaaGreatDoor.An

namespace Go.Proofs.YtfodhidpefednaaGreatDoor.An
open Tryz (prog)
open Go Go.AM AnA AnB
theorem Rd.len {h : H} {a O : Nat} {full : List UInt8} {k : Nat} (r : Rd h a O full k) : ∃ v,A.load false 1 (.pointer (some ⟨a,0,none⟩)) h = some v ∧ A.lenS v = some (.int .i64 ((full.length - k : Nat) : Int)) := by
 obtain ⟨v,hv,hc⟩ := r.get
 refine ⟨v,by rw [qK,hv]; rfl,?_⟩
 have := r.le
 rcases hc with ⟨⟨p,c,rfl⟩,rfl⟩ | ⟨cap,cs,own,rfl,_⟩
 · have : ([] : List UInt8).length - k = 0 := by simp
   rw [this]; rfl
 · rfl
section
variable {Q : Orc} (kn : Kn Q)
include kn
theorem lp5 (K L : Nat) {β : Type} (kx : Value → Value → Value → H → Option β) {ra O : Nat} {full : List UInt8} {x5 x2 : Value} :
 ∀ (d m : Nat) (h : H) (w : Value) (es : List Ent) (j : Nat),es.length + d = 1000 → d < m → Vec 7 h w (es.map Ent.cells) → (∀ i,sid w = some i → i ≠ ra ∧ i ≠ O) → Rd h ra O full j → O < h.next →
  ∃ h' w',pajC (callO prog 4 Q (K + 2022)) L kx m (ptrV ra) x5 w x2 h = kx x5 w' x2 h' ∧ Vec 7 h' w' ((es ++ rowA full d j).map Ent.cells) ∧ (∀ i,sid w' = some i → sid w = some i ∨ h.next ≤ i) ∧ ExtBut (fun i => i = ra ∨ sid w = some i) h h' := by
 intro d
 induction d with
 | zero =>
  intro m h w es j hi hm v sw rd hO
  obtain ⟨m,rfl⟩ : ∃ r,m = r + 1 := ⟨m - 1,by omega⟩
  obtain ⟨y,ly,hy⟩ := rd.len
  have hl : A.lenS w = some (.int .i64 (es.length : Int)) := by have := v.slice.len.1; rwa [List.length_map] at this
  have hd : decide ((es.length : Int) < 1000) = false := by rw [decide_eq_false_iff_not]; omega
  refine ⟨h,w,?_,by rw [show rowA full 0 j = [] from rfl,List.append_nil]; exact v,fun i hi => .inl hi,⟨Nat.le_refl _,fun _ _ _ => rfl⟩⟩
  cases hb : decide ((0 : Int) < ((full.length - j : Nat) : Int)) with
  | true => simp only [pajC,pamF,qV,qZ,qY,Nat.zero_add,ly,hy,zY,hb,qQ,cond_true,hl,zZ,hd,cond_false]
  | false => simp only [pajC,pamF,qV,qZ,qY,Nat.zero_add,ly,hy,zY,hb,qQ,cond_false]
 | succ d ih =>
  intro m h w es j hi hm v sw rd hO
  obtain ⟨m,rfl⟩ : ∃ r,m = r + 1 := ⟨m - 1,by omega⟩
  obtain ⟨y,ly,hy⟩ := rd.len
  have hl : A.lenS w = some (.int .i64 (es.length : Int)) := by have := v.slice.len.1; rwa [List.length_map] at this
  have hd : decide ((es.length : Int) < 1000) = true := by rw [decide_eq_true_iff]; omega
  by_cases hj : j < full.length
  · have hb : decide ((0 : Int) < ((full.length - j : Nat) : Int)) = true := by rw [decide_eq_true_iff]; omega
    obtain ⟨h1,e1,rd1,x1⟩ := T11 kn K rd hO
    obtain ⟨E,hE⟩ : ∃ E,E = (entA full j).1 := ⟨_,rfl⟩
    rw [← hE] at e1
    have hx1 := x1.next
    obtain ⟨h2,hh2⟩ : ∃ h2,h2 = h1.push (.cells E.cells (some 7)) := ⟨_,rfl⟩
    have e2 : A.buildSlice 7 1 AnA.Z33L [(0,7,.agg ⟨E.cells⟩)] h1 = some (.slice (some ⟨h1.next,0,none⟩) 1 3,h2) := by
     rw [hh2]; exact buildSlice_one h1 rfl rfl rfl
    have x2' : Ext h1 h2 := by rw [hh2]; exact Ext.push h1 _
    have n2 : h2.next = h1.next + 1 := by rw [hh2]; rfl
    have s2 : SliceE 7 h2 (.slice (some ⟨h1.next,0,none⟩) 1 3) [E.cells] := by rw [hh2]; exact slice_one rfl
    have v1 : Vec 7 h1 w (es.map Ent.cells) := v.extBut x1 (fun i hi e => (sw i hi).1 e)
    obtain ⟨h3,e3,v3,n3,x3⟩ := append_vec (bs := 64) (v1.ext x2') s2 (by simp) (by omega) (by rw [List.length_map]; simp; omega) (by rw [List.length_map]; simp; omega)
    obtain ⟨w3,hw3⟩ : ∃ w3,w3 = Value.slice (some ⟨h2.next,0,none⟩) ((es.map Ent.cells).length + [E.cells].length) (2 * ((es.map Ent.cells).length + [E.cells].length)) := ⟨_,rfl⟩
    rw [← hw3] at e3 v3
    have hs3 : sid w3 = some h2.next := by rw [hw3]; rfl
    have hra := rd.ha
    have rd3 : Rd h3 ra O full (entA full j).2 := (rd1.ext x2').but x3 (fun e => (sw ra e).1 rfl) (fun e => (sw O e).2 rfl)
    have hl' : (es ++ [E]).length = es.length + 1 := by simp
    obtain ⟨h',w',f1,f2,f3,f4⟩ := ih m h3 w3 (es ++ [E]) (entA full j).2 (by omega) (by omega) (by rw [List.map_append]; exact v3) (fun i hi => by rw [hs3] at hi; simp only [Option.some.injEq] at hi; omega) rd3 (by omega)
    refine ⟨h',w',?_,?_,fun i hi => ?_,⟨by have := f4.next; omega,fun i hi hs => ?_⟩⟩
    · simp only [pajC,pamF,qV,qZ,qY,Nat.zero_add,ly,hy,zY,hb,qQ,cond_true,hl,zZ,hd,e1,qX,e2,e3,f1]
    · have : es ++ rowA full (d + 1) j = (es ++ [E]) ++ rowA full d (entA full j).2 := by
       rw [List.append_assoc,hE]
       show es ++ (if j < full.length then _ else _) = _
       rw [if_pos hj]; rfl
      rw [this]; exact f2
    · rcases f3 i hi with hi | hi
      · rw [hs3] at hi; simp only [Option.some.injEq] at hi; exact .inr (by omega)
      · exact .inr (by omega)
    · rw [f4.get i (by omega) (fun e => by rcases e with e | e; exact hs (.inl e); rw [hs3] at e; simp only [Option.some.injEq] at e; omega),x3.get i (by omega) (fun e => hs (.inr e)),x2'.get i (by omega),x1.get i hi (fun e => hs (.inl e))]
  · have hb : decide ((0 : Int) < ((full.length - j : Nat) : Int)) = false := by rw [decide_eq_false_iff_not]; omega
    have er : rowA full (d + 1) j = [] := by show (if j < full.length then _ else _) = _; rw [if_neg hj]
    refine ⟨h,w,?_,by rw [er,List.append_nil]; exact v,fun i hi => .inl hi,⟨Nat.le_refl _,fun _ _ _ => rfl⟩⟩
    simp only [pajC,pamF,qV,qZ,qY,Nat.zero_add,ly,hy,zY,hb,qQ,cond_false]
theorem set5 {h : H} {t : Nat} {cs : List Value} (g : h.get t = some (.cells cs (some 0))) (hl : cs.length = 5) {i : Nat} {v : Value} (hi : i < 5) (hv : cellsL v = some [v]) :
 ∃ h',A.store 1 (.pointer (some ⟨t,i,none⟩)) v h = some h' ∧ h'.get t = some (.cells (cs.set i v) (some 0)) ∧ ExtBut (fun j => j = t) h h' ∧ h'.next = h.next := by
 have _ := kn
 obtain ⟨h',hh⟩ : ∃ h',h' = h.put t (.cells (cs.set i v) (some 0)) := ⟨_,rfl⟩
 refine ⟨h',?_,by rw [hh,H.get_put,if_pos rfl],by rw [hh]; exact ExtBut.put ⟨Nat.le_refl _,fun _ _ _ => rfl⟩ t _ rfl,by rw [hh]; rfl⟩
 have e1 : Nat.ble (i + 1) cs.length = true := ble_iff.2 (by omega)
 have e0 : Nat.beq [v].length 1 = true := rfl
 rw [qU,g,hv]
 simp only [e0,e1,Bool.and_self,cond_true,splice_one (by omega : i < cs.length)]
 rw [hh]
theorem T5 (K : Nat) {h : H} {O : Nat} {full : List UInt8} {v : Value} (hO : O ≤ h.next) (hv : ((∃ p c,v = .slice p 0 c) ∧ full = []) ∨ (∃ cap cs own,v = .slice (some ⟨O,0,none⟩) full.length (2 * cap + 1) ∧ full.length ≤ cap ∧ O < h.next ∧ h.get O = some (.cells cs own) ∧ cs.take full.length = full.map u8)) :
 ∃ h' w,callO prog 4 Q (K + 2023) 5 [v] h = some (.tuple ⟨[.agg ⟨cfgA full⟩,w]⟩,h') ∧ SliceE 7 h' w ((rowA full 1000 (nxN full 5 0)).map Ent.cells) ∧ Ext h h' := by
 rw [F5eq Q (K + 2022) _ h (kn.fr 5 _ (by decide))]
 obtain ⟨h1,hh1⟩ : ∃ h1,h1 = h.push (.cells AnA.Z25L (some 0)) := ⟨_,rfl⟩
 have e1 : A.box 5 AnA.Z25 h = some (ptrV h.next,h1) := by rw [hh1]; rfl
 have x1 : Ext h h1 := by rw [hh1]; exact Ext.push h _
 have n1 : h1.next = h.next + 1 := by rw [hh1]; rfl
 have hcv : cellsL v = some [v] := by rcases hv with ⟨⟨p,c,rfl⟩,_⟩ | ⟨cap,cs,own,rfl,_,_⟩ <;> rfl
 have b49 : A.build AnA.Z55L [(0,1,v)] = some (.agg ⟨[v]⟩) := by
  rcases hv with ⟨⟨p,c,rfl⟩,_⟩ | ⟨cap,cs,own,rfl,_,_⟩ <;> rfl
 obtain ⟨h2,hh2⟩ : ∃ h2,h2 = h1.push (.cells [v] (some 0)) := ⟨_,rfl⟩
 have e2 : A.box 1 (.agg ⟨[v]⟩) h1 = some (ptrV h1.next,h2) := by rw [box_eq,hh2]; rfl
 have x2 : Ext h1 h2 := by rw [hh2]; exact Ext.push h1 _
 have n2 : h2.next = h1.next + 1 := by rw [hh2]; rfl
 have rd0 : Rd h2 h1.next O full 0 := by
  refine ⟨Nat.zero_le _,by omega,v,by rw [hh2,H.get_push,if_pos rfl],?_⟩
  rcases hv with hv | ⟨cap,cs,own,hv,hcap,hOl,hg,ht⟩
  · exact .inl hv
  · exact .inr ⟨cap,cs,own,by rw [hv]; rfl,hcap,by omega,by omega,by rw [x2.get O (by omega),x1.get O hOl]; exact hg,ht⟩
 obtain ⟨ra,hra⟩ : ∃ ra,ra = h1.next := ⟨_,rfl⟩
 rw [← hra] at e2 rd0
 have next : ∀ {hx : H} {j : Nat},Rd hx ra O full j → ∃ h',callO prog 4 Q (K + 2022) 12 [ptrV ra] hx = some (.int .i64 (at8 full j : Int),h') ∧ Rd h' ra O full (nx full j) ∧ ExtBut (fun i => i = ra) hx h' ∧ h'.next = hx.next := fun {hx j} r => T10 kn.fr (K + 2021) r
 obtain ⟨h3,e3,rd3,x3,n3⟩ := next rd0
 obtain ⟨c0,hc0⟩ : ∃ c,c = at8 full 0 := ⟨_,rfl⟩
 have l0 : c0 < 256 := by rw [hc0]; exact at8_lt _ _
 rw [← hc0] at e3
 have rem : ∀ {c n : Nat},0 < n → A.bin prog .rem 3 (.int .i64 (c : Int)) (.int .i64 (n : Int)) = some (.int .i64 ((c % n : Nat) : Int)) := fun {c n} hn => remI hn
 have r0 : A.bin prog .rem 3 (.int .i64 (c0 : Int)) (.int .i64 4) = _ := rem (c := c0) (n := 4) (by omega)
 have wr : ∀ {c : Nat},c < 1000 → IntKind.i64.wrap ((1 : Int) + (c : Int)) = ((1 + c : Nat) : Int) := fun {c} hc => by rw [wrap64 (by omega) (by omega)]; omega
 have m0 : c0 % 4 < 4 := Nat.mod_lt _ (by omega)
 have w0 := wr (c := c0 % 4) (by omega)
 obtain ⟨b0,hb0⟩ : ∃ b0,b0 = 1 + c0 % 4 := ⟨_,rfl⟩
 rw [← hb0] at w0
 have bd : A.build AnA.Z25L [(0,1,.int .i64 (b0 : Int))] = some (.agg ⟨[.int .i64 (b0 : Int),.int .i64 0,.int .i64 0,.int .i64 0,.int .i64 0]⟩) := by kernel_rfl
 obtain ⟨h4,hh4⟩ : ∃ h4,h4 = h3.push (.cells AnA.Z25L (some 0)) := ⟨_,rfl⟩
 have e4 : A.box 5 AnA.Z25 h3 = some (ptrV h3.next,h4) := by rw [hh4]; rfl
 have n4 : h4.next = h3.next + 1 := by rw [hh4]; rfl
 have x4 : Ext h3 h4 := by rw [hh4]; exact Ext.push h3 _
 obtain ⟨h5,hh5⟩ : ∃ h5,h5 = h4.put h3.next (.cells [.int .i64 (b0 : Int),.int .i64 0,.int .i64 0,.int .i64 0,.int .i64 0] (some 0)) := ⟨_,rfl⟩
 have e5 : A.store 5 (ptrV h3.next) (.agg ⟨[.int .i64 (b0 : Int),.int .i64 0,.int .i64 0,.int .i64 0,.int .i64 0]⟩) h4 = some h5 := by
  rw [qU,hh4,H.get_push,if_pos rfl,← hh4,hh5]; rfl
 have n5 : h5.next = h4.next := by rw [hh5]; rfl
 have g5 : h5.get h3.next = some (.cells [.int .i64 (b0 : Int),.int .i64 0,.int .i64 0,.int .i64 0,.int .i64 0] (some 0)) := by rw [hh5,H.get_put,if_pos rfl]
 have x5 : Ext h3 h5 := by rw [hh5]; exact x4.put _ _ (Nat.le_refl _)
 obtain ⟨t,ht⟩ : ∃ t,t = h3.next := ⟨_,rfl⟩
 rw [← ht] at e4 e5 g5
 have field : ∀ {hx : H} {j : Nat} {cs : List Value} (i : Nat),i < 5 → cs.length = 5 → Rd hx ra O full j → hx.get t = some (.cells cs (some 0)) → t < hx.next → O < hx.next →
  ∃ ha,callO prog 4 Q (K + 2022) 12 [ptrV ra] hx = some (.int .i64 (at8 full j : Int),ha) ∧ ∀ n : Nat,∃ hb,A.store 1 (.pointer (some ⟨t,i,none⟩)) (.int .i64 (n : Int)) ha = some hb ∧ Rd hb ra O full (nx full j) ∧ hb.get t = some (.cells (cs.set i (.int .i64 (n : Int))) (some 0)) ∧ ExtBut (fun i => i = ra ∨ i = t) hx hb ∧ hb.next = hx.next := by
  intro hx j cs i hi hcs rdx gx lx ox
  obtain ⟨ha,ea,rda,xa,na⟩ := next rdx
  refine ⟨ha,ea,fun n => ?_⟩
  obtain ⟨hb,eb,gb,xb,nb⟩ := set5 kn (h := ha) (t := t) (by rw [xa.get t lx (by omega)]; exact gx) hcs hi (v := .int .i64 (n : Int)) rfl
  exact ⟨hb,eb,rda.but xb (by omega) (by omega),gb,⟨by omega,fun i hi hs => by rw [xb.get i (by omega) (fun e => hs (.inr e)),xa.get i hi (fun e => hs (.inl e))]⟩,by omega⟩
 obtain ⟨a1,f1,F1⟩ := field 1 (by omega) rfl (rd3.ext x5) g5 (by omega) (by omega)
 obtain ⟨c1,hc1⟩ : ∃ c,c = at8 full (nx full 0) := ⟨_,rfl⟩
 have l1 : c1 < 256 := by rw [hc1]; exact at8_lt _ _
 rw [← hc1] at f1
 have r1 : A.bin prog .rem 3 (.int .i64 (c1 : Int)) (.int .i64 2) = _ := rem (c := c1) (n := 2) (by omega)
 have m1 : c1 % 2 < 2 := Nat.mod_lt _ (by omega)
 have w1 := wr (c := c1 % 2) (by omega)
 obtain ⟨h6,e6,rd6,g6,x6,n6⟩ := F1 (1 + c1 % 2)
 obtain ⟨a2,f2,F2⟩ := field 2 (by omega) rfl rd6 g6 (by omega) (by omega)
 obtain ⟨c2,hc2⟩ : ∃ c,c = at8 full (nx full (nx full 0)) := ⟨_,rfl⟩
 have l2 : c2 < 256 := by rw [hc2]; exact at8_lt _ _
 rw [← hc2] at f2
 have w2 : IntKind.i64.wrap ((16 : Int) + (c2 : Int)) = ((16 + c2 : Nat) : Int) := by rw [wrap64 (by omega) (by omega)]; omega
 obtain ⟨h7,e7,rd7,g7,x7,n7⟩ := F2 (16 + c2)
 obtain ⟨a3,f3,F3⟩ := field 3 (by omega) rfl rd7 g7 (by omega) (by omega)
 obtain ⟨c3,hc3⟩ : ∃ c,c = at8 full (nx full (nx full (nx full 0))) := ⟨_,rfl⟩
 have l3 : c3 < 256 := by rw [hc3]; exact at8_lt _ _
 rw [← hc3] at f3
 have r3 : A.bin prog .rem 3 (.int .i64 (c3 : Int)) (.int .i64 5) = _ := rem (c := c3) (n := 5) (by omega)
 have m3 : c3 % 5 < 5 := Nat.mod_lt _ (by omega)
 have w3 := wr (c := c3 % 5) (by omega)
 obtain ⟨h8,e8,rd8,g8,x8,n8⟩ := F3 (1 + c3 % 5)
 obtain ⟨a4,f4,F4⟩ := field 4 (by omega) rfl rd8 g8 (by omega) (by omega)
 obtain ⟨c4,hc4⟩ : ∃ c,c = at8 full (nx full (nx full (nx full (nx full 0)))) := ⟨_,rfl⟩
 have l4 : c4 < 256 := by rw [hc4]; exact at8_lt _ _
 rw [← hc4] at f4
 have r4 : A.bin prog .rem 3 (.int .i64 (c4 : Int)) (.int .i64 3) = _ := rem (c := c4) (n := 3) (by omega)
 have m4 : c4 % 3 < 3 := Nat.mod_lt _ (by omega)
 have w4 := wr (c := c4 % 3) (by omega)
 obtain ⟨h9,e9,rd9,g9,x9,n9⟩ := F4 (1 + c4 % 3)
 have x39 : ∀ i,i < h.next + 1 → h9.get i = h2.get i := fun i hi => by
  rw [x9.get i (by omega) (by omega),x8.get i (by omega) (by omega),x7.get i (by omega) (by omega),x6.get i (by omega) (by omega),x5.get i (by omega),x3.get i (by omega) (by omega)]
 have loop := fun (kx : Value → Value → Value → H → Option (Value × H)) => lp5 kn K (K + 2022) kx (ra := ra) (O := O) (full := full) (x5 := ptrV t) (x2 := ptrV h.next) 1000 (K + 2022) h9 nilS [] (nx full (nx full (nx full (nx full (nx full 0))))) (by simp) (by omega) (Vec.nil 7 h9) (fun i hi => by simp [sid] at hi) rd9 (by omega)
 obtain ⟨ha,w,q1,q2,q3,q4⟩ := loop (fun x5 x6 x2 hx => paqN (callO prog 4 Q (K + 2022)) (K + 2022) x5 x6 x2 hx (fun x2 x3 h => bnd (resC (A.load true 5 x2 h) (resC (some x3) (some []))) fun vs => some (packA vs,h)))
 have hqa := q4.next
 have hcfg : (((([Value.int .i64 (b0 : Int),.int .i64 0,.int .i64 0,.int .i64 0,.int .i64 0].set 1 (.int .i64 ((1 + c1 % 2 : Nat) : Int))).set 2 (.int .i64 ((16 + c2 : Nat) : Int))).set 3 (.int .i64 ((1 + c3 % 5 : Nat) : Int))).set 4 (.int .i64 ((1 + c4 % 3 : Nat) : Int))) = cfgA full := by
  rw [hb0,hc0,hc1,hc2,hc3,hc4]; rfl
 rw [hcfg] at g9
 have ga : ha.get t = some (.cells (cfgA full) (some 0)) := by
  rw [q4.get t (by omega) (fun e => by rcases e with e | e; omega; simp [sid] at e)]; exact g9
 have gr : ha.get h.next = some (.cells AnA.Z25L (some 0)) := by
  rw [q4.get _ (by omega) (fun e => by rcases e with e | e; omega; simp [sid] at e),x39 _ (by omega),x2.get _ (by omega),hh1,H.get_push,if_pos rfl]
 have lc : A.load true 5 (ptrV t) ha = some (.agg ⟨cfgA full⟩) := by rw [loadN_eq,ga]; rfl
 obtain ⟨hb,hhb⟩ : ∃ hb,hb = ha.put h.next (.cells (cfgA full) (some 0)) := ⟨_,rfl⟩
 have sc : A.store 5 (ptrV h.next) (.agg ⟨cfgA full⟩) ha = some hb := by rw [qU,gr,hhb]; rfl
 have lb : A.load true 5 (ptrV h.next) hb = some (.agg ⟨cfgA full⟩) := by rw [loadN_eq,hhb,H.get_put,if_pos rfl]; rfl
 have xb : ExtBut (fun i => i = h.next) ha hb := by rw [hhb]; exact ExtBut.put ⟨Nat.le_refl _,fun _ _ _ => rfl⟩ _ _ rfl
 refine ⟨hb,w,?_,?_,⟨by have := xb.next; omega,fun i hi => ?_⟩⟩
 · simp only [F5,p5a,pafM,e1,qX,pafZ,b49,qZ,e2,paeH,e3,r0,bin_add,w0,bd,e4,e5,pacM,f1,r1,w1,qY,Nat.zero_add,Nat.add_zero,e6,pabU,f2,w2,e7,pahS,f3,r3,w3,e8,pauA,f4,r4,w4,e9,pauB,pagM]
   refine q1.trans ?_
   simp only [paqN,lc,qZ,sc,lb,resC,packA]
 · have : ([] : List Ent) ++ rowA full 1000 (nx full (nx full (nx full (nx full (nx full 0))))) = rowA full 1000 (nxN full 5 0) := rfl
   rw [this] at q2
   refine (q2.extBut xb fun i hi e => ?_).slice
   rcases q3 i hi with hq | hq
   · simp [sid] at hq
   · omega
 · rw [xb.get i (by omega) (by omega),q4.get i (by omega) (fun e => by rcases e with e | e; omega; simp [sid] at e),x39 i (by omega),x2.get i (by omega),x1.get i hi]
end
end Go.Proofs.YtfodhidpefednaaGreatDoor.An
