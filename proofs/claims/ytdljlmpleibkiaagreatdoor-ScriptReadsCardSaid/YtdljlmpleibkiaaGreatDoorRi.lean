import Derived.Test.YtdljlmpleibkiaaGreatDoorRh
namespace Go.Proofs.YtdljlmpleibkiaaGreatDoor.Sc
open Tryz (prog)
open Go Go.AM ScA ScB ScC
theorem lits (h : H) (ws : List (List UInt8)) : SliceE 1 (h.push (.cells (ws.map str) (some 1))) (.slice (some ⟨h.next,0,none⟩) ws.length (2 * ws.length + 1)) (ws.map fun s => [str s]) := by
 have hf : ∀ l : List (List UInt8),(l.map fun s => [str s]).flatten = l.map str := by
  intro l
  induction l with
  | nil => rfl
  | cons a l ih => simp only [List.map_cons,List.flatten_cons,ih,List.singleton_append]
 refine ⟨?_,.inr ⟨h.next,0,2 * ws.length + 1,by rw [List.length_map],by rw [List.length_map]; omega,Nat.lt_succ_self _,fun _ => ⟨ws.map str,some 1,by rw [H.get_push,if_pos rfl],by rw [List.length_map,List.length_map]; omega,?_⟩⟩⟩
 · intro e he
   obtain ⟨s,_,rfl⟩ := List.mem_map.1 he
   rfl
 · rw [List.drop_zero,List.take_of_length_le (by rw [List.length_map,List.length_map]; omega),hf]
theorem letter : ∀ q : Nat,q < 16 → A.sliceStr (str [97,98,99,100,101,102,103,104,105,106,107,108,109,110,111,112]) (some (.int .i64 (q : Int))) (some (.int .i64 ((q + 1 : Nat) : Int))) = some (str [UInt8.ofNat (97 + q)]) := by
 intro q hq
 have all : ((List.range 16).all fun q => match A.sliceStr (str [97,98,99,100,101,102,103,104,105,106,107,108,109,110,111,112]) (some (.int .i64 (q : Int))) (some (.int .i64 ((q + 1 : Nat) : Int))) with | some v => AM.same v (str [UInt8.ofNat (97 + q)]) | none => false) = true := by kernel_rfl
 have := List.all_eq_true.1 all q (List.mem_range.2 hq)
 split at this
 · rename_i v hv
   rw [hv,same_eq _ _ this]
 · cases this
section
variable {Q : Orc} (kd : KnD Q)
include kd
theorem lp21 (k L : Nat) {kk kind id ra t r a : Nat} {x : Value} {full : List UInt8} (h0 : H) (hk : (kk = 3 ∧ kind = 8) ∨ (kk = 4 ∧ kind = 10)) (hra : ra < h0.next) (hX : ∀ i,sid x = some i → i < h0.next) (ht : h0.next ≤ t) (hr : h0.next ≤ r) (htr : t ≠ r) (ha : a < 256) :
 ∀ (d m : Nat) (h : H) (w : Value) (es : List Sb) (j : Nat),es.length + d = 1 + a / 4 % 2 → d < m → ExtBut (fun i => i = ra) h0 h → Bx h t (mkI kind id) w → Vec 2 h w (es.map sbC) → (∀ i,sid w = some i → h0.next ≤ i ∧ i ≠ t ∧ i ≠ r) → Rr h ra x full j →
  h.get r = some (.cells ScC.Z77L (some 0)) → r < h.next →
  ∃ h' w',(∀ (kx : Value → Value → H → Option (Value × H)),paoH (callO prog 0 Q (k + 1)) L kx m (.int .i64 (a : Int)) (.int .i64 (es.length : Int)) (.int .i64 (kk : Int)) (ptrV ra) (ptrV t) (ptrV r) h = kx (ptrV t) (ptrV r) h') ∧
   Bx h' t (mkI kind id) w' ∧ Vec 2 h' w' ((es ++ subsN full kind d j).map sbC) ∧ (∀ i,sid w' = some i → h0.next ≤ i ∧ i ≠ t ∧ i ≠ r) ∧ Rr h' ra x full (nxN full d j) ∧ h'.get r = some (.cells ScC.Z77L (some 0)) ∧ r < h'.next ∧ ExtBut (fun i => i = ra) h0 h' := by
 have q4 : A.bin prog .quo 3 (.int .i64 (a : Int)) (.int .i64 4) = _ := quoI (a := a) (c := 4) (by omega) (by omega)
 have r2 : A.bin prog .rem 3 (.int .i64 ((a / 4 : Nat) : Int)) (.int .i64 2) = _ := remI (a := a / 4) (c := 2) (by omega)
 have hm2 : a / 4 % 2 < 2 := Nat.mod_lt _ (by omega)
 intro d
 induction d with
 | zero =>
  intro m h w es j hi hm x0 b v sw rd gr lr
  obtain ⟨m,rfl⟩ : ∃ r,m = r + 1 := ⟨m - 1,by omega⟩
  have hd : decide ((es.length : Int) ≤ ((a / 4 % 2 : Nat) : Int)) = false := by rw [decide_eq_false_iff_not]; omega
  refine ⟨h,w,fun kx => ?_,b,by rw [show subsN full kind 0 j = [] from rfl,List.append_nil]; exact v,sw,rd,gr,lr,x0⟩
  simp only [paoH,paoG,q4,r2,bin_leq,hd,bnd_some,toBK_bool,cond_false]
 | succ d ih =>
  intro m h w es j hi hm x0 b v sw rd gr lr
  obtain ⟨m,rfl⟩ : ∃ r,m = r + 1 := ⟨m - 1,by omega⟩
  have hd : decide ((es.length : Int) ≤ ((a / 4 % 2 : Nat) : Int)) = true := by rw [decide_eq_true_iff]; omega
  obtain ⟨h1,e1,rd1,x1,n1⟩ := T12 kd.kn.fr k rd
  have hb8 := at8_lt full j
  obtain ⟨c,hc⟩ : ∃ c,c = at8 full j := ⟨_,rfl⟩
  rw [← hc] at e1 hb8
  have b1 := b.but x1 (by omega)
  have v1 := v.extBut x1 (fun i hi e => by have := sw i hi; omega)
  have gr1 : h1.get r = some (.cells ScC.Z77L (some 0)) := by rw [x1.get r lr (by omega)]; exact gr
  have x01 : ExtBut (fun i => i = ra) h0 h1 := x0.trans x1
  obtain ⟨hf,hhf⟩ : ∃ hf,hf = h1.push (.cells (filters.map str) (some 1)) := ⟨_,rfl⟩
  have ef : A.buildSlice 1 8 ScC.Z9L [(0,1,(.string ⟨⟨[97]⟩⟩)),(1,1,(.string ⟨⟨[97,47,43]⟩⟩)),(2,1,(.string ⟨⟨[35]⟩⟩)),(3,1,(.string ⟨⟨[43,47,98]⟩⟩)),(4,1,(.string ⟨⟨[97,47,35]⟩⟩)),(5,1,(.string ⟨⟨[98]⟩⟩)),(6,1,(.string ⟨⟨[36,115,47,35]⟩⟩)),(7,1,(.string ⟨⟨[43]⟩⟩))] h1 = some (.slice (some ⟨h1.next,0,none⟩) 8 17,hf) := by rw [hhf]; rfl
  have xf : Ext h1 hf := by rw [hhf]; exact Ext.push h1 _
  have nf : hf.next = h1.next + 1 := by rw [hhf]; rfl
  have sf : SliceE 1 hf (.slice (some ⟨h1.next,0,none⟩) 8 17) (filters.map fun s => [str s]) := by rw [hhf]; exact lits h1 filters
  have e44 := T44 kd.kn k (a := c) (ws := filters) (by decide) sf
  obtain ⟨f,hff⟩ : ∃ f,f = (filters[c % 8]?).getD [] := ⟨_,rfl⟩
  have e44 : callO prog 0 Q (k + 1) 44 [.int .i64 (c : Int),.slice (some ⟨h1.next,0,none⟩) 8 17] hf = some (str f,hf) := by rw [hff]; exact e44
  have bd : A.build ScC.Z110L [(0,1,str f)] = some (.agg ⟨sbC (f,0)⟩) := by kernel_rfl
  obtain ⟨h2,hh2⟩ : ∃ h2,h2 = hf.push (.cells ScC.Z110L (some 0)) := ⟨_,rfl⟩
  have e2 : A.box 2 ScC.Z110 hf = some (ptrV hf.next,h2) := by rw [hh2]; rfl
  have n2 : h2.next = hf.next + 1 := by rw [hh2]; rfl
  have x2 : Ext hf h2 := by rw [hh2]; exact Ext.push hf _
  obtain ⟨h3,hh3⟩ : ∃ h3,h3 = h2.put hf.next (.cells (sbC (f,0)) (some 0)) := ⟨_,rfl⟩
  have g2 : h2.get hf.next = some (.cells ScC.Z110L (some 0)) := by rw [hh2,H.get_push,if_pos rfl]
  have hcl : cellsL (.agg ⟨sbC (f,0)⟩) = some (sbC (f,0)) := rfl
  have e3 : A.store 2 (ptrV hf.next) (.agg ⟨sbC (f,0)⟩) h2 = some h3 := by rw [store_eq,g2,hcl,hh3]; rfl
  have x3 : Ext h1 h3 := by rw [hh3]; exact (xf.trans x2).put _ _ (by omega)
  have n3 : h3.next = hf.next + 1 := by rw [hh3]; exact n2
  have g3 : h3.get hf.next = some (.cells (sbC (f,0)) (some 0)) := by rw [hh3,H.get_put,if_pos rfl]
  have wi : IntKind.i64.wrap ((es.length : Int) + 1) = ((es.length + 1 : Nat) : Int) := wrap_succ (by omega)
  have next : ∀ (h4 : H) (s : Sb),Ext h1 h4 → h4.get hf.next = some (.cells (sbC s) (some 0)) → hf.next < h4.next → s = subN kind c → ∃ h5 h6 h7 w1 w2 h' w',A.load true 2 (ptrV hf.next) h4 = some (.agg ⟨sbC s⟩) ∧ A.load false 1 (.pointer (some ⟨t,22,none⟩)) h4 = some w ∧ A.buildSlice 2 1 ScC.Z110L [(0,2,.agg ⟨sbC s⟩)] h4 = some (w1,h5) ∧ A.append 2 24 w w1 h5 = some (w2,h6) ∧ A.store 1 (.pointer (some ⟨t,22,none⟩)) w2 h6 = some h7 ∧
   (∀ (kx : Value → Value → H → Option (Value × H)),paoH (callO prog 0 Q (k + 1)) L kx m (.int .i64 (a : Int)) (.int .i64 ((es.length + 1 : Nat) : Int)) (.int .i64 (kk : Int)) (ptrV ra) (ptrV t) (ptrV r) h7 = kx (ptrV t) (ptrV r) h') ∧
   Bx h' t (mkI kind id) w' ∧ Vec 2 h' w' ((es ++ subsN full kind (d + 1) j).map sbC) ∧ (∀ i,sid w' = some i → h0.next ≤ i ∧ i ≠ t ∧ i ≠ r) ∧ Rr h' ra x full (nxN full (d + 1) j) ∧ h'.get r = some (.cells ScC.Z77L (some 0)) ∧ r < h'.next ∧ ExtBut (fun i => i = ra) h0 h' := by
   intro h4 s x4 g4 l4 hs
   have hx01 := x01.next
   have hx4 := x4.next
   have ht1 := b1.2
   obtain ⟨h5,h6,h7,w1,w2,a1,a2,a3,a4,a5,b7,v7,s7,x7,n7⟩ := add36 (z := ScC.Z110L) rfl (b1.ext x4) (v1.ext x4) g4 (fun i hi => (sw i hi).2.1) (by omega)
   have x07 : ExtBut (fun i => i = ra) h0 h7 := by
    refine ⟨by omega,fun i hi hn => ?_⟩
    rw [x7.get i (by omega) (fun e => by rcases e with e | e; omega; have := sw i e; omega),x4.get i (by omega),x01.get i hi hn]
   have rd7 : Rr h7 ra x full (nx full j) := (rd1.ext x4).but x7 (fun e => by rcases e with e | e; omega; have := sw ra e; omega) (fun i hi e => by have := hX i hi; rcases e with e | e; omega; have := sw i e; omega)
   have gr7 : h7.get r = some (.cells ScC.Z77L (some 0)) := by
    rw [x7.get r (by omega) (fun e => by rcases e with e | e; omega; have := sw r e; omega),x4.get r (by omega)]; exact gr1
   have hl7 : (es ++ [s]).length = es.length + 1 := by simp
   obtain ⟨h',w',f1,f2,f3,f4,f5,f6,f7,f8⟩ := ih m h7 w2 (es ++ [s]) (nx full j) (by omega) (by omega) x07 b7 v7 (fun i hi => by rw [s7] at hi; simp only [Option.some.injEq] at hi; omega) rd7 gr7 (by omega)
   rw [hl7] at f1
   refine ⟨h5,h6,h7,w1,w2,h',w',a1,a2,a3,a4,a5,f1,f2,?_,f4,f5,f6,f7,f8⟩
   have : es ++ subsN full kind (d + 1) j = (es ++ [s]) ++ subsN full kind d (nx full j) := by
    rw [List.append_assoc,hs,hc]; rfl
   rw [this]; exact f3
  rcases hk with ⟨hk,h8⟩ | ⟨hk,h8⟩
  · have d3 : decide ((kk : Int) = 3) = true := by rw [decide_eq_true_iff]; omega
    have q8 : A.bin prog .quo 3 (.int .i64 (c : Int)) (.int .i64 8) = _ := quoI (a := c) (c := 8) (by omega) (by omega)
    have r3 : A.bin prog .rem 3 (.int .i64 ((c / 8 : Nat) : Int)) (.int .i64 3) = _ := remI (a := c / 8) (c := 3) (by omega)
    have hq3 : c / 8 % 3 < 3 := Nat.mod_lt _ (by omega)
    have cq := conv35 (n := c / 8 % 3) (by omega)
    obtain ⟨h4,hh4⟩ : ∃ h4,h4 = h3.put hf.next (.cells (sbC (f,c / 8 % 3)) (some 0)) := ⟨_,rfl⟩
    have e4 : A.store 1 (.pointer (some ⟨hf.next,1,none⟩)) (.int .u8 ((c / 8 % 3 : Nat) : Int)) h3 = some h4 := by rw [store_eq,g3,hh4]; rfl
    obtain ⟨h5,h6,h7,w1,w2,h',w',a1,a2,a3,a4,a5,f1,rest⟩ := next h4 (f,c / 8 % 3) (by rw [hh4]; exact x3.put _ _ (by omega)) (by rw [hh4,H.get_put,if_pos rfl]) (by rw [hh4]; show hf.next < h3.next; omega) (by unfold subN; rw [if_pos h8,← hff])
    refine ⟨h',w',fun kx => ?_,rest⟩
    simp only [paoH,paoG,q4,r2,bin_leq,hd,bnd_some,toBK_bool,cond_true,e1,bnd2_some,ef,e44,bd,e2,e3,bin_eql,d3,q8,r3,cq,fieldAddr_eq,Nat.zero_add,Nat.add_zero,e4,a2,a1,a3,a4,a5,bin_add,wi,f1]
  · have d3 : decide ((kk : Int) = 3) = false := by rw [decide_eq_false_iff_not]; omega
    obtain ⟨h5,h6,h7,w1,w2,h',w',a1,a2,a3,a4,a5,f1,rest⟩ := next h3 (f,0) x3 g3 (by omega) (by unfold subN; rw [if_neg (by omega),← hff])
    refine ⟨h',w',fun kx => ?_,rest⟩
    simp only [paoH,paoG,q4,r2,bin_leq,hd,bnd_some,toBK_bool,cond_true,e1,bnd2_some,ef,e44,bd,e2,e3,bin_eql,d3,cond_false,fieldAddr_eq,Nat.zero_add,Nat.add_zero,a2,a1,a3,a4,a5,bin_add,wi,f1]
theorem lp19 (k L : Nat) {β : Type} (kx : Value → H → Option β) {ra n : Nat} {x : Value} {full : List UInt8} (hn : n ≤ 100) :
 ∀ (d m : Nat) (h : H) (es : List UInt8) (j : Nat),es.length + d = n → d < m → Rr h ra x full j →
  ∃ h',pauO (callO prog 0 Q (k + 1)) L kx m (.int .i64 (n : Int)) (.int .i64 (es.length : Int)) (ptrV ra) (str es) h = kx (str (es ++ rawN full d j)) h' ∧ Rr h' ra x full (nxN full d j) ∧ ExtBut (fun i => i = ra) h h' := by
 intro d
 induction d with
 | zero =>
  intro m h es j hi hm rd
  obtain ⟨m,rfl⟩ : ∃ r,m = r + 1 := ⟨m - 1,by omega⟩
  have hd : decide ((es.length : Int) < (n : Int)) = false := by rw [decide_eq_false_iff_not]; omega
  rw [show rawN full 0 j = [] from rfl,List.append_nil]
  refine ⟨h,?_,rd,⟨Nat.le_refl _,fun _ _ _ => rfl⟩⟩
  simp only [pauO,papE,bin_lss,hd,bnd_some,toBK_bool,cond_false]
 | succ d ih =>
  intro m h es j hi hm rd
  obtain ⟨m,rfl⟩ : ∃ r,m = r + 1 := ⟨m - 1,by omega⟩
  have hd : decide ((es.length : Int) < (n : Int)) = true := by rw [decide_eq_true_iff]; omega
  obtain ⟨h1,e1,rd1,x1,n1⟩ := T12 kd.kn.fr k rd
  have hb8 := at8_lt full j
  have cv := conv35 hb8
  obtain ⟨h2,e2,el2,x2,n2⟩ := lit1 h1 (z := ScC.Z5L) rfl (at8 full j : Int) (UInt8.ofNat (at8 full j)) (ofNat_int hb8)
  have eb : A.b2s (.slice (some ⟨h1.next,0,none⟩) 1 3) h2 = some (str [UInt8.ofNat (at8 full j)]) := by
   simp only [A.b2s,el2,toBytes_u8]; rfl
  have s1 := cat9 (a := es) (b := [UInt8.ofNat (at8 full j)]) (by simp; omega)
  have wi : IntKind.i64.wrap ((es.length : Int) + 1) = ((es.length + 1 : Nat) : Int) := wrap_succ (by omega)
  have hle : (es ++ [UInt8.ofNat (at8 full j)]).length = es.length + 1 := by simp
  obtain ⟨h',f1,f2,f3⟩ := ih m h2 (es ++ [UInt8.ofNat (at8 full j)]) (nx full j) (by omega) (by omega) (rd1.ext x2)
  rw [hle] at f1
  refine ⟨h',?_,f2,(x1.trans x2.but).trans f3⟩
  have : es ++ rawN full (d + 1) j = (es ++ [UInt8.ofNat (at8 full j)]) ++ rawN full d (nx full j) := by rw [List.append_assoc]; rfl
  rw [this]
  simp only [pauO,papE,bin_lss,hd,bnd_some,toBK_bool,cond_true,e1,bnd2_some,cv,e2,eb,s1,bin_add,wi,f1]
variable {h : H}
theorem T19 (k : Nat) {ra n j : Nat} {x : Value} {full : List UInt8} (hn : n ≤ 100) (rd : Rr h ra x full j) :
 ∃ h',callO prog 0 Q (k + 1 + n + 1) 19 [ptrV ra,.int .i64 (n : Int)] h = some (str (rawN full n j),h') ∧ Rr h' ra x full (nxN full n j) ∧ ExtBut (fun i => i = ra) h h' := by
 rw [F19eq Q (k + 1 + n) _ _ h (kd.kn.fr 19 _ (by decide))]
 have loop := fun (kx : Value → H → Option (Value × H)) => lp19 kd (k + n) (k + 1 + n) kx (ra := ra) (x := x) (full := full) hn n (k + 1 + n) h [] j (by simp) (by omega) rd
 obtain ⟨h',e,r,y⟩ := loop (fun x3 h => some (x3,h))
 have e : pauO (callO prog 0 Q (k + n + 1)) (k + 1 + n) (fun x3 h => some (x3,h)) (k + 1 + n) (.int .i64 (n : Int)) (.int .i64 0) (ptrV ra) (str []) h = some (str (rawN full n j),h') := e
 have hk : k + n + 1 = k + 1 + n := by omega
 rw [hk] at e
 refine ⟨h',?_,r,y⟩
 generalize k + 1 + n = m at e ⊢
 simp only [F19,p19a,pauL,pauM,paiI,pauN,pajZ,palM,pauP]
 exact e
end
end Go.Proofs.YtdljlmpleibkiaaGreatDoor.Sc

namespace Go.Proofs.YtdljlmpleibkiaaGreatDoor.Sc
open Tryz (prog)
open Go Go.AM ScA ScB ScC
structure In21 (h0 h : H) (ra r t : Nat) (x : Value) (full : List UInt8) (j : Nat) : Prop where
 xt : ExtBut (fun i => i = ra) h0 h
 rd : Rr h ra x full j
 gr : h.get r = some (.cells ScC.Z77L (some 0))
 lr : r < h.next
theorem In21.set {h0 h h' : H} {ra r t : Nat} {x : Value} {full : List UInt8} {j : Nat} (n : In21 h0 h ra r t x full j) (y : ExtBut (fun i => i = t) h h') (ny : h'.next = h.next) (ht : h0.next ≤ t) (htr : t ≠ r) (hra : ra < h0.next) (hX : ∀ i,sid x = some i → i < h0.next) : In21 h0 h' ra r t x full j :=
 ⟨⟨by have := n.xt.next; omega,fun i hi hs => by have := n.xt.next; rw [y.get i (by omega) (by omega),n.xt.get i hi hs]⟩,n.rd.but y (by omega) (fun i hi e => by have := hX i hi; omega),by rw [y.get r n.lr (by omega)]; exact n.gr,by have := n.lr; omega⟩
theorem In21.ext {h0 h h' : H} {ra r t : Nat} {x : Value} {full : List UInt8} {j : Nat} (n : In21 h0 h ra r t x full j) (y : Ext h h') : In21 h0 h' ra r t x full j :=
 ⟨n.xt.trans y.but,n.rd.ext y,by rw [y.get r n.lr]; exact n.gr,Nat.lt_of_lt_of_le n.lr y.next⟩
section
variable {Q : Orc} (kd : KnD Q) {h : H}
include kd
theorem loop21 (K : Nat) {k kind id ra t r a j : Nat} {x : Value} {full : List UInt8} {h0 : H} (hk : (k = 3 ∧ kind = 8) ∨ (k = 4 ∧ kind = 10)) (hra : ra < h0.next) (hX : ∀ i,sid x = some i → i < h0.next) (ht : h0.next ≤ t) (hr : h0.next ≤ r) (htr : t ≠ r) (ha : a < 256)
 (x0 : ExtBut (fun i => i = ra) h0 h) (b : Bx h t (mkI kind id) nilS) (rd : Rr h ra x full j) (gr : h.get r = some (.cells ScC.Z77L (some 0))) (lr : r < h.next) :
 ∃ h' w,(∀ (kc : Value → Value → H → Option (Value × H)),paoH (callO prog 0 Q (K + 4)) (K + 4) kc (K + 4) (.int .i64 (a : Int)) (.int .i64 0) (.int .i64 (k : Int)) (ptrV ra) (ptrV t) (ptrV r) h = kc (ptrV t) (ptrV r) h') ∧ Bx h' t (mkI kind id) w ∧ Vec 2 h' w ((subsN full kind (1 + a / 4 % 2) j).map sbC) ∧ (∀ i,sid w = some i → h0.next ≤ i ∧ i ≠ t ∧ i ≠ r) ∧ Rr h' ra x full (nxN full (1 + a / 4 % 2) j) ∧ h'.get r = some (.cells ScC.Z77L (some 0)) ∧ r < h'.next ∧ ExtBut (fun i => i = ra) h0 h' := by
 have hm2 : a / 4 % 2 < 2 := Nat.mod_lt _ (by omega)
 obtain ⟨h',w,f,rest⟩ := lp21 kd (K + 3) (K + 4) (kk := k) (kind := kind) (id := id) (ra := ra) (t := t) (r := r) (a := a) (x := x) (full := full) h0 hk hra hX ht hr htr ha (1 + a / 4 % 2) (K + 4) h nilS [] j (by simp) (by omega) x0 b (Vec.nil 2 h) (fun i hi => by simp [sid] at hi) rd gr lr
 exact ⟨h',w,f,rest⟩
theorem disp21 (K : Nat) {k a j ra t r : Nat} {x : Value} {full : List UInt8} {h0 : H} (hk : 0 < k) (hk8 : k < 9) (ha : a < 256) (n : In21 h0 h ra r t x full j) (b : Bx h t (mkI 0 0) nilS) (hra : ra < h0.next) (hX : ∀ i,sid x = some i → i < h0.next) (ht : h0.next ≤ t) (hr : h0.next ≤ r) (htr : t ≠ r) :
 ∃ h' w,(∀ (kc : Value → Value → H → Option (Value × H)),pabE (callO prog 0 Q (K + 4)) (K + 4) (.int .i64 (k : Int)) (ptrV ra) (.int .i64 (a : Int)) (ptrV t) (ptrV r) h kc = kc (ptrV t) (ptrV r) h') ∧
  Bx h' t (fdA full k a j).1 w ∧ SliceE 2 h' w ((fdA full k a j).2.1.map sbC) ∧ (∀ i,sid w = some i → h0.next ≤ i ∧ i ≠ r) ∧ ((fdA full k a j).1.kind = 8 ∨ (fdA full k a j).1.kind = 10 ∨ w = nilS) ∧ In21 h0 h' ra r t x full (fdA full k a j).2.2 := by
 have nl : ∀ i,sid nilS = some i → h0.next ≤ i ∧ i ≠ r := fun i hi => by simp [sid] at hi
 have set : ∀ {hx : H} {jx : Nat} {p p' : Pk} {i : Nat} {v : Value},In21 h0 hx ra r t x full jx → Bx hx t p nilS → i < 24 → cellsL v = some [v] → p'.cells nilS = (p.cells nilS).set i v → ∃ hy,A.store 1 (.pointer (some ⟨t,i,none⟩)) v hx = some hy ∧ Bx hy t p' nilS ∧ In21 h0 hy ra r t x full jx := by
  intro hx jx p p' i v nx bx hi hv hp
  obtain ⟨hy,e,by',y,ny⟩ := bx.set hi hv hp
  exact ⟨hy,e,by',nx.set y ny ht htr hra hX⟩
 have next : ∀ {hx : H} {jx : Nat} {p : Pk},In21 h0 hx ra r t x full jx → Bx hx t p nilS → ∃ hy,callO prog 0 Q (K + 4) 12 [ptrV ra] hx = some (.int .i64 (at8 full jx : Int),hy) ∧ Bx hy t p nilS ∧ In21 h0 hy ra r t x full (nx full jx) := by
  intro hx jx p nx' bx
  obtain ⟨hy,e,rd,y,ny⟩ := T12 kd.kn.fr (K + 3) nx'.rd
  exact ⟨hy,e,bx.but y (by omega),⟨nx'.xt.trans y,rd,by rw [y.get r nx'.lr (by omega)]; exact nx'.gr,by have := nx'.lr; omega⟩⟩
 by_cases k12 : k = 1 ∨ k = 2
 · have ef : fdA full k a j = (spC a (at8 full j),[],nx full j) := by unfold fdA; rw [if_pos k12]
   rw [ef]
   obtain ⟨h1,e1,b1,n1⟩ := set (i := 0) (v := .int .u8 1) (p' := mkC 0 false 0 [] false [] [] 0) n b (by omega) rfl rfl
   obtain ⟨h2,e2,b2,n2⟩ := set (i := 7) (v := .int .u8 4) (p' := mkC 4 false 0 [] false [] [] 0) n1 b1 (by omega) rfl rfl
   obtain ⟨h3,hh3⟩ : ∃ h3,h3 = h2.push (.cells (clients.map str) (some 1)) := ⟨_,rfl⟩
   have e3 : A.buildSlice 1 4 ScC.Z9L [(0,1,(.string ⟨⟨[120]⟩⟩)),(1,1,(.string ⟨⟨[121]⟩⟩)),(2,1,(.string ⟨⟨[122]⟩⟩)),(3,1,(.string ⟨⟨[]⟩⟩))] h2 = some (.slice (some ⟨h2.next,0,none⟩) 4 9,h3) := by rw [hh3]; rfl
   have x3 : Ext h2 h3 := by rw [hh3]; exact Ext.push h2 _
   have s3 : SliceE 1 h3 (.slice (some ⟨h2.next,0,none⟩) 4 9) (clients.map fun s => [str s]) := by rw [hh3]; exact lits h2 clients
   have c44 : callO prog 0 Q (K + 4) 44 [.int .i64 (a : Int),.slice (some ⟨h2.next,0,none⟩) 4 9] h3 = some (str (cliN a),h3) := T44 kd.kn (K + 3) (a := a) (ws := clients) (by decide) s3
   obtain ⟨h4,e4,b4,n4⟩ := set (i := 10) (v := str (cliN a)) (p' := mkC 4 false 0 (cliN a) false [] [] 0) (n2.ext x3) (b2.ext x3) (by omega) rfl rfl
   have q16 : A.bin prog .quo 3 (.int .i64 (a : Int)) (.int .i64 16) = _ := quoI (a := a) (c := 16) (by omega) (by omega)
   have q32 : A.bin prog .quo 3 (.int .i64 (a : Int)) (.int .i64 32) = _ := quoI (a := a) (c := 32) (by omega) (by omega)
   have q64 : A.bin prog .quo 3 (.int .i64 (a : Int)) (.int .i64 64) = _ := quoI (a := a) (c := 64) (by omega) (by omega)
   have r2a : A.bin prog .rem 3 (.int .i64 ((a / 16 : Nat) : Int)) (.int .i64 2) = _ := remI (a := a / 16) (c := 2) (by omega)
   have r2b : A.bin prog .rem 3 (.int .i64 ((a / 32 : Nat) : Int)) (.int .i64 2) = _ := remI (a := a / 32) (c := 2) (by omega)
   have r3 : A.bin prog .rem 3 (.int .i64 ((a / 64 : Nat) : Int)) (.int .i64 3) = _ := remI (a := a / 64) (c := 3) (by omega)
   have dA : decide (((a / 16 % 2 : Nat) : Int) = 1) = decide (a / 16 % 2 = 1) := decide_eq_decide.2 (by omega)
   have dB : decide (((a / 32 % 2 : Nat) : Int) = 1) = wlN a := decide_eq_decide.2 (by omega)
   obtain ⟨h5,e5,b5,n5⟩ := set (i := 8) (v := .bool (decide (a / 16 % 2 = 1))) (p' := mkC 4 (decide (a / 16 % 2 = 1)) 0 (cliN a) false [] [] 0) n4 b4 (by omega) rfl rfl
   obtain ⟨h6,e6,b6,n6⟩ := set (i := 11) (v := .bool (wlN a)) (p' := mkC 4 (decide (a / 16 % 2 = 1)) 0 (cliN a) (wlN a) [] [] 0) n5 b5 (by omega) rfl rfl
   have l11 : A.load false 1 (.pointer (some ⟨t,11,none⟩)) h6 = some (.bool (wlN a)) := b6.ld (i := 11) rfl
   have rk : A.bin prog .rem 3 (.int .i64 (at8 full j : Int)) (.int .i64 4) = _ := remI (a := at8 full j) (c := 4) (by omega)
   have ck := conv372 (n := at8 full j % 4) (by have := Nat.mod_lt (at8 full j) (show 4 > 0 by omega); omega)
   have go : ∃ h',(∀ (kc : Value → Value → H → Option (Value × H)),pakU (callO prog 0 Q (K + 4)) (K + 4) (.bool true) (.int .i64 (k : Int)) (ptrV ra) (.int .i64 (k : Int)) (.int .i64 (a : Int)) (ptrV t) (ptrV r) h kc = kc (ptrV t) (ptrV r) h') ∧ Bx h' t (spC a (at8 full j)) nilS ∧ In21 h0 h' ra r t x full (nx full j) := by
    cases hwl : wlN a with
    | true =>
     rw [hwl] at dB e6 l11 b6
     have cq := conv35 (n := a / 64 % 3) (by have := Nat.mod_lt (a / 64) (show 3 > 0 by omega); omega)
     obtain ⟨h7,e7,b7,n7⟩ := set (i := 12) (v := str [97,47,119]) (p' := mkC 4 (decide (a / 16 % 2 = 1)) 0 (cliN a) true [97,47,119] [] 0) n6 b6 (by omega) rfl rfl
     obtain ⟨h8,e8,b8,n8⟩ := set (i := 13) (v := str [119]) (p' := mkC 4 (decide (a / 16 % 2 = 1)) 0 (cliN a) true [97,47,119] [119] 0) n7 b7 (by omega) rfl rfl
     obtain ⟨h9,e9,b9,n9⟩ := set (i := 14) (v := .int .u8 ((a / 64 % 3 : Nat) : Int)) (p' := mkC 4 (decide (a / 16 % 2 = 1)) 0 (cliN a) true [97,47,119] [119] (a / 64 % 3)) n8 b8 (by omega) rfl rfl
     obtain ⟨ha',ea,ba,na⟩ := next n9 b9
     obtain ⟨hb,eb,bb,nb⟩ := set (i := 9) (v := .int .u16 ((at8 full j % 4 : Nat) : Int)) (p' := spC a (at8 full j)) na ba (by omega) rfl (by unfold spC; rw [hwl]; rfl)
     refine ⟨hb,fun kc => ?_,bb,nb⟩
     simp only [pakU,parD,parE,fieldAddr_eq,Nat.zero_add,Nat.add_zero,Nat.reduceAdd,bnd_some,e1,e2,e3,bnd2_some,c44,e4,q16,r2a,bin_eql,dA,toBK_bool,e5,q32,r2b,dB,e6,l11,cond_true,e7,e8,q64,r3,cq,e9,ea,rk,ck,eb]
    | false =>
     rw [hwl] at dB e6 l11 b6
     obtain ⟨ha',ea,ba,na⟩ := next n6 b6
     obtain ⟨hb,eb,bb,nb⟩ := set (i := 9) (v := .int .u16 ((at8 full j % 4 : Nat) : Int)) (p' := spC a (at8 full j)) na ba (by omega) rfl (by unfold spC; rw [hwl]; rfl)
     refine ⟨hb,fun kc => ?_,bb,nb⟩
     simp only [pakU,parD,parE,fieldAddr_eq,Nat.zero_add,Nat.add_zero,Nat.reduceAdd,bnd_some,e1,e2,e3,bnd2_some,c44,e4,q16,r2a,bin_eql,dA,toBK_bool,e5,q32,r2b,dB,e6,l11,cond_false,ea,rk,ck,eb]
   obtain ⟨h',go,bf,nf⟩ := go
   refine ⟨h',nilS,fun kc => ?_,bf,(Vec.nil 2 h').slice,nl,.inr (.inr rfl),nf⟩
   rcases k12 with k1 | k2
   · have d1 := deq (k := k) (c := 1) (by omega)
     simp only [pabE,panA,pabJ,pabK,panB,bin_eql,bnd_some,toBK_bool,cond_true,cond_false,pabQ,condV_bool,bnd2_some,fieldAddr_eq,Nat.zero_add,Nat.add_zero,Nat.reduceAdd,d1,go]
   · have d1 := dne (k := k) (c := 1) (by omega)
     have d2 := deq (k := k) (c := 2) (by omega)
     simp only [pabE,panA,pabJ,pabK,panB,bin_eql,bnd_some,toBK_bool,cond_true,cond_false,pabQ,condV_bool,bnd2_some,fieldAddr_eq,Nat.zero_add,Nat.add_zero,Nat.reduceAdd,d1,d2,go]
 have d1 := dne (k := k) (c := 1) (by omega)
 have d2 := dne (k := k) (c := 2) (by omega)
 by_cases k34 : k = 3 ∨ k = 4
 · obtain ⟨kind,hkd⟩ : ∃ kind,kind = 8 + 2 * (k - 3) := ⟨_,rfl⟩
   have ef : fdA full k a j = (mkI kind (1 + a % 4),subsN full kind (1 + a / 4 % 2) j,nxN full (1 + a / 4 % 2) j) := by
    unfold fdA
    rcases k34 with k3 | k4
    · have hk8 : kind = 8 := by omega
      rw [if_neg k12,if_pos k3,hk8]
    · have hk10 : kind = 10 := by omega
      rw [if_neg k12,if_neg (by omega),if_pos k4,hk10]
   rw [ef]
   have hkk : (k = 3 ∧ kind = 8) ∨ (k = 4 ∧ kind = 10) := by omega
   have g1 : A.bin prog .sub 3 (.int .i64 (k : Int)) (.int .i64 3) = some (.int .i64 ((k - 3 : Nat) : Int)) := by
    have e : (k : Int) - 3 = ((k - 3 : Nat) : Int) := by omega
    rw [bin_sub,e,wrap64 (by omega) (by omega)]
   have g2 : A.bin prog .mul 3 (.int .i64 2) (.int .i64 ((k - 3 : Nat) : Int)) = some (.int .i64 ((2 * (k - 3) : Nat) : Int)) := by
    have e : (2 : Int) * ((k - 3 : Nat) : Int) = ((2 * (k - 3) : Nat) : Int) := by omega
    rw [bin_mul,e,wrap64 (by omega) (by omega)]
   have g3 : A.bin prog .add 3 (.int .i64 8) (.int .i64 ((2 * (k - 3) : Nat) : Int)) = some (.int .i64 (kind : Int)) := by
    rw [hkd]; exact add64 (a := 8) (b := 2 * (k - 3)) (by omega)
   have ck := conv35 (n := kind) (by omega)
   obtain ⟨h1,e1,b1,n1⟩ := set (i := 0) (v := .int .u8 (kind : Int)) (p' := mkI kind 0) n b (by omega) rfl rfl
   have r4 : A.bin prog .rem 3 (.int .i64 (a : Int)) (.int .i64 4) = _ := remI (a := a) (c := 4) (by omega)
   have ham : a % 4 < 4 := Nat.mod_lt _ (by omega)
   have g4 : A.bin prog .add 3 (.int .i64 ((a % 4 : Nat) : Int)) (.int .i64 1) = some (.int .i64 ((1 + a % 4 : Nat) : Int)) := by
    rw [Nat.add_comm]; exact add64 (a := a % 4) (b := 1) (by omega)
   have ci := conv372 (n := 1 + a % 4) (by omega)
   obtain ⟨h2,e2,b2,n2⟩ := set (i := 4) (v := .int .u16 ((1 + a % 4 : Nat) : Int)) (p' := mkI kind (1 + a % 4)) n1 b1 (by omega) rfl rfl
   obtain ⟨h',w,f1,f2,f3,f4,f5,f6,f7,f8⟩ : ∃ h' w,(∀ (kc : Value → Value → H → Option (Value × H)),paoH (callO prog 0 Q (K + 4)) (K + 4) kc (K + 4) (.int .i64 (a : Int)) (.int .i64 0) (.int .i64 (k : Int)) (ptrV ra) (ptrV t) (ptrV r) h2 = kc (ptrV t) (ptrV r) h') ∧ Bx h' t (mkI kind (1 + a % 4)) w ∧ Vec 2 h' w ((subsN full kind (1 + a / 4 % 2) j).map sbC) ∧ (∀ i,sid w = some i → h0.next ≤ i ∧ i ≠ t ∧ i ≠ r) ∧ Rr h' ra x full (nxN full (1 + a / 4 % 2) j) ∧ h'.get r = some (.cells ScC.Z77L (some 0)) ∧ r < h'.next ∧ ExtBut (fun i => i = ra) h0 h' :=
    loop21 kd K hkk hra hX ht hr htr ha n2.xt b2 n2.rd n2.gr n2.lr
   refine ⟨h',w,fun kc => ?_,f2,f3.slice,fun i hi => ⟨(f4 i hi).1,(f4 i hi).2.2⟩,by show kind = 8 ∨ kind = 10 ∨ _; omega,⟨f8,f5,f6,f7⟩⟩
   have hh : ∀ kc : Value → Value → H → Option (Value × H),pagI (callO prog 0 Q (K + 4)) (K + 4) (.bool true) (.int .i64 (k : Int)) (ptrV ra) (.int .i64 (k : Int)) (.int .i64 (a : Int)) (ptrV t) (ptrV r) h kc = kc (ptrV t) (ptrV r) h' := by
    intro kc
    have f1 := f1 kc
    generalize K + 4 = M at f1 ⊢
    simp only [pagI,pauT,g1,bnd_some,g2,g3,ck,fieldAddr_eq,Nat.zero_add,e1,pauU,r4,g4,ci,e2,pauV,pajO,pakP,f1]
   rcases k34 with k3 | k4
   · have d3 := deq (k := k) (c := 3) (by omega)
     simp only [pabE,panA,pabJ,pabK,panB,bin_eql,bnd_some,toBK_bool,cond_true,cond_false,pabQ,condV_bool,bnd2_some,fieldAddr_eq,Nat.zero_add,Nat.add_zero,Nat.reduceAdd,pacE,panM,pacQ,d1,d2,d3,hh]
   · have d3 := dne (k := k) (c := 3) (by omega)
     have d4 := deq (k := k) (c := 4) (by omega)
     simp only [pabE,panA,pabJ,pabK,panB,bin_eql,bnd_some,toBK_bool,cond_true,cond_false,pabQ,condV_bool,bnd2_some,fieldAddr_eq,Nat.zero_add,Nat.add_zero,Nat.reduceAdd,pacE,panM,pacQ,d1,d2,d3,d4,hh]
 have d3 := dne (k := k) (c := 3) (by omega)
 have d4 := dne (k := k) (c := 4) (by omega)
 by_cases k56 : k = 5 ∨ k = 6
 · have ef : fdA full k a j = (spP a (at8 full j),[],nx full j) := by unfold fdA; rw [if_neg k12,if_neg (by omega),if_neg (by omega),if_pos k56]
   rw [ef]
   obtain ⟨h1,e1,b1,n1⟩ := set (i := 0) (v := .int .u8 3) (p' := mkP false 0 false 0 [] []) n b (by omega) rfl rfl
   obtain ⟨h2,hh2⟩ : ∃ h2,h2 = h1.push (.cells (names.map str) (some 1)) := ⟨_,rfl⟩
   have e2 : A.buildSlice 1 6 ScC.Z9L [(0,1,(.string ⟨⟨[97]⟩⟩)),(1,1,(.string ⟨⟨[97,47,98]⟩⟩)),(2,1,(.string ⟨⟨[98]⟩⟩)),(3,1,(.string ⟨⟨[97,47,119]⟩⟩)),(4,1,(.string ⟨⟨[36,115,47,120]⟩⟩)),(5,1,(.string ⟨⟨[99]⟩⟩))] h1 = some (.slice (some ⟨h1.next,0,none⟩) 6 13,h2) := by rw [hh2]; rfl
   have x2 : Ext h1 h2 := by rw [hh2]; exact Ext.push h1 _
   have s2 : SliceE 1 h2 (.slice (some ⟨h1.next,0,none⟩) 6 13) (names.map fun s => [str s]) := by rw [hh2]; exact lits h1 names
   have c44 : callO prog 0 Q (K + 4) 44 [.int .i64 (a : Int),.slice (some ⟨h1.next,0,none⟩) 6 13] h2 = some (str (topN a),h2) := T44 kd.kn (K + 3) (a := a) (ws := names) (by decide) s2
   obtain ⟨h3,e3,b3,n3⟩ := set (i := 5) (v := str (topN a)) (p' := mkP false 0 false 0 (topN a) []) (n1.ext x2) (b1.ext x2) (by omega) rfl rfl
   have q8 : A.bin prog .quo 3 (.int .i64 (a : Int)) (.int .i64 8) = _ := quoI (a := a) (c := 8) (by omega) (by omega)
   have q32 : A.bin prog .quo 3 (.int .i64 (a : Int)) (.int .i64 32) = _ := quoI (a := a) (c := 32) (by omega) (by omega)
   have q64 : A.bin prog .quo 3 (.int .i64 (a : Int)) (.int .i64 64) = _ := quoI (a := a) (c := 64) (by omega) (by omega)
   have r3 : A.bin prog .rem 3 (.int .i64 ((a / 8 : Nat) : Int)) (.int .i64 3) = _ := remI (a := a / 8) (c := 3) (by omega)
   have r2 : A.bin prog .rem 3 (.int .i64 ((a / 32 : Nat) : Int)) (.int .i64 2) = _ := remI (a := a / 32) (c := 2) (by omega)
   have r2' : A.bin prog .rem 3 (.int .i64 ((a / 64 : Nat) : Int)) (.int .i64 2) = _ := remI (a := a / 64) (c := 2) (by omega)
   have hq3 : a / 8 % 3 < 3 := Nat.mod_lt _ (by omega)
   have cq := conv35 (n := a / 8 % 3) (by omega)
   have dR : decide (((a / 32 % 2 : Nat) : Int) = 1) = decide (a / 32 % 2 = 1) := decide_eq_decide.2 (by omega)
   have dD : decide (((a / 64 % 2 : Nat) : Int) = 1) = decide (a / 64 % 2 = 1) := decide_eq_decide.2 (by omega)
   obtain ⟨h4,e4,b4,n4⟩ := set (i := 2) (v := .int .u8 ((a / 8 % 3 : Nat) : Int)) (p' := mkP false (a / 8 % 3) false 0 (topN a) []) n3 b3 (by omega) rfl rfl
   obtain ⟨h5,e5,b5,n5⟩ := set (i := 3) (v := .bool (decide (a / 32 % 2 = 1))) (p' := mkP false (a / 8 % 3) (decide (a / 32 % 2 = 1)) 0 (topN a) []) n4 b4 (by omega) rfl rfl
   obtain ⟨h6,e6,b6,n6⟩ := next n5 b5
   have hb8 := at8_lt full j
   obtain ⟨c,hc⟩ : ∃ c,c = at8 full j := ⟨_,rfl⟩
   rw [← hc] at e6 hb8 ⊢
   have qc4 : A.bin prog .quo 3 (.int .i64 (c : Int)) (.int .i64 4) = _ := quoI (a := c) (c := 4) (by omega) (by omega)
   have qc16 : A.bin prog .quo 3 (.int .i64 (c : Int)) (.int .i64 16) = _ := quoI (a := c) (c := 16) (by omega) (by omega)
   have rc4 : A.bin prog .rem 3 (.int .i64 ((c / 4 : Nat) : Int)) (.int .i64 4) = _ := remI (a := c / 4) (c := 4) (by omega)
   have rc : A.bin prog .rem 3 (.int .i64 (c : Int)) (.int .i64 4) = _ := remI (a := c) (c := 4) (by omega)
   have hcm : c % 4 < 4 := Nat.mod_lt _ (by omega)
   have g16 : A.bin prog .add 3 (.int .i64 ((c / 16 : Nat) : Int)) (.int .i64 1) = _ := add64 (a := c / 16) (b := 1) (by omega)
   have ss := letter (c / 16) (by omega)
   have gid : A.bin prog .add 3 (.int .i64 ((c % 4 : Nat) : Int)) (.int .i64 1) = some (.int .i64 ((1 + c % 4 : Nat) : Int)) := by
    rw [Nat.add_comm]; exact add64 (a := c % 4) (b := 1) (by omega)
   have ci := conv372 (n := 1 + c % 4) (by omega)
   have dq0 : decide ((0 : Int) < ((a / 8 % 3 : Nat) : Int)) = decide (0 < a / 8 % 3) := decide_eq_decide.2 (by omega)
   have tail : ∀ {hx : H} (pay : List UInt8),pay = payN c → In21 h0 hx ra r t x full (nx full j) → Bx hx t (mkP false (a / 8 % 3) (decide (a / 32 % 2 = 1)) 0 (topN a) pay) nilS →
    (0 < a / 8 % 3 → ∃ hy hz,A.store 1 (.pointer (some ⟨t,4,none⟩)) (.int .u16 ((1 + c % 4 : Nat) : Int)) hx = some hy ∧ A.store 1 (.pointer (some ⟨t,1,none⟩)) (.bool (decide (a / 64 % 2 = 1))) hy = some hz ∧ Bx hz t (spP a c) nilS ∧ In21 h0 hz ra r t x full (nx full j)) ∧
    (¬ 0 < a / 8 % 3 → Bx hx t (spP a c) nilS) := by
    intro hx pay hpay nx' bx
    refine ⟨fun hq => ?_,fun hq => ?_⟩
    · obtain ⟨hy,ey,by',ny⟩ := set (i := 4) (v := .int .u16 ((1 + c % 4 : Nat) : Int)) (p' := mkP false (a / 8 % 3) (decide (a / 32 % 2 = 1)) (1 + c % 4) (topN a) pay) nx' bx (by omega) rfl rfl
      obtain ⟨hz,ez,bz,nz⟩ := set (i := 1) (v := .bool (decide (a / 64 % 2 = 1))) (p' := spP a c) ny by' (by omega) rfl (by unfold spP; rw [if_pos hq,if_pos hq,hpay]; rfl)
      exact ⟨hy,hz,ey,ez,bz,nz⟩
    · have : spP a c = mkP false (a / 8 % 3) (decide (a / 32 % 2 = 1)) 0 (topN a) pay := by unfold spP; rw [if_neg hq,if_neg hq,hpay]
      rw [this]; exact bx
   have go : ∃ h',(∀ (kc : Value → Value → H → Option (Value × H)),pahT (callO prog 0 Q (K + 4)) (K + 4) (.bool true) (ptrV ra) (.int .i64 (k : Int)) (.int .i64 (a : Int)) (ptrV t) (ptrV r) h kc = kc (ptrV t) (ptrV r) h') ∧ Bx h' t (spP a c) nilS ∧ In21 h0 h' ra r t x full (nx full j) := by
    by_cases hp : 0 < c / 4 % 4
    · have dp : (!decide (((c / 4 % 4 : Nat) : Int) = 0)) = true := by rw [dne (k := c / 4 % 4) (c := 0) (by omega)]; rfl
      obtain ⟨h7,e7,b7,n7⟩ := set (i := 6) (v := str [UInt8.ofNat (97 + c / 16)]) (p' := mkP false (a / 8 % 3) (decide (a / 32 % 2 = 1)) 0 (topN a) [UInt8.ofNat (97 + c / 16)]) n6 b6 (by omega) rfl rfl
      have l2 : A.load false 1 (.pointer (some ⟨t,2,none⟩)) h7 = some (.int .u8 ((a / 8 % 3 : Nat) : Int)) := b7.ld (i := 2) rfl
      obtain ⟨tq,tn⟩ := tail [UInt8.ofNat (97 + c / 16)] (by unfold payN; rw [if_pos hp]) n7 b7
      by_cases hq : 0 < a / 8 % 3
      · rw [decide_eq_true hq] at dq0
        obtain ⟨hy,hz,ey,ez,bz,nz⟩ := tq hq
        refine ⟨hz,fun kc => ?_,bz,nz⟩
        simp only [pahT,paoC,fieldAddr_eq,Nat.zero_add,bnd_some,e1,paoD,e2,bnd2_some,c44,e3,paoE,q8,r3,cq,e4,paoF,q32,r2,bin_eql,dR,toBK_bool,e5,e6,qc4,rc4,bin_neq,dp,cond_true,qc16,g16,ss,e7,l2,bin_gtr,dq0,rc,gid,ci,ey,q64,r2',dD,ez]
      · rw [decide_eq_false hq] at dq0
        refine ⟨h7,fun kc => ?_,tn hq,n7⟩
        simp only [pahT,paoC,fieldAddr_eq,Nat.zero_add,bnd_some,e1,paoD,e2,bnd2_some,c44,e3,paoE,q8,r3,cq,e4,paoF,q32,r2,bin_eql,dR,toBK_bool,e5,e6,qc4,rc4,bin_neq,dp,cond_true,cond_false,qc16,g16,ss,e7,l2,bin_gtr,dq0]
    · have dp : (!decide (((c / 4 % 4 : Nat) : Int) = 0)) = false := by rw [deq (k := c / 4 % 4) (c := 0) (by omega)]; rfl
      have l2 : A.load false 1 (.pointer (some ⟨t,2,none⟩)) h6 = some (.int .u8 ((a / 8 % 3 : Nat) : Int)) := b6.ld (i := 2) rfl
      obtain ⟨tq,tn⟩ := tail [] (by unfold payN; rw [if_neg hp]) n6 b6
      by_cases hq : 0 < a / 8 % 3
      · rw [decide_eq_true hq] at dq0
        obtain ⟨hy,hz,ey,ez,bz,nz⟩ := tq hq
        refine ⟨hz,fun kc => ?_,bz,nz⟩
        simp only [pahT,paoC,fieldAddr_eq,Nat.zero_add,bnd_some,e1,paoD,e2,bnd2_some,c44,e3,paoE,q8,r3,cq,e4,paoF,q32,r2,bin_eql,dR,toBK_bool,e5,e6,qc4,rc4,bin_neq,dp,cond_true,cond_false,l2,bin_gtr,dq0,rc,gid,ci,ey,q64,r2',dD,ez]
      · rw [decide_eq_false hq] at dq0
        refine ⟨h6,fun kc => ?_,tn hq,n6⟩
        simp only [pahT,paoC,fieldAddr_eq,Nat.zero_add,bnd_some,e1,paoD,e2,bnd2_some,c44,e3,paoE,q8,r3,cq,e4,paoF,q32,r2,bin_eql,dR,toBK_bool,e5,e6,qc4,rc4,bin_neq,dp,cond_false,l2,bin_gtr,dq0]
   obtain ⟨h',go,bf,nf⟩ := go
   refine ⟨h',nilS,fun kc => ?_,bf,(Vec.nil 2 h').slice,nl,.inr (.inr rfl),nf⟩
   rcases k56 with k5 | k6
   · have d5 := deq (k := k) (c := 5) (by omega)
     simp only [pabE,panA,pabJ,pabK,panB,bin_eql,bnd_some,toBK_bool,cond_true,cond_false,pabQ,condV_bool,bnd2_some,fieldAddr_eq,Nat.zero_add,Nat.add_zero,Nat.reduceAdd,pacE,panM,pacQ,pafB,paoB,pagG,d1,d2,d3,d4,d5,go]
   · have d5 := dne (k := k) (c := 5) (by omega)
     have d6 := deq (k := k) (c := 6) (by omega)
     simp only [pabE,panA,pabJ,pabK,panB,bin_eql,bnd_some,toBK_bool,cond_true,cond_false,pabQ,condV_bool,bnd2_some,fieldAddr_eq,Nat.zero_add,Nat.add_zero,Nat.reduceAdd,pacE,panM,pacQ,pafB,paoB,pagG,d1,d2,d3,d4,d5,d6,go]
 have d5 := dne (k := k) (c := 5) (by omega)
 have d6 := dne (k := k) (c := 6) (by omega)
 by_cases k7 : k = 7
 · have d7 := deq (k := k) (c := 7) (by omega)
   have ef : fdA full k a j = (mkI (4 + a % 4) (1 + a / 4 % 4),[],j) := by unfold fdA; rw [if_neg k12,if_neg (by omega),if_neg (by omega),if_neg k56,if_pos k7]
   rw [ef]
   have r4 : A.bin prog .rem 3 (.int .i64 (a : Int)) (.int .i64 4) = _ := remI (a := a) (c := 4) (by omega)
   have q4 : A.bin prog .quo 3 (.int .i64 (a : Int)) (.int .i64 4) = _ := quoI (a := a) (c := 4) (by omega) (by omega)
   have r4' : A.bin prog .rem 3 (.int .i64 ((a / 4 : Nat) : Int)) (.int .i64 4) = _ := remI (a := a / 4) (c := 4) (by omega)
   have hm1 : a % 4 < 4 := Nat.mod_lt _ (by omega)
   have hm2 : a / 4 % 4 < 4 := Nat.mod_lt _ (by omega)
   have g1 : A.bin prog .add 3 (.int .i64 4) (.int .i64 ((a % 4 : Nat) : Int)) = _ := add64 (a := 4) (b := a % 4) (by omega)
   have g2 : A.bin prog .add 3 (.int .i64 ((a / 4 % 4 : Nat) : Int)) (.int .i64 1) = some (.int .i64 ((1 + a / 4 % 4 : Nat) : Int)) := by
    rw [Nat.add_comm]; exact add64 (a := a / 4 % 4) (b := 1) (by omega)
   have c1 := conv35 (n := 4 + a % 4) (by omega)
   have c2 := conv372 (n := 1 + a / 4 % 4) (by omega)
   obtain ⟨h1,e1,b1,n1⟩ := set (i := 0) (v := .int .u8 ((4 + a % 4 : Nat) : Int)) (p' := mkI (4 + a % 4) 0) n b (by omega) rfl rfl
   obtain ⟨h2,e2,b2,n2⟩ := set (i := 4) (v := .int .u16 ((1 + a / 4 % 4 : Nat) : Int)) (p' := mkI (4 + a % 4) (1 + a / 4 % 4)) n1 b1 (by omega) rfl rfl
   refine ⟨h2,nilS,fun kc => ?_,b2,(Vec.nil 2 h2).slice,nl,.inr (.inr rfl),n2⟩
   simp only [pabE,panA,pabJ,pabK,panB,bin_eql,bnd_some,toBK_bool,cond_true,cond_false,pabQ,condV_bool,bnd2_some,fieldAddr_eq,Nat.zero_add,Nat.add_zero,Nat.reduceAdd,pacE,panM,pacQ,pafB,paoB,pagG,pauS,d1,d2,d3,d4,d5,d6,d7,r4,g1,c1,e1,q4,r4',g2,c2,e2]
 have d7 := dne (k := k) (c := 7) (by omega)
 have d8 := deq (k := k) (c := 8) (by omega)
 have r2 : A.bin prog .rem 3 (.int .i64 (a : Int)) (.int .i64 2) = _ := remI (a := a) (c := 2) (by omega)
 have ef : fdA full k a j = (mkI (12 + 2 * (a % 2)) 0,[],j) := by
  have : (if a % 2 = 1 then 14 else 12) = 12 + 2 * (a % 2) := by split <;> omega
  unfold fdA; rw [if_neg k12,if_neg (by omega),if_neg (by omega),if_neg k56,if_neg k7,this]
 rw [ef]
 have hm : a % 2 < 2 := Nat.mod_lt _ (by omega)
 have g1 : A.bin prog .mul 3 (.int .i64 2) (.int .i64 ((a % 2 : Nat) : Int)) = some (.int .i64 ((2 * (a % 2) : Nat) : Int)) := by
  have e : (2 : Int) * ((a % 2 : Nat) : Int) = ((2 * (a % 2) : Nat) : Int) := by omega
  rw [bin_mul,e,wrap64 (by omega) (by omega)]
 have g2 : A.bin prog .add 3 (.int .i64 12) (.int .i64 ((2 * (a % 2) : Nat) : Int)) = _ := add64 (a := 12) (b := 2 * (a % 2)) (by omega)
 have c1 := conv35 (n := 12 + 2 * (a % 2)) (by omega)
 obtain ⟨h1,e1,b1,n1⟩ := set (i := 0) (v := .int .u8 ((12 + 2 * (a % 2) : Nat) : Int)) (p' := mkI (12 + 2 * (a % 2)) 0) n b (by omega) rfl rfl
 refine ⟨h1,nilS,fun kc => ?_,b1,(Vec.nil 2 h1).slice,nl,.inr (.inr rfl),n1⟩
 simp only [pabE,panA,pabJ,pabK,panB,bin_eql,bnd_some,toBK_bool,cond_true,cond_false,pabQ,condV_bool,bnd2_some,fieldAddr_eq,Nat.zero_add,Nat.add_zero,Nat.reduceAdd,pacE,panM,pacQ,pafB,paoB,pagG,pauS,d1,d2,d3,d4,d5,d6,d7,d8,r2,g1,g2,c1,e1]
theorem T21 (K : Nat) {k a j ra : Nat} {x : Value} {full : List UInt8} (hk : 0 < k) (hk8 : k < 9) (ha : a < 256) (rd : Rr h ra x full j) :
 ∃ h' w,callO prog 0 Q (K + 5) 21 [ptrV ra,.int .i64 (k : Int),.int .i64 (a : Int)] h = some (.agg ⟨(fdA full k a j).1.cells w⟩,h') ∧ SliceE 2 h' w ((fdA full k a j).2.1.map sbC) ∧ ((fdA full k a j).1.kind = 8 ∨ (fdA full k a j).1.kind = 10 ∨ w = nilS) ∧ Rr h' ra x full (fdA full k a j).2.2 ∧ ExtBut (fun i => i = ra) h h' := by
 rw [F21eq Q (K + 4) _ _ _ h (kd.kn.fr 21 _ (by decide))]
 have hra := rd.ha
 obtain ⟨h1,hh1⟩ : ∃ h1,h1 = h.push (.cells ScC.Z77L (some 0)) := ⟨_,rfl⟩
 have e1 : A.box 24 ScC.Z77 h = some (ptrV h.next,h1) := by rw [hh1]; rfl
 have x1 : Ext h h1 := by rw [hh1]; exact Ext.push h _
 have n1 : h1.next = h.next + 1 := by rw [hh1]; rfl
 have bd : A.build ScC.Z77L [] = some (.agg ⟨(mkI 0 0).cells nilS⟩) := by kernel_rfl
 obtain ⟨h2,hh2⟩ : ∃ h2,h2 = h1.push (.cells ScC.Z77L (some 0)) := ⟨_,rfl⟩
 have e2 : A.box 24 ScC.Z77 h1 = some (ptrV h1.next,h2) := by rw [hh2]; rfl
 have x2 : Ext h1 h2 := by rw [hh2]; exact Ext.push h1 _
 have n2 : h2.next = h1.next + 1 := by rw [hh2]; rfl
 obtain ⟨h3,e3,b3,x3,n3⟩ := store24 (h := h2) (t := h1.next) (zs := ScC.Z77L) rfl (by rw [hh2,H.get_push,if_pos rfl]) (by omega) (mkI 0 0) nilS
 have x03 : Ext h h3 := ⟨by omega,fun i hi => by rw [x3.get i (by omega) (by omega),x2.get i (by omega),x1.get i hi]⟩
 have hX : ∀ i,sid x = some i → i < h.next := rd.sl.sid_lt
 have gr : h3.get h.next = some (.cells ScC.Z77L (some 0)) := by rw [x3.get _ (by omega) (by omega),x2.get _ (by omega),hh1,H.get_push,if_pos rfl]
 obtain ⟨h4,w,f1,f2,f3,f4,f5,f6⟩ := disp21 kd (h := h3) (h0 := h) K (k := k) (a := a) (j := j) (ra := ra) (t := h1.next) (r := h.next) (x := x) (full := full) hk hk8 ha ⟨x03.but,rd.ext x03,gr,by omega⟩ b3 hra hX (by omega) (by omega) (by omega)
 obtain ⟨p,hp⟩ : ∃ p,p = (fdA full k a j).1 := ⟨_,rfl⟩
 rw [← hp] at f2 ⊢
 obtain ⟨h5,e5,b5,x5,n5⟩ := store24 (h := h4) (t := h.next) (zs := ScC.Z77L) rfl f6.gr f6.lr p w
 refine ⟨h5,w,?_,f3.extBut x5 (fun i hi e => (f4 i hi).2 e),by rw [hp]; exact f5,f6.rd.but x5 (by omega) (fun i hi e => by have := hX i hi; omega),⟨by have := f6.xt.next; omega,fun i hi hs => by have := f6.xt.next; rw [x5.get i (by omega) (by omega),f6.xt.get i hi hs]⟩⟩
 simp only [F21,p21a,pauQ,e1,bnd2_some,pauR,bd,bnd_some,e2,e3]
 refine (f1 _).trans ?_
 simp only [pauW,f2.all,bnd_some,e5,b5.all,resC,packA]
end
end Go.Proofs.YtdljlmpleibkiaaGreatDoor.Sc

namespace Go.Proofs.YtdljlmpleibkiaaGreatDoor.Sc
open Tryz (prog)
open Go Go.AM ScA ScB ScC
structure In13 (h0 h : H) (ra r t : Nat) (x : Value) (full : List UInt8) (j : Nat) (e : Ent) : Prop where
 xt : ExtBut (fun i => i = ra) h0 h
 rd : Rr h ra x full j
 gr : h.get r = some (.cells ScC.Z36L (some 0))
 lr : r < h.next
 ge : h.get t = some (.cells e.cells (some 0))
 lt : t < h.next
section
variable {Q : Orc} (kd : KnD Q) {h : H}
include kd
theorem T13 (K : Nat) {j ra : Nat} {x : Value} {full : List UInt8} (rd : Rr h ra x full j) :
 ∃ h',callO prog 0 Q (K + 25) 13 [ptrV ra] h = some (.agg ⟨(entA full j).1.cells⟩,h') ∧ Rr h' ra x full (entA full j).2 ∧ ExtBut (fun i => i = ra) h h' := by
 rw [F13eq Q (K + 24) _ h (kd.kn.fr 13 _ (by decide))]
 have hra := rd.ha
 have hX : ∀ i,sid x = some i → i < h.next := rd.sl.sid_lt
 obtain ⟨h1,hh1⟩ : ∃ h1,h1 = h.push (.cells ScC.Z36L (some 0)) := ⟨_,rfl⟩
 have e1 : A.box 7 ScC.Z36 h = some (ptrV h.next,h1) := by rw [hh1]; rfl
 have x1 : Ext h h1 := by rw [hh1]; exact Ext.push h _
 have n1 : h1.next = h.next + 1 := by rw [hh1]; rfl
 have g1 : h1.get h.next = some (.cells ScC.Z36L (some 0)) := by rw [hh1,H.get_push,if_pos rfl]
 obtain ⟨h2,e2,rd2,x2,n2⟩ := T12 kd.kn.fr (h := h1) (K + 23) (rd.ext x1)
 have e2 : callO prog 0 Q (K + 24) 12 [ptrV ra] h1 = _ := e2
 have bz : A.build ScC.Z36L [] = some (.agg ⟨(⟨0,0,0,0,0,0,[]⟩ : Ent).cells⟩) := by kernel_rfl
 obtain ⟨h3,hh3⟩ : ∃ h3,h3 = h2.push (.cells ScC.Z36L (some 0)) := ⟨_,rfl⟩
 have e3 : A.box 7 ScC.Z36 h2 = some (ptrV h2.next,h3) := by rw [hh3]; rfl
 have x3 : Ext h2 h3 := by rw [hh3]; exact Ext.push h2 _
 have n3 : h3.next = h2.next + 1 := by rw [hh3]; rfl
 obtain ⟨h4,e4,g4,x4,n4⟩ := store7 (h := h3) (t := h2.next) (zs := ScC.Z36L) rfl (by rw [hh3,H.get_push,if_pos rfl]) ⟨0,0,0,0,0,0,[]⟩
 obtain ⟨t,ht⟩ : ∃ t,t = h2.next := ⟨_,rfl⟩
 rw [← ht] at e3 e4 g4 x4
 obtain ⟨r,hr⟩ : ∃ r,r = h.next := ⟨_,rfl⟩
 have i4 : In13 h h4 ra r t x full (nx full j) ⟨0,0,0,0,0,0,[]⟩ := by
  refine ⟨⟨by omega,fun i hi hs => by rw [x4.get i (by omega) (by omega),x3.get i (by omega),x2.get i (by omega) hs,x1.get i hi]⟩,(rd2.ext x3).but x4 (by omega) (fun i hi e => by have := hX i hi; omega),?_,by omega,g4,by omega⟩
  rw [hr,x4.get _ (by omega) (by omega),x3.get _ (by omega),x2.get _ (by omega) (by omega)]; exact g1
 have set : ∀ {hx : H} {jx : Nat} {e : Ent} {i : Nat} {v : Value} (e' : Ent),In13 h hx ra r t x full jx e → i < 7 → cellsL v = some [v] → e'.cells = e.cells.set i v → ∃ hy,A.store 1 (.pointer (some ⟨t,i,none⟩)) v hx = some hy ∧ In13 h hy ra r t x full jx e' := by
  intro hx jx e i v e' n hi hv hp
  obtain ⟨hy,ey,gy,y,ny⟩ := set7 n.ge hi hv hp
  have := n.lr
  have := n.lt
  have := n.xt.next
  exact ⟨hy,ey,⟨by omega,fun i hi hs => by rw [y.get i (by omega) (by omega),n.xt.get i hi hs]⟩,n.rd.but y (by omega) (fun i hi e => by have := hX i hi; omega),by rw [y.get r n.lr (by omega)]; exact n.gr,by omega,gy,by omega⟩
 have step : ∀ {hx hy : H} {jx jy : Nat} {e : Ent},In13 h hx ra r t x full jx e → Rr hy ra x full jy → ExtBut (fun i => i = ra) hx hy → In13 h hy ra r t x full jy e := by
  intro hx hy jx jy e n rdy y
  have := n.lr
  have := n.lt
  have := y.next
  exact ⟨n.xt.trans y,rdy,by rw [y.get r n.lr (by omega)]; exact n.gr,by omega,by rw [y.get t n.lt (by omega)]; exact n.ge,by omega⟩
 have next : ∀ {hx : H} {jx : Nat} {e : Ent},In13 h hx ra r t x full jx e → ∃ hy,callO prog 0 Q (K + 24) 12 [ptrV ra] hx = some (.int .i64 (at8 full jx : Int),hy) ∧ In13 h hy ra r t x full (nx full jx) e := by
  intro hx jx e n
  obtain ⟨hy,ey,rdy,y,ny⟩ := T12 kd.kn.fr (K + 23) n.rd
  exact ⟨hy,ey,step n rdy y⟩
 have fin : ∀ {hx : H} {jx : Nat} {e : Ent},In13 h hx ra r t x full jx e → ∃ hy,(pakN (callO prog 0 Q (K + 24)) (K + 24) (ptrV t) (ptrV r) hx (fun x2 h => bnd (resC (A.load true 7 x2 h) (some [])) fun vs => some (packA vs,h))) = some (.agg ⟨e.cells⟩,hy) ∧ Rr hy ra x full jx ∧ ExtBut (fun i => i = ra) h hy := by
  intro hx jx e n
  obtain ⟨hy,ey,gy,y,ny⟩ := store7 (zs := ScC.Z36L) rfl n.gr e
  have := n.xt.next
  refine ⟨hy,?_,n.rd.but y (by omega) (fun i hi e => by have := hX i hi; omega),⟨by omega,fun i hi hs => by rw [y.get i (by omega) (by omega),n.xt.get i hi hs]⟩⟩
  simp only [pakN,load7 n.ge,bnd_some,ey,load7 gy,resC,packA]
 have hc8 := at8_lt full j
 obtain ⟨c,hc⟩ : ∃ c,c = at8 full j := ⟨_,rfl⟩
 unfold entA
 rw [← hc] at e2 hc8 ⊢
 have r16 : A.bin prog .rem 3 (.int .i64 (c : Int)) (.int .i64 16) = _ := remI (a := c) (c := 16) (by omega)
 have hk16 : c % 16 < 16 := Nat.mod_lt _ (by omega)
 obtain ⟨k,hk⟩ : ∃ k,k = c % 16 := ⟨_,rfl⟩
 rw [← hk] at r16 hk16 ⊢
 obtain ⟨j1,hj1⟩ : ∃ j1,j1 = nx full j := ⟨_,rfl⟩
 rw [← hj1] at i4 ⊢
 rw [← hr] at e1
 suffices hs : ∀ (E : Ent) (je : Nat),(∃ hx,(∀ kc : Value → Value → H → Option (Value × H),pacY (callO prog 0 Q (K + 24)) (K + 24) (.int .i64 (k : Int)) (ptrV ra) (ptrV t) (ptrV r) h4 kc = kc (ptrV t) (ptrV r) hx) ∧ In13 h hx ra r t x full je E) →
  ∃ h',F13 (callO prog 0 Q (K + 24)) (K + 24) (ptrV ra) h = some (.agg ⟨E.cells⟩,h') ∧ Rr h' ra x full je ∧ ExtBut (fun i => i = ra) h h' by
  by_cases k0 : k = 0
  · have d0 := deq (k := k) (c := 0) (by omega)
    rw [if_pos k0]
    refine hs _ _ ?_
    obtain ⟨hy,ey,iy⟩ := set (i := 0) (v := .int .u8 1) ⟨1,0,0,0,0,0,[]⟩ i4 (by omega) rfl rfl
    refine ⟨hy,fun kc => ?_,iy⟩
    simp only [pacY,padJ,pamY,bin_eql,d0,bnd_some,toBK_bool,paeE,condV_bool,cond_true,paxS,fieldAddr_eq,Nat.zero_add,ey]
  have d0 := dne (k := k) (c := 0) (by omega)
  rw [if_neg k0]
  by_cases k10 : k = 10
  · have d10 := deq (k := k) (c := 10) (by omega)
    have l10 : decide ((k : Int) < 10) = false := by rw [decide_eq_false_iff_not]; omega
    rw [if_pos k10]
    obtain ⟨h5,e5,i5⟩ := next i4
    have ha8 := at8_lt full j1
    obtain ⟨a,ha⟩ : ∃ a,a = at8 full j1 := ⟨_,rfl⟩
    rw [← ha] at e5 ha8 ⊢
    obtain ⟨h6,e6,i6⟩ := set (i := 0) (v := .int .u8 3) ⟨3,0,0,0,0,0,[]⟩ i5 (by omega) rfl rfl
    have r2 : A.bin prog .rem 3 (.int .i64 (a : Int)) (.int .i64 2) = _ := remI (a := a) (c := 2) (by omega)
    by_cases ha2 : a % 2 = 1
    · have da : decide (((a % 2 : Nat) : Int) = 1) = true := decide_eq_true (by omega)
      rw [if_pos ha2]
      have q2 : A.bin prog .quo 3 (.int .i64 (a : Int)) (.int .i64 2) = _ := quoI (a := a) (c := 2) (by omega) (by omega)
      have r4 : A.bin prog .rem 3 (.int .i64 ((a / 2 : Nat) : Int)) (.int .i64 4) = _ := remI (a := a / 2) (c := 4) (by omega)
      obtain ⟨h7,e7,i7⟩ := set (i := 0) (v := .int .u8 4) ⟨4,0,0,0,0,0,[]⟩ i6 (by omega) rfl rfl
      obtain ⟨h8,e8,i8⟩ := set (i := 2) (v := .int .i64 ((a / 2 % 4 : Nat) : Int)) ⟨4,0,a / 2 % 4,0,0,0,[]⟩ i7 (by omega) rfl rfl
      refine hs _ _ ⟨h8,fun kc => ?_,i8⟩
      simp only [pacY,padJ,pamY,bin_eql,d0,bnd_some,toBK_bool,paeE,condV_bool,cond_true,cond_false,pafD,panE,bin_lss,l10,pagN,paiG,panQ,d10,pakM,patS,e5,bnd2_some,fieldAddr_eq,Nat.zero_add,e6,r2,da,e7,q2,r4,e8]
    · have da : decide (((a % 2 : Nat) : Int) = 1) = false := decide_eq_false (by omega)
      rw [if_neg ha2]
      obtain ⟨h7,e7,i7⟩ := next i6
      obtain ⟨b,hb⟩ : ∃ b,b = at8 full (nx full j1) := ⟨_,rfl⟩
      rw [← hb] at e7 ⊢
      have r6 : A.bin prog .rem 3 (.int .i64 (b : Int)) (.int .i64 6) = _ := remI (a := b) (c := 6) (by omega)
      obtain ⟨h8,e8,i8⟩ := set (i := 1) (v := .int .i64 ((b % 6 : Nat) : Int)) ⟨3,b % 6,0,0,0,0,[]⟩ i7 (by omega) rfl rfl
      refine hs _ _ ⟨h8,fun kc => ?_,i8⟩
      simp only [pacY,padJ,pamY,bin_eql,d0,bnd_some,toBK_bool,paeE,condV_bool,cond_true,cond_false,pafD,panE,bin_lss,l10,pagN,paiG,panQ,d10,pakM,patS,e5,bnd2_some,fieldAddr_eq,Nat.zero_add,e6,r2,da,e7,r6,e8]
  have d10 := dne (k := k) (c := 10) (by omega)
  rw [if_neg k10]
  by_cases k11 : k = 11
  · have d11 := deq (k := k) (c := 11) (by omega)
    have l10 : decide ((k : Int) < 10) = false := by rw [decide_eq_false_iff_not]; omega
    rw [if_pos k11]
    obtain ⟨h5,e5,i5⟩ := set (i := 0) (v := .int .u8 5) ⟨5,0,0,0,0,0,[]⟩ i4 (by omega) rfl rfl
    obtain ⟨h6,e6,i6⟩ := next i5
    obtain ⟨b,hb⟩ : ∃ b,b = at8 full j1 := ⟨_,rfl⟩
    rw [← hb] at e6 ⊢
    have r6 : A.bin prog .rem 3 (.int .i64 (b : Int)) (.int .i64 6) = _ := remI (a := b) (c := 6) (by omega)
    obtain ⟨h7,e7,i7⟩ := set (i := 1) (v := .int .i64 ((b % 6 : Nat) : Int)) ⟨5,b % 6,0,0,0,0,[]⟩ i6 (by omega) rfl rfl
    refine hs _ _ ⟨h7,fun kc => ?_,i7⟩
    simp only [pacY,padJ,pamY,bin_eql,d0,bnd_some,toBK_bool,paeE,condV_bool,cond_true,cond_false,pafD,panE,bin_lss,l10,pagN,paiG,panQ,d10,pakM,paqY,d11,fieldAddr_eq,Nat.zero_add,e5,e6,bnd2_some,r6,e7]
  have d11 := dne (k := k) (c := 11) (by omega)
  rw [if_neg k11]
  by_cases k12 : k = 12 ∨ k = 13
  · have l10 : decide ((k : Int) < 10) = false := by rw [decide_eq_false_iff_not]; omega
    have l14 : decide ((k : Int) < 14) = true := by rw [decide_eq_true_iff]; omega
    rw [if_pos k12]
    obtain ⟨h5,e5,i5⟩ := set (i := 0) (v := .int .u8 6) ⟨6,0,0,0,0,0,[]⟩ i4 (by omega) rfl rfl
    obtain ⟨h6,e6,i6⟩ := next i5
    obtain ⟨a,ha⟩ : ∃ a,a = at8 full j1 := ⟨_,rfl⟩
    rw [← ha] at e6 ⊢
    have r5 : A.bin prog .rem 3 (.int .i64 (a : Int)) (.int .i64 5) = _ := remI (a := a) (c := 5) (by omega)
    obtain ⟨h7,e7,i7⟩ := set (i := 3) (v := .int .i64 ((a % 5 : Nat) : Int)) ⟨6,0,0,a % 5,0,0,[]⟩ i6 (by omega) rfl rfl
    obtain ⟨h8,e8,i8⟩ := next i7
    obtain ⟨b,hb⟩ : ∃ b,b = at8 full (nx full j1) := ⟨_,rfl⟩
    rw [← hb] at e8 ⊢
    have r8 : A.bin prog .rem 3 (.int .i64 (b : Int)) (.int .i64 8) = _ := remI (a := b) (c := 8) (by omega)
    obtain ⟨h9,e9,i9⟩ := set (i := 4) (v := .int .i64 ((b % 8 : Nat) : Int)) ⟨6,0,0,a % 5,b % 8,0,[]⟩ i8 (by omega) rfl rfl
    obtain ⟨h10,e10,i10⟩ := next i9
    obtain ⟨d,hd⟩ : ∃ d,d = at8 full (nx full (nx full j1)) := ⟨_,rfl⟩
    rw [← hd] at e10 ⊢
    have r7 : A.bin prog .rem 3 (.int .i64 (d : Int)) (.int .i64 7) = _ := remI (a := d) (c := 7) (by omega)
    obtain ⟨h11,e11,i11⟩ := set (i := 5) (v := .int .i64 ((d % 7 : Nat) : Int)) ⟨6,0,0,a % 5,b % 8,d % 7,[]⟩ i10 (by omega) rfl rfl
    refine hs _ _ ⟨h11,fun kc => ?_,i11⟩
    simp only [pacY,padJ,pamY,bin_eql,d0,bnd_some,toBK_bool,paeE,condV_bool,cond_true,cond_false,pafD,panE,bin_lss,l10,pagN,paiG,panQ,d10,pakM,paqY,d11,l14,fieldAddr_eq,Nat.zero_add,Nat.add_zero,Nat.reduceAdd,e5,e6,bnd2_some,r5,e7,e8,r8,e9,e10,r7,e11]
  rw [if_neg k12]
  by_cases k14 : k = 14 ∨ k = 15
  · have l10 : decide ((k : Int) < 10) = false := by rw [decide_eq_false_iff_not]; omega
    have l14 : decide ((k : Int) < 14) = false := by rw [decide_eq_false_iff_not]; omega
    rw [if_pos k14]
    obtain ⟨h5,e5,i5⟩ := set (i := 0) (v := .int .u8 7) ⟨7,0,0,0,0,0,[]⟩ i4 (by omega) rfl rfl
    refine hs _ _ ⟨h5,fun kc => ?_,i5⟩
    simp only [pacY,padJ,pamY,bin_eql,d0,bnd_some,toBK_bool,paeE,condV_bool,cond_false,pafD,panE,bin_lss,l10,pagN,paiG,panQ,d10,pakM,paqY,d11,l14,fieldAddr_eq,Nat.zero_add,e5]
  rw [if_neg k14]
  have l10 : decide ((k : Int) < 10) = true := by rw [decide_eq_true_iff]; omega
  obtain ⟨h5,e5,i5⟩ := set (i := 0) (v := .int .u8 2) ⟨2,0,0,0,0,0,[]⟩ i4 (by omega) rfl rfl
  obtain ⟨h6,e6,i6⟩ := next i5
  obtain ⟨b,hb⟩ : ∃ b,b = at8 full j1 := ⟨_,rfl⟩
  rw [← hb] at e6 ⊢
  have r6 : A.bin prog .rem 3 (.int .i64 (b : Int)) (.int .i64 6) = _ := remI (a := b) (c := 6) (by omega)
  obtain ⟨h7,e7,i7⟩ := set (i := 1) (v := .int .i64 ((b % 6 : Nat) : Int)) ⟨2,b % 6,0,0,0,0,[]⟩ i6 (by omega) rfl rfl
  obtain ⟨h8,e8,i8⟩ := next i7
  have ha8 := at8_lt full (nx full j1)
  obtain ⟨a,ha⟩ : ∃ a,a = at8 full (nx full j1) := ⟨_,rfl⟩
  rw [← ha] at e8 ha8 ⊢
  obtain ⟨j3,hj3⟩ : ∃ j3,j3 = nx full (nx full j1) := ⟨_,rfl⟩
  rw [← hj3] at i8 ⊢
  by_cases k9 : k = 9
  · have d9 := deq (k := k) (c := 9) (by omega)
    have ef : feedA full k a j3 = (rawN full (a % 16) j3,nxN full (a % 16) j3) := by unfold feedA; rw [if_pos k9]
    rw [ef]
    have rr : A.bin prog .rem 3 (.int .i64 (a : Int)) (.int .i64 16) = _ := remI (a := a) (c := 16) (by omega)
    have hm : a % 16 < 16 := Nat.mod_lt _ (by omega)
    obtain ⟨h9,e9,rd9,x9⟩ := T19 kd (K + 22 - a % 16) (n := a % 16) (by omega) i8.rd
    have hK : K + 22 - a % 16 + 1 + a % 16 + 1 = K + 24 := by omega
    rw [hK] at e9
    obtain ⟨h10,e10,i10⟩ := set (i := 6) (v := str (rawN full (a % 16) j3)) ⟨2,b % 6,0,0,0,0,rawN full (a % 16) j3⟩ (step i8 rd9 x9) (by omega) rfl rfl
    refine hs _ _ ⟨h10,fun kc => ?_,i10⟩
    simp only [pacY,padJ,pamY,bin_eql,d0,bnd_some,toBK_bool,paeE,condV_bool,cond_true,cond_false,pafD,panE,bin_lss,l10,pagN,patT,fieldAddr_eq,Nat.zero_add,e5,e6,bnd2_some,r6,e7,e8,d9,rr,e9,e10]
  · have d9 := dne (k := k) (c := 9) (by omega)
    have ef : feedA full k a j3 = (encB (fdA full k a j3).1 (fdA full k a j3).2.1,(fdA full k a j3).2.2) := by unfold feedA; rw [if_neg k9]
    rw [ef]
    obtain ⟨h9,w,e9,s9,w9,rd9,x9⟩ := T21 kd (h := h8) (K + 19) (k := k) (a := a) (j := j3) (ra := ra) (x := x) (full := full) (by omega) (by omega) ha8 i8.rd
    have e9 : callO prog 0 Q (K + 24) 21 [ptrV ra,.int .i64 (k : Int),.int .i64 (a : Int)] h8 = _ := e9
    obtain ⟨h10,e10,x10⟩ := T20 kd (h := h9) (K + 11) (fdA_ok full k a j3) s9 w9
    have e10 : callO prog 0 Q (K + 24) 20 [.agg ⟨(fdA full k a j3).1.cells w⟩] h9 = _ := e10
    obtain ⟨tx,htx⟩ : ∃ tx,tx = encB (fdA full k a j3).1 (fdA full k a j3).2.1 := ⟨_,rfl⟩
    rw [← htx] at e10 ⊢
    have t0 : A.extract 0 (.tuple ⟨[str tx,.int .i64 0]⟩) = some (str tx) := rfl
    have t1 : A.extract 1 (.tuple ⟨[str tx,.int .i64 0]⟩) = some (.int .i64 0) := rfl
    obtain ⟨h11,e11,i11⟩ := set (i := 6) (v := str tx) ⟨2,b % 6,0,0,0,0,tx⟩ (step i8 (rd9.ext x10) (x9.trans x10.but)) (by omega) rfl rfl
    refine hs _ _ ⟨h11,fun kc => ?_,i11⟩
    simp only [pacY,padJ,pamY,bin_eql,d0,bnd_some,toBK_bool,paeE,condV_bool,cond_true,cond_false,pafD,panE,bin_lss,l10,pagN,patT,fieldAddr_eq,Nat.zero_add,e5,e6,bnd2_some,r6,e7,e8,d9,e9,e10,t0,t1,e11]
 intro E je hmid
 obtain ⟨hx,mid,ix⟩ := hmid
 obtain ⟨hy,ey,rdy,xy⟩ := fin ix
 refine ⟨hy,?_,rdy,xy⟩
 simp only [F13,p13a,pamK,e1,bnd2_some,pamL,e2,r16,bnd_some,pamM,bz,e3,e4]
 refine (mid _).trans ?_
 exact ey
end
end Go.Proofs.YtdljlmpleibkiaaGreatDoor.Sc

namespace Go.Proofs.YtdljlmpleibkiaaGreatDoor.Sc
open Tryz (prog)
open Go Go.AM ScA ScB ScC
section
variable {Q : Orc} (kd : KnD Q)
include kd
theorem lp6 (K L : Nat) {ra : Nat} {x : Value} {full : List UInt8} {x5 x2 : Value} :
 ∀ (d m : Nat) (h : H) (w : Value) (es : List Ent) (j : Nat),es.length + d = 1000 → d < m → Vec 7 h w (es.map Ent.cells) → (∀ i,sid w = some i → i ≠ ra ∧ sid x ≠ some i) → Rr h ra x full j →
  ∃ h' w',(∀ (kx : Value → Value → Value → H → Option (Value × H)),papV (callO prog 0 Q (K + 25)) L kx m (ptrV ra) x5 w x2 h = kx x5 w' x2 h') ∧ Vec 7 h' w' ((es ++ rowA full d j).map Ent.cells) ∧ (∀ i,sid w' = some i → sid w = some i ∨ h.next ≤ i) ∧ ExtBut (fun i => i = ra ∨ sid w = some i) h h' := by
 intro d
 induction d with
 | zero =>
  intro m h w es j hi hm v sw rd
  obtain ⟨m,rfl⟩ : ∃ r,m = r + 1 := ⟨m - 1,by omega⟩
  have l0 : A.load false 1 (.pointer (some ⟨ra,0,none⟩)) h = some x := by rw [load1_eq,rd.get]; rfl
  have l1 : A.load false 1 (.pointer (some ⟨ra,1,none⟩)) h = some (.int .i64 (j : Int)) := by rw [load1_eq,rd.get]; rfl
  have hlx : A.lenS x = some (.int .i64 (full.length : Int)) := by have := rd.sl.len.1; rwa [List.length_map] at this
  have hl : A.lenS w = some (.int .i64 (es.length : Int)) := by have := v.slice.len.1; rwa [List.length_map] at this
  have hd : decide ((es.length : Int) < 1000) = false := by rw [decide_eq_false_iff_not]; omega
  refine ⟨h,w,fun kx => ?_,by rw [show rowA full 0 j = [] from rfl,List.append_nil]; exact v,fun i hi => .inl hi,⟨Nat.le_refl _,fun _ _ _ => rfl⟩⟩
  cases hb : decide ((j : Int) < (full.length : Int)) with
  | true => simp only [papV,pakJ,paoP,nilCheck_eq,bnd_some,fieldAddr_eq,Nat.zero_add,l0,l1,hlx,bin_lss,hb,toBK_bool,cond_true,hl,hd,cond_false]
  | false => simp only [papV,pakJ,paoP,nilCheck_eq,bnd_some,fieldAddr_eq,Nat.zero_add,l0,l1,hlx,bin_lss,hb,toBK_bool,cond_false]
 | succ d ih =>
  intro m h w es j hi hm v sw rd
  obtain ⟨m,rfl⟩ : ∃ r,m = r + 1 := ⟨m - 1,by omega⟩
  have l0 : A.load false 1 (.pointer (some ⟨ra,0,none⟩)) h = some x := by rw [load1_eq,rd.get]; rfl
  have l1 : A.load false 1 (.pointer (some ⟨ra,1,none⟩)) h = some (.int .i64 (j : Int)) := by rw [load1_eq,rd.get]; rfl
  have hlx : A.lenS x = some (.int .i64 (full.length : Int)) := by have := rd.sl.len.1; rwa [List.length_map] at this
  have hl : A.lenS w = some (.int .i64 (es.length : Int)) := by have := v.slice.len.1; rwa [List.length_map] at this
  have hd : decide ((es.length : Int) < 1000) = true := by rw [decide_eq_true_iff]; omega
  have hX := rd.sl.sid_lt
  have hra := rd.ha
  by_cases hj : j < full.length
  · have hb : decide ((j : Int) < (full.length : Int)) = true := by rw [decide_eq_true_iff]; omega
    obtain ⟨h1,e1,rd1,x1⟩ := T13 kd K rd
    obtain ⟨E,hE⟩ : ∃ E,E = (entA full j).1 := ⟨_,rfl⟩
    rw [← hE] at e1
    have hx1 := x1.next
    obtain ⟨ha,hha⟩ : ∃ ha,ha = h1.push (.cells ScC.Z36L (some 0)) := ⟨_,rfl⟩
    have ea : A.box 7 ScC.Z36 h1 = some (ptrV h1.next,ha) := by rw [hha]; rfl
    have xa : Ext h1 ha := by rw [hha]; exact Ext.push h1 _
    have na : ha.next = h1.next + 1 := by rw [hha]; rfl
    obtain ⟨hb',eb,gb,xb,nb⟩ := store7 (h := ha) (t := h1.next) (zs := ScC.Z36L) rfl (by rw [hha,H.get_push,if_pos rfl]) E
    have lb := load7 gb
    have x1b : Ext h1 hb' := ⟨by omega,fun i hi => by rw [xb.get i (by omega) (by omega),xa.get i hi]⟩
    obtain ⟨h2,hh2⟩ : ∃ h2,h2 = hb'.push (.cells E.cells (some 7)) := ⟨_,rfl⟩
    have e2 : A.buildSlice 7 1 ScC.Z36L [(0,7,.agg ⟨E.cells⟩)] hb' = some (.slice (some ⟨hb'.next,0,none⟩) 1 3,h2) := by
     rw [hh2]; exact buildSlice_one hb' rfl rfl rfl
    have x2' : Ext h1 h2 := x1b.trans (by rw [hh2]; exact Ext.push hb' _)
    have n2 : h2.next = hb'.next + 1 := by rw [hh2]; rfl
    have s2 : SliceE 7 h2 (.slice (some ⟨hb'.next,0,none⟩) 1 3) [E.cells] := by rw [hh2]; exact slice_one rfl
    have v1 : Vec 7 h1 w (es.map Ent.cells) := v.extBut x1 (fun i hi e => (sw i hi).1 e)
    obtain ⟨h3,e3,v3,n3,x3⟩ := append_vec (bs := 64) (v1.ext x2') s2 (by simp) (by omega) (by rw [List.length_map]; simp; omega) (by rw [List.length_map]; simp; omega)
    obtain ⟨w3,hw3⟩ : ∃ w3,w3 = Value.slice (some ⟨h2.next,0,none⟩) ((es.map Ent.cells).length + [E.cells].length) (2 * ((es.map Ent.cells).length + [E.cells].length)) := ⟨_,rfl⟩
    rw [← hw3] at e3 v3
    have hs3 : sid w3 = some h2.next := by rw [hw3]; rfl
    have rd3 : Rr h3 ra x full (entA full j).2 := (rd1.ext x2').but x3 (fun e => (sw ra e).1 rfl) (fun i hi e => (sw i e).2 hi)
    have hl' : (es ++ [E]).length = es.length + 1 := by simp
    obtain ⟨h',w',f1,f2,f3,f4⟩ := ih m h3 w3 (es ++ [E]) (entA full j).2 (by omega) (by omega) (by rw [List.map_append]; exact v3) (fun i hi => by
     rw [hs3] at hi
     simp only [Option.some.injEq] at hi
     exact ⟨by omega,fun e => by have := hX i e; omega⟩) rd3
    refine ⟨h',w',fun kx => ?_,?_,fun i hi => ?_,⟨by have := f4.next; omega,fun i hi hs => ?_⟩⟩
    · simp only [papV,pakJ,paoP,nilCheck_eq,bnd_some,fieldAddr_eq,Nat.zero_add,l0,l1,hlx,bin_lss,hb,toBK_bool,cond_true,hl,hd,paxB,e1,bnd2_some,ea,eb,lb,e2,e3,f1]
    · have : es ++ rowA full (d + 1) j = (es ++ [E]) ++ rowA full d (entA full j).2 := by
       rw [List.append_assoc,hE]
       show es ++ (if j < full.length then _ else _) = _
       rw [if_pos hj]; rfl
      rw [this]; exact f2
    · rcases f3 i hi with hi | hi
      · rw [hs3] at hi; simp only [Option.some.injEq] at hi; exact .inr (by omega)
      · exact .inr (by omega)
    · rw [f4.get i (by omega) (fun e => by rcases e with e | e; exact hs (.inl e); rw [hs3] at e; simp only [Option.some.injEq] at e; omega),x3.get i (by omega) (fun e => hs (.inr e)),x2'.get i (by omega),x1.get i hi (fun e => hs (.inl e))]
  · have hb : decide ((j : Int) < (full.length : Int)) = false := by rw [decide_eq_false_iff_not]; omega
    have er : rowA full (d + 1) j = [] := by show (if j < full.length then _ else _) = _; rw [if_neg hj]
    refine ⟨h,w,fun kx => ?_,by rw [er,List.append_nil]; exact v,fun i hi => .inl hi,⟨Nat.le_refl _,fun _ _ _ => rfl⟩⟩
    simp only [papV,pakJ,paoP,nilCheck_eq,bnd_some,fieldAddr_eq,Nat.zero_add,l0,l1,hlx,bin_lss,hb,toBK_bool,cond_false]
theorem T6 (K : Nat) {h : H} {full : List UInt8} {v : Value} (sl : SliceE 1 h v (full.map fun b => [u8 b])) (hlen : full.length ≤ 1000000) :
 ∃ h' w,callO prog 0 Q (K + 1026) 6 [v] h = some (.tuple ⟨[.agg ⟨cfgA full⟩,w]⟩,h') ∧ SliceE 7 h' w ((rowA full 1000 (nxN full 5 0)).map Ent.cells) ∧ Ext h h' := by
 rw [F6eq Q (K + 1025) _ h (kd.kn.fr 6 _ (by decide))]
 obtain ⟨h1,hh1⟩ : ∃ h1,h1 = h.push (.cells ScC.Z25L (some 0)) := ⟨_,rfl⟩
 have e1 : A.box 5 ScC.Z25 h = some (ptrV h.next,h1) := by rw [hh1]; rfl
 have x1 : Ext h h1 := by rw [hh1]; exact Ext.push h _
 have n1 : h1.next = h.next + 1 := by rw [hh1]; rfl
 have hcv : cellsL v = some [v] := sl.cells
 have hX := sl.sid_lt
 have b54 : A.build ScC.Z54L [(0,1,v)] = some (.agg ⟨[v,.int .i64 0]⟩) := by
  rcases sl.nil_or with ⟨rfl,_⟩ | ⟨a,c,rfl⟩ <;> rfl
 obtain ⟨h2,hh2⟩ : ∃ h2,h2 = h1.push (.cells [v,.int .i64 0] (some 0)) := ⟨_,rfl⟩
 have e2 : A.box 2 (.agg ⟨[v,.int .i64 0]⟩) h1 = some (ptrV h1.next,h2) := by rw [box_eq,hh2]; rfl
 have x2 : Ext h1 h2 := by rw [hh2]; exact Ext.push h1 _
 have n2 : h2.next = h1.next + 1 := by rw [hh2]; rfl
 have rd0 : Rr h2 h1.next v full 0 := ⟨Nat.zero_le _,by omega,by rw [hh2,H.get_push,if_pos rfl]; rfl,(sl.ext x1).ext x2,fun e => by have := hX _ e; omega,hlen⟩
 obtain ⟨ra,hra⟩ : ∃ ra,ra = h1.next := ⟨_,rfl⟩
 rw [← hra] at e2 rd0
 obtain ⟨h3,hh3⟩ : ∃ h3,h3 = h2.push (.cells ScC.Z25L (some 0)) := ⟨_,rfl⟩
 have e3 : A.box 5 ScC.Z25 h2 = some (ptrV h2.next,h3) := by rw [hh3]; rfl
 have x3 : Ext h2 h3 := by rw [hh3]; exact Ext.push h2 _
 have n3 : h3.next = h2.next + 1 := by rw [hh3]; rfl
 obtain ⟨t,ht⟩ : ∃ t,t = h2.next := ⟨_,rfl⟩
 have g3 : h3.get t = some (.cells ScC.Z25L (some 0)) := by rw [ht,hh3,H.get_push,if_pos rfl]
 rw [← ht] at e3
 have rem : ∀ {c n : Nat},0 < n → A.bin prog .rem 3 (.int .i64 (c : Int)) (.int .i64 (n : Int)) = some (.int .i64 ((c % n : Nat) : Int)) := fun {c n} hn => remI hn
 have wr : ∀ {c : Nat},c < 1000 → A.bin prog .add 3 (.int .i64 (c : Int)) (.int .i64 1) = some (.int .i64 ((1 + c : Nat) : Int)) := fun {c} hc => by
  rw [Nat.add_comm]; exact add64 (a := c) (b := 1) (by omega)
 have field : ∀ {hx : H} {j : Nat} {cs : List Value} (i : Nat),i < 5 → cs.length = 5 → Rr hx ra v full j → hx.get t = some (.cells cs (some 0)) → t < hx.next → h.next ≤ hx.next →
  ∃ ha,callO prog 0 Q (K + 1025) 12 [ptrV ra] hx = some (.int .i64 (at8 full j : Int),ha) ∧ ∀ n : Nat,∃ hb,A.store 1 (.pointer (some ⟨t,i,none⟩)) (.int .i64 (n : Int)) ha = some hb ∧ Rr hb ra v full (nx full j) ∧ hb.get t = some (.cells (cs.set i (.int .i64 (n : Int))) (some 0)) ∧ ExtBut (fun i => i = ra ∨ i = t) hx hb ∧ hb.next = hx.next := by
  intro hx j cs i hi hcs rdx gx lx ox
  obtain ⟨ha,ea,rda,xa,na⟩ := T12 kd.kn.fr (K + 1024) rdx
  refine ⟨ha,ea,fun n => ?_⟩
  obtain ⟨hb,eb,gb,xb,nb⟩ := set5 kd.kn (h := ha) (t := t) (by rw [xa.get t lx (by omega)]; exact gx) hcs hi (v := .int .i64 (n : Int)) rfl
  exact ⟨hb,eb,rda.but xb (by omega) (fun i hi e => by have := hX i hi; omega),gb,⟨by omega,fun i hi hs => by rw [xb.get i (by omega) (fun e => hs (.inr e)),xa.get i hi (fun e => hs (.inl e))]⟩,by omega⟩
 obtain ⟨a0,f0,F0⟩ := field 0 (by omega) rfl (rd0.ext x3) g3 (by omega) (by omega)
 obtain ⟨c0,hc0⟩ : ∃ c,c = at8 full 0 := ⟨_,rfl⟩
 have l0 : c0 < 256 := by rw [hc0]; exact at8_lt _ _
 rw [← hc0] at f0
 have r0 : A.bin prog .rem 3 (.int .i64 (c0 : Int)) (.int .i64 4) = _ := rem (c := c0) (n := 4) (by omega)
 have m0 : c0 % 4 < 4 := Nat.mod_lt _ (by omega)
 have w0 := wr (c := c0 % 4) (by omega)
 obtain ⟨h5,e5,rd5,g5,x5,n5⟩ := F0 (1 + c0 % 4)
 obtain ⟨a1,f1,F1⟩ := field 1 (by omega) rfl rd5 g5 (by omega) (by omega)
 obtain ⟨c1,hc1⟩ : ∃ c,c = at8 full (nx full 0) := ⟨_,rfl⟩
 have l1 : c1 < 256 := by rw [hc1]; exact at8_lt _ _
 rw [← hc1] at f1
 have r1 : A.bin prog .rem 3 (.int .i64 (c1 : Int)) (.int .i64 2) = _ := rem (c := c1) (n := 2) (by omega)
 have m1 : c1 % 2 < 2 := Nat.mod_lt _ (by omega)
 have w1 := wr (c := c1 % 2) (by omega)
 obtain ⟨h6,e6,rd6,g6,x6,n6⟩ := F1 (1 + c1 % 2)
 obtain ⟨a2,f2,F2⟩ := field 2 (by omega) rfl rd6 g6 (by omega) (by omega)
 obtain ⟨c2,hc2⟩ : ∃ c,c = at8 full (nx full (nx full 0)) := ⟨_,rfl⟩
 have l2 : c2 < 256 := by rw [hc2]; exact at8_lt _ _
 rw [← hc2] at f2
 have w2 : A.bin prog .add 3 (.int .i64 (c2 : Int)) (.int .i64 16) = some (.int .i64 ((16 + c2 : Nat) : Int)) := by
  rw [Nat.add_comm]; exact add64 (a := c2) (b := 16) (by omega)
 obtain ⟨h7,e7,rd7,g7,x7,n7⟩ := F2 (16 + c2)
 obtain ⟨a3,f3,F3⟩ := field 3 (by omega) rfl rd7 g7 (by omega) (by omega)
 obtain ⟨c3,hc3⟩ : ∃ c,c = at8 full (nx full (nx full (nx full 0))) := ⟨_,rfl⟩
 have l3 : c3 < 256 := by rw [hc3]; exact at8_lt _ _
 rw [← hc3] at f3
 have r3 : A.bin prog .rem 3 (.int .i64 (c3 : Int)) (.int .i64 5) = _ := rem (c := c3) (n := 5) (by omega)
 have m3 : c3 % 5 < 5 := Nat.mod_lt _ (by omega)
 have w3 := wr (c := c3 % 5) (by omega)
 obtain ⟨h8,e8,rd8,g8,x8,n8⟩ := F3 (1 + c3 % 5)
 obtain ⟨a4,f4,F4⟩ := field 4 (by omega) rfl rd8 g8 (by omega) (by omega)
 obtain ⟨c4,hc4⟩ : ∃ c,c = at8 full (nx full (nx full (nx full (nx full 0)))) := ⟨_,rfl⟩
 have l4 : c4 < 256 := by rw [hc4]; exact at8_lt _ _
 rw [← hc4] at f4
 have r4 : A.bin prog .rem 3 (.int .i64 (c4 : Int)) (.int .i64 3) = _ := rem (c := c4) (n := 3) (by omega)
 have m4 : c4 % 3 < 3 := Nat.mod_lt _ (by omega)
 have w4 := wr (c := c4 % 3) (by omega)
 obtain ⟨h9,e9,rd9,g9,x9,n9⟩ := F4 (1 + c4 % 3)
 have x39 : ∀ i,i < h.next + 1 → h9.get i = h2.get i := fun i hi => by
  rw [x9.get i (by omega) (by omega),x8.get i (by omega) (by omega),x7.get i (by omega) (by omega),x6.get i (by omega) (by omega),x5.get i (by omega) (by omega),x3.get i (by omega)]
 obtain ⟨ha,w,q1,q2,q3,q4⟩ := lp6 kd (K + 1000) (K + 1025) (ra := ra) (x := v) (full := full) (x5 := ptrV t) (x2 := ptrV h.next) 1000 (K + 1025) h9 nilS [] (nx full (nx full (nx full (nx full (nx full 0))))) (by simp) (by omega) (Vec.nil 7 h9) (fun i hi => by simp [sid] at hi) rd9
 have q1 : ∀ (kx : Value → Value → Value → H → Option (Value × H)),papV (callO prog 0 Q (K + 1025)) (K + 1025) kx (K + 1025) (ptrV ra) (ptrV t) nilS (ptrV h.next) h9 = kx (ptrV t) w (ptrV h.next) ha := q1
 have hqa := q4.next
 have hcfg : (((((ScC.Z25L.set 0 (.int .i64 ((1 + c0 % 4 : Nat) : Int))).set 1 (.int .i64 ((1 + c1 % 2 : Nat) : Int))).set 2 (.int .i64 ((16 + c2 : Nat) : Int))).set 3 (.int .i64 ((1 + c3 % 5 : Nat) : Int))).set 4 (.int .i64 ((1 + c4 % 3 : Nat) : Int))) = cfgA full := by
  rw [hc0,hc1,hc2,hc3,hc4]; rfl
 rw [hcfg] at g9
 have ga : ha.get t = some (.cells (cfgA full) (some 0)) := by
  rw [q4.get t (by omega) (fun e => by rcases e with e | e; omega; simp [sid] at e)]; exact g9
 have gr : ha.get h.next = some (.cells ScC.Z25L (some 0)) := by
  rw [q4.get _ (by omega) (fun e => by rcases e with e | e; omega; simp [sid] at e),x39 _ (by omega),x2.get _ (by omega),hh1,H.get_push,if_pos rfl]
 have lc : A.load true 5 (ptrV t) ha = some (.agg ⟨cfgA full⟩) := by rw [loadN_eq,ga]; rfl
 obtain ⟨hb,hhb⟩ : ∃ hb,hb = ha.put h.next (.cells (cfgA full) (some 0)) := ⟨_,rfl⟩
 have sc : A.store 5 (ptrV h.next) (.agg ⟨cfgA full⟩) ha = some hb := by rw [store_eq,gr,hhb]; rfl
 have lb : A.load true 5 (ptrV h.next) hb = some (.agg ⟨cfgA full⟩) := by rw [loadN_eq,hhb,H.get_put,if_pos rfl]; rfl
 have xb : ExtBut (fun i => i = h.next) ha hb := by rw [hhb]; exact ExtBut.put ⟨Nat.le_refl _,fun _ _ _ => rfl⟩ _ _ rfl
 refine ⟨hb,w,?_,?_,⟨by have := xb.next; omega,fun i hi => ?_⟩⟩
 · generalize K + 1025 = M at f0 f1 f2 f3 f4 q1 ⊢
   simp only [F6,p6a,pajG,e1,bnd2_some,padT,b54,bnd_some,e2,pagQ,e3,padO,f0,r0,w0,fieldAddr_eq,Nat.zero_add,Nat.add_zero,e5,pacW,f1,r1,w1,e6,pamR,f2,w2,e7,pawY,f3,r3,w3,e8,pawZ,f4,r4,w4,e9,paxA,pahX,paiT]
   refine (q1 _).trans ?_
   simp only [paxC,lc,bnd_some,sc,lb,resC,packA]
 · have : ([] : List Ent) ++ rowA full 1000 (nx full (nx full (nx full (nx full (nx full 0))))) = rowA full 1000 (nxN full 5 0) := rfl
   rw [this] at q2
   refine (q2.extBut xb fun i hi e => ?_).slice
   rcases q3 i hi with hq | hq
   · simp [sid] at hq
   · omega
 · rw [xb.get i (by omega) (by omega),q4.get i (by omega) (fun e => by rcases e with e | e; omega; simp [sid] at e),x39 i (by omega),x2.get i (by omega),x1.get i hi]
end
end Go.Proofs.YtdljlmpleibkiaaGreatDoor.Sc

namespace Go.Proofs.YtdljlmpleibkiaaGreatDoor.Sc
open Tryz (prog)
open Go Go.AM ScA ScB ScC
theorem cfg_refl (full : List UInt8) : A.bin prog .neq 25 (.agg ⟨cfgA full⟩) (.agg ⟨cfgA full⟩) = some (.bool false) := by
 have gen : ∀ a b c d e : Int,A.bin prog .neq 25 (.agg ⟨[.int .i64 a,.int .i64 b,.int .i64 c,.int .i64 d,.int .i64 e]⟩) (.agg ⟨[.int .i64 a,.int .i64 b,.int .i64 c,.int .i64 d,.int .i64 e]⟩) = some (.bool false) := by
  intro a b c d e
  have q : A.eqV prog 20 25 (.agg ⟨[.int .i64 a,.int .i64 b,.int .i64 c,.int .i64 d,.int .i64 e]⟩) (.agg ⟨[.int .i64 a,.int .i64 b,.int .i64 c,.int .i64 d,.int .i64 e]⟩) = (bif (a == a) then (bif (b == b) then (bif (c == c) then (bif (d == d) then (bif (e == e) then some true else some false) else some false) else some false) else some false) else some false) := by kernel_rfl
  exact bin_agg_neq (r := true) rfl rfl (by kernel_rfl) (by rw [q]; simp only [beq_self_eq_true,cond_true])
 exact gen _ _ _ _ _
theorem ent_refl (e : Ent) : A.bin prog .neq 35 (.agg ⟨e.cells⟩) (.agg ⟨e.cells⟩) = some (.bool false) := by
 have gen : ∀ (a b c d f g : Int) (s : List UInt8),A.bin prog .neq 35 (.agg ⟨[.int .u8 a,.int .i64 b,.int .i64 c,.int .i64 d,.int .i64 f,.int .i64 g,str s]⟩) (.agg ⟨[.int .u8 a,.int .i64 b,.int .i64 c,.int .i64 d,.int .i64 f,.int .i64 g,str s]⟩) = some (.bool false) := by
  intro a b c d f g s
  have q : A.eqV prog 20 35 (.agg ⟨[.int .u8 a,.int .i64 b,.int .i64 c,.int .i64 d,.int .i64 f,.int .i64 g,str s]⟩) (.agg ⟨[.int .u8 a,.int .i64 b,.int .i64 c,.int .i64 d,.int .i64 f,.int .i64 g,str s]⟩) = (bif (a == a) then (bif (b == b) then (bif (c == c) then (match (bif (d == d) then (bif (f == f) then (bif (g == g) then some true else some false) else some false) else some false) with | some q => (bif q then (bif (s == s) then some true else some false) else some false) | none => none) else some false) else some false) else some false) := by kernel_rfl
  exact bin_agg_neq (r := true) rfl rfl (by kernel_rfl) (by rw [q]; simp only [beq_self_eq_true,cond_true])
 exact gen _ _ _ _ _ _ _
theorem flat_u8 (l : List UInt8) : (l.map fun b => [u8 b]).flatten = l.map u8 := by
 induction l with
 | nil => rfl
 | cons a l ih => simp only [List.map_cons,List.flatten_cons,ih,List.singleton_append]
theorem b2s_sl {h : H} {x : Value} {full : List UInt8} (sl : SliceE 1 h x (full.map fun b => [u8 b])) : A.b2s x h = some (str full) := by
 have he : A.elems 1 x h = some (full.map u8) := by rw [sl.elems,flat_u8]
 rcases sl.nil_or with ⟨rfl,hn⟩ | ⟨a,c,rfl⟩
 · have : full = [] := List.map_eq_nil_iff.1 hn
   subst this
   rfl
 · simp only [A.b2s,he,toBytes_u8]; rfl
theorem lp3 (C : CF) (L : Nat) {β : Type} (kr : Value → H → Option β) (kx : H → Option β) {h : H} {x7 x5 : Value} {l : List Ent} (s7 : SliceE 7 h x7 (l.map Ent.cells)) (s5 : SliceE 7 h x5 (l.map Ent.cells)) (hll : l.length ≤ 1000) :
 ∀ (d i m : Nat),i + d = l.length → d < m → pavK C L kr kx m (.int .i64 (i : Int)) x7 x5 h = kx h := by
 have hl : A.lenS x5 = some (.int .i64 (l.length : Int)) := by have := s5.len.1; rwa [List.length_map] at this
 intro d
 induction d with
 | zero =>
  intro i m hi hm
  obtain ⟨m,rfl⟩ : ∃ r,m = r + 1 := ⟨m - 1,by omega⟩
  have hd : decide ((i : Int) < (l.length : Int)) = false := by rw [decide_eq_false_iff_not]; omega
  simp only [pavK,papF,hl,bnd_some,bin_lss,hd,toBK_bool,cond_false]
 | succ d ih =>
  intro i m hi hm
  obtain ⟨m,rfl⟩ : ∃ r,m = r + 1 := ⟨m - 1,by omega⟩
  have hd : decide ((i : Int) < (l.length : Int)) = true := by rw [decide_eq_true_iff]; omega
  obtain ⟨e,he⟩ : ∃ e,l[i]? = some e := ⟨l[i],List.getElem?_eq_getElem (by omega)⟩
  obtain ⟨id,off,cells,own,ix,_,hg,h4,h5,_⟩ := s5.at (i := i) (e := e.cells) (by rw [List.getElem?_map,he]; rfl) .i64
  have ld : A.load true 7 (.pointer (some ⟨id,off,none⟩)) h = some (.agg ⟨e.cells⟩) := load_of hg h4 h5
  obtain ⟨id',off',cells',own',ix',_,hg',h4',h5',_⟩ := s7.at (i := i) (e := e.cells) (by rw [List.getElem?_map,he]; rfl) .i64
  have ld' : A.load true 7 (.pointer (some ⟨id',off',none⟩)) h = some (.agg ⟨e.cells⟩) := load_of hg' h4' h5'
  have wi : IntKind.i64.wrap ((i : Int) + 1) = ((i + 1 : Nat) : Int) := wrap_succ (by omega)
  have := ih (i + 1) m (by omega) (by omega)
  simp only [pavK,papF,hl,bnd_some,bin_lss,hd,toBK_bool,cond_true,ix,ld,ix',ld',ent_refl,cond_false,bin_add,wi,this]
theorem rowA_len (full : List UInt8) : ∀ d j,(rowA full d j).length ≤ d
 | 0,_ => Nat.le_refl _
 | d + 1,j => by
  show (if j < full.length then (entA full j).1 :: rowA full d (entA full j).2 else []).length ≤ d + 1
  split
  · have := rowA_len full d (entA full j).2
    simp only [List.length_cons]; omega
  · simp
section
variable {Q : Orc} (kd : KnD Q) (aw : Q 4 [] = some (.bool true))
include kd aw
theorem law3 (n : Nat) {h : H} {x : Value} {full : List UInt8} (sl : SliceE 1 h x (full.map fun b => [u8 b])) : ∃ h',callO prog 0 Q (n + 2024) 3 [x] h = some (.bool true,h') := by
 rw [F3eq Q (n + 2023) _ h (kd.kn.fr 3 _ (by decide))]
 have hl : A.lenS x = some (.int .i64 (full.length : Int)) := by have := sl.len.1; rwa [List.length_map] at this
 have c4 : ∀ h,callO prog 0 Q (n + 2023) 4 [] h = some (.bool true,h) := fun h => callO_known aw (n + 2022) h
 by_cases hb : 4000 < full.length
 · have d1 : decide ((4000 : Int) < (full.length : Int)) = true := by rw [decide_eq_true_iff]; omega
   refine ⟨h,?_⟩
   simp only [F3,p3a,pajH,pajI,hl,bnd_some,bin_gtr,d1,toBK_bool,cond_true,c4,bnd2_some]
 have d1 : decide ((4000 : Int) < (full.length : Int)) = false := by rw [decide_eq_false_iff_not]; omega
 obtain ⟨h1,x3,O,e1,x1,s3,hO,hv⟩ : ∃ h1 x3 O,A.append 1 1 (.slice none 0 0) x h = some (x3,h1) ∧ Ext h h1 ∧ SliceE 1 h1 x3 (full.map fun b => [u8 b]) ∧ O ≤ h1.next ∧ ((x3 = .slice none 0 0 ∧ full = []) ∨ (x3 = .slice (some ⟨O,0,none⟩) full.length (2 * full.length) ∧ O < h1.next ∧ h1.get O = some (.cells (full.map u8) (some 1)))) := by
  by_cases h0 : full = []
  · subst h0
    have he : A.elems 1 x h = some [] := by rw [sl.elems]; rfl
    have hlo : A.lenOf x = 0 := sl.len.2
    refine ⟨h,.slice none 0 0,h.next,?_,Ext.refl h,(Vec.nil 1 h).slice,Nat.le_refl _,.inl ⟨rfl,rfl⟩⟩
    simp only [A.append,he,hlo]; rfl
  · obtain ⟨h1,e,v,nn,y⟩ := append_vec (bs := 1) (Vec.nil 1 h) sl (by simpa using h0) (by omega) (by rw [List.length_map]; simp; omega) (by rw [List.length_map]; simp; omega)
    have hx : Ext h h1 := ⟨y.next,fun i hi => y.get i hi (by simp [sid])⟩
    rw [List.nil_append] at v
    simp only [List.length_nil,Nat.zero_add,List.length_map] at e v
    refine ⟨h1,_,h.next,e,hx,v.slice,by omega,.inr ⟨rfl,by omega,?_⟩⟩
    rcases v.2 with ⟨hn,_⟩ | ⟨q,hq,_,hg⟩
    · cases hn
    · injection hq with hq _ _
      injection hq with hq
      injection hq with hq
      rw [hq,hg,flat_u8]
 obtain ⟨h2,w5,e5,s5,x2⟩ := T5 kd.kn n hO hv
 obtain ⟨h3,hh3⟩ : ∃ h3,h3 = h2.push (.cells ScA.Z25L (some 0)) := ⟨_,rfl⟩
 have b3 : A.box 5 ScA.Z25 h2 = some (ptrV h2.next,h3) := by rw [hh3]; rfl
 have x3' : Ext h2 h3 := by rw [hh3]; exact Ext.push h2 _
 have n3 : h3.next = h2.next + 1 := by rw [hh3]; rfl
 obtain ⟨h4,hh4⟩ : ∃ h4,h4 = h3.put h2.next (.cells (cfgA full) (some 0)) := ⟨_,rfl⟩
 have b4 : A.store 5 (ptrV h2.next) (.agg ⟨cfgA full⟩) h3 = some h4 := by rw [store_eq,hh3,H.get_push,if_pos rfl,← hh3,hh4]; rfl
 have x4 : Ext h2 h4 := by rw [hh4]; exact x3'.put _ _ (Nat.le_refl _)
 have n4 : h4.next = h2.next + 1 := by rw [hh4]; exact n3
 have g4 : h4.get h2.next = some (.cells (cfgA full) (some 0)) := by rw [hh4,H.get_put,if_pos rfl]
 obtain ⟨h5,w6,e6,s6,x5⟩ := T6 kd (n + 997) (((sl.ext x1).ext x2).ext x4) (by omega)
 have e6 : callO prog 0 Q (n + 2023) 6 [x] h4 = _ := e6
 obtain ⟨h6,hh6⟩ : ∃ h6,h6 = h5.push (.cells ScA.Z25L (some 0)) := ⟨_,rfl⟩
 have b6 : A.box 5 ScA.Z25 h5 = some (ptrV h5.next,h6) := by rw [hh6]; rfl
 have x6 : Ext h5 h6 := by rw [hh6]; exact Ext.push h5 _
 obtain ⟨h7,hh7⟩ : ∃ h7,h7 = h6.put h5.next (.cells (cfgA full) (some 0)) := ⟨_,rfl⟩
 have b7 : A.store 5 (ptrV h5.next) (.agg ⟨cfgA full⟩) h6 = some h7 := by rw [store_eq,hh6,H.get_push,if_pos rfl,← hh6,hh7]; rfl
 have x7 : Ext h5 h7 := by rw [hh7]; exact x6.put _ _ (Nat.le_refl _)
 have l4 : A.load true 5 (ptrV h2.next) h7 = some (.agg ⟨cfgA full⟩) := by
  rw [loadN_eq,x7.get _ (by have := x5.next; omega),x5.get _ (by omega),g4]; rfl
 have l7 : A.load true 5 (ptrV h5.next) h7 = some (.agg ⟨cfgA full⟩) := by rw [loadN_eq,hh7,H.get_put,if_pos rfl]; rfl
 have t0 : ∀ w,A.extract 0 (.tuple ⟨[.agg ⟨cfgA full⟩,w]⟩) = some (.agg ⟨cfgA full⟩) := fun w => rfl
 have t1 : ∀ w,A.extract 1 (.tuple ⟨[.agg ⟨cfgA full⟩,w]⟩) = some w := fun w => rfl
 obtain ⟨R,hR⟩ : ∃ R,R = rowA full 1000 (nxN full 5 0) := ⟨_,rfl⟩
 rw [← hR] at s5 s6
 have hRl : R.length ≤ 1000 := by rw [hR]; exact rowA_len full 1000 _
 have s5' := ((s5.ext x4).ext x5).ext x7
 have s6' := s6.ext x7
 have hl5 : A.lenS w5 = some (.int .i64 (R.length : Int)) := by have := s5'.len.1; rwa [List.length_map] at this
 have hl6 : A.lenS w6 = some (.int .i64 (R.length : Int)) := by have := s6'.len.1; rwa [List.length_map] at this
 have bo := b2s_sl ((((s3.ext x2).ext x4).ext x5).ext x7)
 have bx := b2s_sl (((((sl.ext x1).ext x2).ext x4).ext x5).ext x7)
 have cr := cfg_refl full
 have loop := fun (kr : Value → H → Option (Value × H)) (kx : H → Option (Value × H)) => lp3 (callO prog 0 Q (n + 2023)) (n + 2023) kr kx s6' s5' hRl R.length 0 (n + 2023) (by omega) (by omega)
 have loop : ∀ (kr : Value → H → Option (Value × H)) (kx : H → Option (Value × H)),pavK (callO prog 0 Q (n + 2023)) (n + 2023) kr kx (n + 2023) (.int .i64 0) w6 w5 h7 = kx h7 := loop
 refine ⟨h7,?_⟩
 generalize n + 2023 = M at c4 e5 e6 loop ⊢
 simp only [F3,p3a,pajH,pajI,hl,bnd_some,bin_gtr,d1,toBK_bool,cond_false,pakE,pacV,e1,bnd2_some,pamO,e5,t0,t1,b3,b4,pavG,e6,b6,b7,palN,pavH,l4,l7,cr,hl5,hl6,neqi,bo,bx,neqs,pavI,condV_bool,paiJ,pavJ,pakA,palO,loop,pavL,c4]
end
end Go.Proofs.YtdljlmpleibkiaaGreatDoor.Sc

namespace Go.Proofs.YtdljlmpleibkiaaGreatDoor.Sc
open Go Go.AM
def t1 : Tab := texts.map (fun s => (144,[str s],.tuple ⟨[str (fieldB s),.int .i64 0]⟩)) ++ clients.map (fun s => (140,[str s],.bool true)) ++ names.map (fun s => (141,[str s],.bool true)) ++ filters.map (fun s => (142,[str s],.bool true))
def t2 : Tab := (List.range 128).map fun n : Nat => (84,[.int .i64 (n : Int)],.tuple ⟨[str [UInt8.ofNat n],.int .i64 0]⟩)
def t3 : Tab := (List.range 128).map fun n : Nat => (105,[.int .i64 (n : Int)],.int .i64 1)
def t4 : Tab := names.map (fun s => (62,[str s],.bool true)) ++ clients.map (fun s => (89,[str s],.bool true)) ++ filters.map (fun s => (88,[str s],.bool true)) ++ texts.map (fun s => (66,[str s],str (fieldB s)))
def t5 : Tab := kinds.map (fun k : Nat => (57,[.int .u8 (k : Int)],str (fldN k)))
def t6 : Tab := (kinds.map fun k : Nat => letters.map fun c => (63,[str (fldN k),.int .u8 (c.toNat : Int)],Value.bool (hasL k c))).flatten
def t7 : Tab := (List.range 256).map fun n : Nat => (67,[.int .u16 (n : Int)],str (wordB n))
def t8 : Tab := (List.range 128).map fun n : Nat => (41,[.int .i64 (n : Int)],.tuple ⟨[str [UInt8.ofNat n],.int .i64 0]⟩)
def tab : Tab := [(4,[],.bool true)] ++ t1 ++ t2 ++ t3 ++ t4 ++ t5 ++ t6 ++ t7 ++ t8
end Go.Proofs.YtdljlmpleibkiaaGreatDoor.Sc
