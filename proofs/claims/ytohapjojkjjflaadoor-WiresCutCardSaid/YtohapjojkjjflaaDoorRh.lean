import Derived.Test.YtohapjojkjjflaaDoorRg
namespace Go.Proofs.YtohapjojkjjflaaDoor.Wc
open Go Go.AM WcA
theorem ixS {l : List UInt8} {i : Nat} {b : UInt8} (h : l[i]? = some b) : A.indexStr (str l) (.int .i64 (i : Int)) = some (u8 b) := by
 show (match l[i]? with | some b => some (Value.int .u8 b.toNat) | none => none) = _
 rw [h]
theorem slS {l : List UInt8} {k : Nat} (h : k ≤ l.length) : A.sliceStr (str l) (some (.int .i64 (k : Int))) none = some (str (l.drop k)) := by
 show (match (bif Nat.ble k l.length then some (some k) else none) with | none => none | some a => some (Value.string ⟨⟨(l.drop (a.getD 0)).take (l.length - a.getD 0)⟩⟩)) = _
 rw [show Nat.ble k l.length = true from ble_iff.2 h]
 simp only [cond_true,Option.getD_some]
 rw [List.take_of_length_le (by rw [List.length_drop]; exact Nat.le_refl _)]
theorem slS2 {l : List UInt8} {a b : Nat} (h : a ≤ b) (hb : b ≤ l.length) : A.sliceStr (str l) (some (.int .i64 (a : Int))) (some (.int .i64 (b : Int))) = some (str ((l.drop a).take (b - a))) := by
 show (match (bif Nat.ble b l.length then some (some b) else none) with | none => none | some h => match A.bound (h.getD l.length) (some (.int .i64 (a : Int))) with | none => none | some q => some (Value.string ⟨⟨(l.drop (q.getD 0)).take (h.getD l.length - q.getD 0)⟩⟩)) = _
 rw [show Nat.ble b l.length = true from ble_iff.2 hb]
 simp only [cond_true,Option.getD_some]
 show (match (bif Nat.ble a b then some (some a) else none) with | none => none | some q => some (Value.string ⟨⟨(l.drop (q.getD 0)).take (b - q.getD 0)⟩⟩)) = _
 rw [show Nat.ble a b = true from ble_iff.2 h]
 simp only [cond_true,Option.getD_some]
section
variable {Q : Orc} (ka : KnA Q) {h : H}
include ka
theorem T54 (k : Nat) (l : List UInt8) (hl : l.length ≤ 1001000) : callO Tryd.prog 2 Q (k + 1) 59 [str l] h = some (match wrd l with | some n => .tuple ⟨[.int .i64 (n : Int),.int .i64 2,.int .i64 0]⟩ | none => .tuple ⟨[.int .i64 0,.int .i64 0,.int .i64 2]⟩,h) := by
 rw [F59eq Q k _ h (ka.fr 59 _ (by decide))]
 match l,hl with
 | [],_ =>
  have d : decide ((([] : List UInt8).length : Int) < 2) = true := rfl
  simp only [F59,p59a,qJ,qZ,zZ,d,qQ,cond_true]; rfl
 | [a],_ =>
  have d : decide (([a].length : Int) < 2) = true := rfl
  simp only [F59,p59a,qJ,qZ,zZ,d,qQ,cond_true]; rfl
 | a :: b :: r,hl =>
  have d : decide (((a :: b :: r).length : Int) < 2) = false := by rw [decide_eq_false_iff_not]; simp only [List.length_cons]; omega
  have i0 : A.indexStr (str (a :: b :: r)) (.int .i64 0) = some (u8 a) := ixS (i := 0) rfl
  have i1 : A.indexStr (str (a :: b :: r)) (.int .i64 1) = some (u8 b) := ixS (i := 1) rfl
  have ca := conv53 a.toNat a.toNat_lt
  have cb := conv53 b.toNat b.toNat_lt
  obtain ⟨x,s1,s2⟩ := or_word a b
  simp only [F59,p59a,qJ,qZ,zZ,d,qQ,cond_false,i0,ca,s1,i1,cb,s2]; rfl
theorem T76 (k : Nat) (l : List UInt8) (hl : l.length ≤ 1001000) : callO Tryd.prog 2 Q (k + 2) 64 [str l] h = some (match getD l with | some (d,u) => .tuple ⟨[str d,.int .i64 (u : Int),.int .i64 0]⟩ | none => .tuple ⟨[str [],.int .i64 0,.int .i64 2]⟩,h) := by
 rw [F64eq Q (k + 1) _ h (ka.fr 64 _ (by decide))]
 have e54 := T54 ka (h := h) k l hl
 cases hw : wrd l with
 | none =>
  rw [hw] at e54
  have hg : getD l = none := by unfold getD; rw [hw]
  rw [hg]
  have t0 : A.extract 0 (.tuple ⟨[.int .i64 0,.int .i64 0,.int .i64 2]⟩) = some (.int .i64 0) := rfl
  have t1 : A.extract 1 (.tuple ⟨[.int .i64 0,.int .i64 0,.int .i64 2]⟩) = some (.int .i64 0) := rfl
  have t2 : A.extract 2 (.tuple ⟨[.int .i64 0,.int .i64 0,.int .i64 2]⟩) = some (.int .i64 2) := rfl
  have d : (!decide ((2 : Int) = 0)) = true := rfl
  simp only [F64,p64a,e54,qX,t0,t1,t2,qZ,bin_neq,d,qQ,cond_true]
 | some n =>
  rw [hw] at e54
  have h2 : 2 ≤ l.length := by
   match l,hw with
   | a :: b :: r,_ => simp only [List.length_cons]; omega
  have hn : n < 65536 := by
   match l,hw with
   | a :: b :: r,hw =>
    simp only [wrd,Option.some.injEq] at hw
    have := a.toNat_lt
    have := b.toNat_lt
    omega
  have t0 : A.extract 0 (.tuple ⟨[.int .i64 (n : Int),.int .i64 2,.int .i64 0]⟩) = some (.int .i64 (n : Int)) := rfl
  have t1 : A.extract 1 (.tuple ⟨[.int .i64 (n : Int),.int .i64 2,.int .i64 0]⟩) = some (.int .i64 2) := rfl
  have t2 : A.extract 2 (.tuple ⟨[.int .i64 (n : Int),.int .i64 2,.int .i64 0]⟩) = some (.int .i64 0) := rfl
  have d : A.bin Tryd.prog .neq 31 (.int .i64 0) (.int .i64 0) = some (.bool false) := by rw [bin_neq]; rfl
  have w1 : IntKind.i64.wrap ((l.length : Int) - 2) = ((l.length - 2 : Nat) : Int) := by rw [wrap64 (by omega) (by omega)]; omega
  by_cases hle : n ≤ l.length - 2
  · have hg : getD l = some ((l.drop 2).take n,2 + n) := by unfold getD; rw [hw]; exact if_pos hle
    rw [hg]
    have d2 : decide (((l.length - 2 : Nat) : Int) < (n : Int)) = false := by rw [decide_eq_false_iff_not]; omega
    have w2 : IntKind.i64.wrap ((2 : Int) + (n : Int)) = ((2 + n : Nat) : Int) := by rw [wrap64 (by omega) (by omega)]; omega
    have sl : A.sliceStr (str l) (some (.int .i64 2)) (some (.int .i64 ((2 + n : Nat) : Int))) = some (str ((l.drop 2).take (2 + n - 2))) := slS2 (a := 2) (b := 2 + n) (by omega) (by omega)
    have e2 : 2 + n - 2 = n := by omega
    rw [e2] at sl
    simp only [F64,p64a,e54,qX,t0,t1,t2,qZ,d,qQ,cond_false,qJ,bin_sub,w1,zY,d2,bin_add,w2,sl]
  · have hg : getD l = none := by unfold getD; rw [hw]; exact if_neg hle
    rw [hg]
    have d2 : decide (((l.length - 2 : Nat) : Int) < (n : Int)) = true := by rw [decide_eq_true_iff]; omega
    simp only [F64,p64a,e54,qX,t0,t1,t2,qZ,d,qQ,cond_false,cond_true,qJ,bin_sub,w1,zY,d2]
end
end Go.Proofs.YtohapjojkjjflaaDoor.Wc

namespace Go.Proofs.YtohapjojkjjflaaDoor.Wc
open Go Go.AM WcA
structure RS (h : H) (r : Nat) (l : List UInt8) (bad : Bool) (p : Pq) (w : Value) : Prop where
 get : h.get r = some (.cells (str l :: .bool bad :: p.cells w) (some 0))
 lt : r < h.next
theorem RS.but {S : Nat → Prop} {h h' : H} {r : Nat} {l : List UInt8} {bad : Bool} {p : Pq} {w : Value} (s : RS h r l bad p w) (x : ExtBut S h h') (n : ¬ S r) : RS h' r l bad p w := ⟨by rw [x.get r s.lt n]; exact s.get,Nat.lt_of_lt_of_le s.lt x.next⟩
theorem RS.ext {h h' : H} {r : Nat} {l : List UInt8} {bad : Bool} {p : Pq} {w : Value} (s : RS h r l bad p w) (x : Ext h h') : RS h' r l bad p w := s.but (S := fun _ => False) x.but (fun h => h)
theorem RS.ld {h : H} {r : Nat} {l : List UInt8} {bad : Bool} {p : Pq} {w : Value} (s : RS h r l bad p w) {i : Nat} {v : Value} (hv : (str l :: .bool bad :: p.cells w)[i]? = some v) : A.load false 1 (.pointer (some ⟨r,i,none⟩)) h = some v := by
 rw [qK,s.get]; exact hv
theorem RS.set {h : H} {r : Nat} {l l' : List UInt8} {bad bad' : Bool} {p p' : Pq} {w w' : Value} (s : RS h r l bad p w) {i : Nat} {v : Value} (hi : i < 26) (hv : cellsL v = some [v]) (hp : (str l' :: .bool bad' :: p'.cells w') = (str l :: .bool bad :: p.cells w).set i v) :
 ∃ h',A.store 1 (.pointer (some ⟨r,i,none⟩)) v h = some h' ∧ RS h' r l' bad' p' w' ∧ ExtBut (fun j => j = r) h h' ∧ h'.next = h.next := by
 obtain ⟨h',hh⟩ : ∃ h',h' = h.put r (.cells (str l' :: .bool bad' :: p'.cells w') (some 0)) := ⟨_,rfl⟩
 refine ⟨h',?_,⟨by rw [hh,H.get_put,if_pos rfl],by rw [hh]; exact s.lt⟩,by rw [hh]; exact ExtBut.put ⟨Nat.le_refl _,fun _ _ _ => rfl⟩ r _ rfl,by rw [hh]; rfl⟩
 have hl : (str l :: .bool bad :: p.cells w).length = 26 := rfl
 have e1 : Nat.ble (i + 1) (str l :: .bool bad :: p.cells w).length = true := ble_iff.2 (by omega)
 have e0 : Nat.beq [v].length 1 = true := rfl
 rw [qU,s.get,hv]
 simp only [e0,e1,Bool.and_self,cond_true,splice_one (by omega : i < (str l :: .bool bad :: p.cells w).length)]
 rw [hh,hp]
section
variable {Q : Orc} (ka : KnA Q) {h : H} {r : Nat} {l : List UInt8} {bad : Bool} {p : Pq} {w : Value}
include ka
theorem T31 (k : Nat) (s : RS h r l bad p w) : ∃ h',callO Tryd.prog 2 Q (k + 1) 44 [ptrV r] h = some (.int .u8 ((oneL l).1 : Int),h') ∧ RS h' r (oneL l).2.1 (bad || (oneL l).2.2) p w ∧ ExtBut (fun j => j = r) h h' ∧ h'.next = h.next := by
 rw [F44eq Q k _ h (ka.fr 44 _ (by decide))]
 have l0 := s.ld (i := 0) rfl
 cases l with
 | nil =>
  obtain ⟨h',e,s',x,n⟩ := s.set (i := 1) (v := .bool true) (l' := []) (bad' := true) (p' := p) (w' := w) (by omega) rfl rfl
  have d : A.bin Tryd.prog .eql 9 (str []) (str []) = some (.bool true) := by rw [bin_str_eql]; simp
  refine ⟨h',?_,by rw [show (bad || (oneL []).2.2) = true by cases bad <;> rfl]; exact s',x,n⟩
  simp only [F44,p44a,qV,qZ,qY,Nat.zero_add,Nat.add_zero,l0,d,qQ,cond_true,e]
  rfl
 | cons b t =>
  obtain ⟨h',e,s',x,n⟩ := s.set (i := 0) (v := str t) (l' := t) (bad' := bad) (p' := p) (w' := w) (by omega) rfl rfl
  have d : A.bin Tryd.prog .eql 9 (str (b :: t)) (str []) = some (.bool false) := by
   rw [bin_str_eql]
   have : ¬ (⟨⟨b :: t⟩⟩ : ByteArray) = ⟨⟨[]⟩⟩ := fun e => by
    have e : b :: t = [] := congrArg (fun b : ByteArray => b.data.toList) e
    cases e
   rw [decide_eq_false this]
  have i0 : A.indexStr (str (b :: t)) (.int .i64 0) = some (u8 b) := ixS (i := 0) rfl
  have sl : A.sliceStr (str (b :: t)) (some (.int .i64 1)) none = some (str t) := slS (l := b :: t) (k := 1) (by simp)
  refine ⟨h',?_,by rw [show (bad || (oneL (b :: t)).2.2) = bad by cases bad <;> rfl]; exact s',x,n⟩
  simp only [F44,p44a,qV,qZ,qY,Nat.zero_add,Nat.add_zero,l0,d,qQ,cond_false,i0,sl,e]
  rfl
theorem T34 (k : Nat) (s : RS h r l bad p w) : ∃ h',callO Tryd.prog 2 Q (k + 1) 47 [ptrV r] h = some (str l,h') ∧ RS h' r [] bad p w ∧ ExtBut (fun j => j = r) h h' ∧ h'.next = h.next := by
 rw [F47eq Q k _ h (ka.fr 47 _ (by decide))]
 have l0 := s.ld (i := 0) rfl
 obtain ⟨h',e,s',x,n⟩ := s.set (i := 0) (v := str []) (l' := []) (bad' := bad) (p' := p) (w' := w) (by omega) rfl rfl
 refine ⟨h',?_,s',x,n⟩
 simp only [F47,p47a,qV,qZ,qY,Nat.zero_add,Nat.add_zero,l0,e]
theorem cut2 {h0 : H} (s : RS h r l bad p w) (x0 : ExtBut (fun j => j = r) h0 h) (no : Bool) {u : Nat} (hu : u ≤ l.length) :
 ∃ h1 h2,A.store 1 (.pointer (some ⟨r,1,none⟩)) (.bool (bad || no)) h = some h1 ∧ A.load false 1 (.pointer (some ⟨r,0,none⟩)) h1 = some (str l) ∧ A.sliceStr (str l) (some (.int .i64 (u : Int))) none = some (str (l.drop u)) ∧ A.store 1 (.pointer (some ⟨r,0,none⟩)) (str (l.drop u)) h1 = some h2 ∧
  RS h2 r (l.drop u) (bad || no) p w ∧ ExtBut (fun j => j = r) h0 h2 := by
 have _ := ka
 obtain ⟨h1,e1,s1,x1,n1⟩ := s.set (i := 1) (v := .bool (bad || no)) (l' := l) (bad' := bad || no) (p' := p) (w' := w) (by omega) rfl rfl
 obtain ⟨h2,e2,s2,x2,n2⟩ := s1.set (i := 0) (v := str (l.drop u)) (l' := l.drop u) (bad' := bad || no) (p' := p) (w' := w) (by omega) rfl rfl
 exact ⟨h1,h2,e1,s1.ld (i := 0) rfl,slS hu,e2,s2,(x0.trans x1).trans x2⟩
theorem T33 (k : Nat) (hl : l.length ≤ 1001000) (s : RS h r l bad p w) : ∃ h',callO Tryd.prog 2 Q (k + 2) 46 [ptrV r] h = some (.int .u16 ((wordL l).1 : Int),h') ∧ RS h' r (wordL l).2.1 (bad || (wordL l).2.2) p w ∧ ExtBut (fun j => j = r) h h' := by
 rw [F46eq Q (k + 1) _ h (ka.fr 46 _ (by decide))]
 have l0 := s.ld (i := 0) rfl
 have l1 := s.ld (i := 1) rfl
 have e54 := T54 ka (h := h) k l hl
 have refl : ExtBut (fun j => j = r) h h := ⟨Nat.le_refl _,fun _ _ _ => rfl⟩
 cases hw : wrd l with
 | none =>
  rw [hw] at e54
  have hr : wordL l = (0,l,true) := by unfold wordL; rw [hw]
  rw [hr]
  have t0 : A.extract 0 (.tuple ⟨[.int .i64 0,.int .i64 0,.int .i64 2]⟩) = some (.int .i64 0) := rfl
  have t1 : A.extract 1 (.tuple ⟨[.int .i64 0,.int .i64 0,.int .i64 2]⟩) = some (.int .i64 0) := rfl
  have t2 : A.extract 2 (.tuple ⟨[.int .i64 0,.int .i64 0,.int .i64 2]⟩) = some (.int .i64 2) := rfl
  have d : A.bin Tryd.prog .neq 31 (.int .i64 2) (.int .i64 0) = some (.bool true) := by rw [bin_neq]; rfl
  obtain ⟨h1,h2,a1,a2,a3,a4,a5,a6⟩ := cut2 ka s refl true (u := 0) (Nat.zero_le _)
  have a3 : A.sliceStr (str l) (some (.int .i64 0)) none = some (str (l.drop 0)) := a3
  have cv : A.conv Tryd.prog 3 25 (.int .i64 0) = some (.int .u16 0) := conv372 (n := 0) (by omega)
  refine ⟨h2,?_,a5,a6⟩
  cases bad with
  | true => simp only [F46,p46a,qV,qZ,qY,Nat.zero_add,Nat.add_zero,l0,e54,qX,t0,t1,t2,l1,qQ,cond_true,a1,a2,a3,a4,cv,Bool.true_or] at a1 ⊢; simp only [a1,qZ,a2,a3,a4,cv]; rfl
  | false => simp only [F46,p46a,qV,qZ,qY,Nat.zero_add,Nat.add_zero,l0,e54,qX,t0,t1,t2,l1,qQ,cond_false,d,Bool.false_or] at a1 ⊢; simp only [a1,qZ,a2,a3,a4,cv]; rfl
 | some n =>
  rw [hw] at e54
  obtain ⟨h2l,hn⟩ := wrd_len hw
  have hr : wordL l = (n,l.drop 2,false) := by unfold wordL; rw [hw]
  rw [hr]
  have t0 : A.extract 0 (.tuple ⟨[.int .i64 (n : Int),.int .i64 2,.int .i64 0]⟩) = some (.int .i64 (n : Int)) := rfl
  have t1 : A.extract 1 (.tuple ⟨[.int .i64 (n : Int),.int .i64 2,.int .i64 0]⟩) = some (.int .i64 2) := rfl
  have t2 : A.extract 2 (.tuple ⟨[.int .i64 (n : Int),.int .i64 2,.int .i64 0]⟩) = some (.int .i64 0) := rfl
  have d : A.bin Tryd.prog .neq 31 (.int .i64 0) (.int .i64 0) = some (.bool false) := by rw [bin_neq]; rfl
  obtain ⟨h1,h2,a1,a2,a3,a4,a5,a6⟩ := cut2 ka s refl false (u := 2) h2l
  have a3 : A.sliceStr (str l) (some (.int .i64 2)) none = some (str (l.drop 2)) := a3
  have cv : A.conv Tryd.prog 3 25 (.int .i64 (n : Int)) = some (.int .u16 (n : Int)) := conv372 hn
  refine ⟨h2,?_,a5,a6⟩
  cases bad with
  | true => simp only [F46,p46a,qV,qZ,qY,Nat.zero_add,Nat.add_zero,l0,e54,qX,t0,t1,t2,l1,qQ,cond_true,Bool.true_or] at a1 ⊢; simp only [a1,qZ,a2,a3,a4,cv]
  | false => simp only [F46,p46a,qV,qZ,qY,Nat.zero_add,Nat.add_zero,l0,e54,qX,t0,t1,t2,l1,qQ,cond_false,d,Bool.or_false] at a1 ⊢; simp only [a1,qZ,a2,a3,a4,cv]
end
end Go.Proofs.YtohapjojkjjflaaDoor.Wc

namespace Go.Proofs.YtohapjojkjjflaaDoor.Wc
open Go Go.AM WcA
structure VA (Q : Orc) (B : H) (val : List UInt8 → Bool) : Prop where
 n4 : 2 ≤ B.next
 va : ∀ (k : Nat) (h : H) (s : List UInt8),Ext B h → s.length ≤ 1000300 → ∃ h',callO Tryd.prog 2 Q (k + 1000400) 38 [str s] h = some (.bool (val s),h') ∧ Ext h h'
theorem VA.mono {Q : Orc} {B B' : H} {val : List UInt8 → Bool} (va : VA Q B val) (x : Ext B B') : VA Q B' val := ⟨Nat.le_trans va.n4 x.next,fun k h s hx => va.va k h s (x.trans hx)⟩
theorem base_but {B h h' : H} {r : Nat} (x : Ext B h) (y : ExtBut (fun j => j = r) h h') (hr : B.next ≤ r) : Ext B h' :=
 ⟨Nat.le_trans x.next y.next,fun i hi => by rw [y.get i (Nat.lt_of_lt_of_le hi x.next) (by omega)]; exact x.get i hi⟩
section
variable {Q : Orc} {B : H} {val : List UInt8 → Bool} (ka : KnA Q) (va : VA Q B val) {h : H} {r : Nat} {l : List UInt8} {bad : Bool} {p : Pq} {w : Value}
include ka
theorem T52 (k : Nat) (hl : l.length ≤ 1000300) (s : RS h r l bad p w) : ∃ h',callO Tryd.prog 2 Q (k + 3) 57 [ptrV r] h = some (str (dataL l).1,h') ∧ RS h' r (dataL l).2.1 (bad || (dataL l).2.2) p w ∧ ExtBut (fun j => j = r) h h' := by
 rw [F57eq Q (k + 2) _ h (ka.fr 57 _ (by decide))]
 have l0 := s.ld (i := 0) rfl
 have l1 := s.ld (i := 1) rfl
 have e76 := T76 ka (h := h) k l (by omega)
 have refl : ExtBut (fun j => j = r) h h := ⟨Nat.le_refl _,fun _ _ _ => rfl⟩
 cases hg : getD l with
 | none =>
  rw [hg] at e76
  have hr : dataL l = ([],l,true) := by unfold dataL; rw [hg]
  rw [hr]
  have t0 : A.extract 0 (.tuple ⟨[str [],.int .i64 0,.int .i64 2]⟩) = some (str []) := rfl
  have t1 : A.extract 1 (.tuple ⟨[str [],.int .i64 0,.int .i64 2]⟩) = some (.int .i64 0) := rfl
  have t2 : A.extract 2 (.tuple ⟨[str [],.int .i64 0,.int .i64 2]⟩) = some (.int .i64 2) := rfl
  have d : A.bin Tryd.prog .neq 31 (.int .i64 2) (.int .i64 0) = some (.bool true) := by rw [bin_neq]; rfl
  obtain ⟨h1,h2,a1,a2,a3,a4,a5,a6⟩ := cut2 ka s refl true (u := 0) (Nat.zero_le _)
  have a3 : A.sliceStr (str l) (some (.int .i64 0)) none = some (str (l.drop 0)) := a3
  refine ⟨h2,?_,a5,a6⟩
  cases bad with
  | true => simp only [F57,p57a,qV,qZ,qY,Nat.zero_add,Nat.add_zero,l0,e76,qX,t0,t1,t2,l1,qQ,cond_true,Bool.true_or] at a1 ⊢; simp only [a1,qZ,a2,a3,a4]
  | false => simp only [F57,p57a,qV,qZ,qY,Nat.zero_add,Nat.add_zero,l0,e76,qX,t0,t1,t2,l1,qQ,cond_false,d,Bool.false_or] at a1 ⊢; simp only [a1,qZ,a2,a3,a4]
 | some du =>
  obtain ⟨d',u⟩ := du
  rw [hg] at e76
  obtain ⟨hu,_,_⟩ := getD_len hg
  have hr : dataL l = (d',l.drop u,false) := by unfold dataL; rw [hg]
  rw [hr]
  have t0 : A.extract 0 (.tuple ⟨[str d',.int .i64 (u : Int),.int .i64 0]⟩) = some (str d') := rfl
  have t1 : A.extract 1 (.tuple ⟨[str d',.int .i64 (u : Int),.int .i64 0]⟩) = some (.int .i64 (u : Int)) := rfl
  have t2 : A.extract 2 (.tuple ⟨[str d',.int .i64 (u : Int),.int .i64 0]⟩) = some (.int .i64 0) := rfl
  have d : A.bin Tryd.prog .neq 31 (.int .i64 0) (.int .i64 0) = some (.bool false) := by rw [bin_neq]; rfl
  obtain ⟨h1,h2,a1,a2,a3,a4,a5,a6⟩ := cut2 ka s refl false (u := u) hu
  refine ⟨h2,?_,a5,a6⟩
  cases bad with
  | true => simp only [F57,p57a,qV,qZ,qY,Nat.zero_add,Nat.add_zero,l0,e76,qX,t0,t1,t2,l1,qQ,cond_true,Bool.true_or] at a1 ⊢; simp only [a1,qZ,a2,a3,a4]
  | false => simp only [F57,p57a,qV,qZ,qY,Nat.zero_add,Nat.add_zero,l0,e76,qX,t0,t1,t2,l1,qQ,cond_false,d,Bool.or_false] at a1 ⊢; simp only [a1,qZ,a2,a3,a4]
include va
theorem T53 (k : Nat) (hl : l.length ≤ 1000300) (hB : Ext B h) : ∃ h',callO Tryd.prog 2 Q (k + 1000401) 58 [str l] h = some (match getD l with | some (d,u) => (if val d then .tuple ⟨[str d,.int .i64 (u : Int),.int .i64 0]⟩ else .tuple ⟨[str [],.int .i64 0,.int .i64 5]⟩) | none => .tuple ⟨[str [],.int .i64 0,.int .i64 2]⟩,h') ∧ Ext h h' := by
 rw [F58eq Q (k + 1000400) _ h (ka.fr 58 _ (by decide))]
 have e76 : callO Tryd.prog 2 Q (k + 1000400) 64 [str l] h = _ := T76 ka (h := h) (k + 1000398) l (by omega)
 cases hg : getD l with
 | none =>
  rw [hg] at e76
  have t0 : A.extract 0 (.tuple ⟨[str [],.int .i64 0,.int .i64 2]⟩) = some (str []) := rfl
  have t1 : A.extract 1 (.tuple ⟨[str [],.int .i64 0,.int .i64 2]⟩) = some (.int .i64 0) := rfl
  have t2 : A.extract 2 (.tuple ⟨[str [],.int .i64 0,.int .i64 2]⟩) = some (.int .i64 2) := rfl
  have d : A.bin Tryd.prog .eql 31 (.int .i64 2) (.int .i64 0) = some (.bool false) := by rw [zQ]; rfl
  refine ⟨h,?_,Ext.refl h⟩
  simp only [F58,p58a,e76,qX,t0,t1,t2,qZ,d,qQ,cond_false]
 | some du =>
  obtain ⟨d',u⟩ := du
  rw [hg] at e76
  obtain ⟨hu,_,hdl⟩ := getD_len hg
  have t0 : A.extract 0 (.tuple ⟨[str d',.int .i64 (u : Int),.int .i64 0]⟩) = some (str d') := rfl
  have t1 : A.extract 1 (.tuple ⟨[str d',.int .i64 (u : Int),.int .i64 0]⟩) = some (.int .i64 (u : Int)) := rfl
  have t2 : A.extract 2 (.tuple ⟨[str d',.int .i64 (u : Int),.int .i64 0]⟩) = some (.int .i64 0) := rfl
  have d : A.bin Tryd.prog .eql 31 (.int .i64 0) (.int .i64 0) = some (.bool true) := by rw [zQ]; rfl
  obtain ⟨h1,e77,x1⟩ := va.va k h d' hB (by omega)
  refine ⟨h1,?_,x1⟩
  cases hv : val d' with
  | true =>
   rw [hv] at e77
   simp only [F58,p58a,e76,qX,t0,t1,t2,qZ,d,qQ,cond_true,e77,un_not,Bool.not_true,cond_false,hv,if_true]
  | false =>
   rw [hv] at e77
   simp only [F58,p58a,e76,qX,t0,t1,t2,qZ,d,qQ,cond_true,e77,un_not,Bool.not_false,hv]
   rfl
theorem T32 (k : Nat) (hl : l.length ≤ 1000300) (hB : Ext B h) (s : RS h r l bad p w) : ∃ h',callO Tryd.prog 2 Q (k + 1000402) 45 [ptrV r] h = some (str (textL val l).1,h') ∧ RS h' r (textL val l).2.1 (bad || (textL val l).2.2) p w ∧ ExtBut (fun j => j = r) h h' := by
 rw [F45eq Q (k + 1000401) _ h (ka.fr 45 _ (by decide))]
 have l0 := s.ld (i := 0) rfl
 obtain ⟨ha,e53,xa⟩ := T53 ka va (h := h) (l := l) k hl hB
 have sa := s.ext xa
 have l1 := sa.ld (i := 1) rfl
 have no : ∀ c : Int,c ≠ 0 → callO Tryd.prog 2 Q (k + 1000401) 58 [str l] h = some (.tuple ⟨[str [],.int .i64 0,.int .i64 c]⟩,ha) → ∃ h',F45 (callO Tryd.prog 2 Q (k + 1000401)) (k + 1000401) (ptrV r) h = some (str [],h') ∧ RS h' r l (bad || true) p w ∧ ExtBut (fun j => j = r) h h' := by
  intro c hc e53
  have t0 : A.extract 0 (.tuple ⟨[str [],.int .i64 0,.int .i64 c]⟩) = some (str []) := rfl
  have t1 : A.extract 1 (.tuple ⟨[str [],.int .i64 0,.int .i64 c]⟩) = some (.int .i64 0) := rfl
  have t2 : A.extract 2 (.tuple ⟨[str [],.int .i64 0,.int .i64 c]⟩) = some (.int .i64 c) := rfl
  have d : A.bin Tryd.prog .neq 31 (.int .i64 c) (.int .i64 0) = some (.bool true) := by rw [bin_neq,decide_eq_false hc]; rfl
  obtain ⟨h1,h2,a1,a2,a3,a4,a5,a6⟩ := cut2 ka sa xa.but true (u := 0) (Nat.zero_le _)
  have a3 : A.sliceStr (str l) (some (.int .i64 0)) none = some (str (l.drop 0)) := a3
  refine ⟨h2,?_,a5,a6⟩
  cases bad with
  | true => simp only [F45,p45a,qV,qZ,qY,Nat.zero_add,Nat.add_zero,l0,e53,qX,t0,t1,t2,l1,qQ,cond_true,Bool.true_or] at a1 ⊢; simp only [a1,qZ,a2,a3,a4]
  | false => simp only [F45,p45a,qV,qZ,qY,Nat.zero_add,Nat.add_zero,l0,e53,qX,t0,t1,t2,l1,qQ,cond_false,d,Bool.false_or] at a1 ⊢; simp only [a1,qZ,a2,a3,a4]
 cases hg : getD l with
 | none =>
  rw [hg] at e53
  have hr : textL val l = ([],l,true) := by unfold textL; rw [hg]
  rw [hr]
  exact no 2 (by omega) e53
 | some du =>
  obtain ⟨d',u⟩ := du
  rw [hg] at e53
  obtain ⟨hu,_,hdl⟩ := getD_len hg
  cases hv : val d' with
  | false =>
   simp only [hv,Bool.false_eq_true,if_false] at e53
   have hr : textL val l = ([],l,true) := by unfold textL; rw [hg]; simp only [hv]; rfl
   rw [hr]
   exact no 5 (by omega) e53
  | true =>
   simp only [hv,if_true] at e53
   have hr : textL val l = (d',l.drop u,false) := by unfold textL; rw [hg]; simp only [hv]; rfl
   rw [hr]
   have t0 : A.extract 0 (.tuple ⟨[str d',.int .i64 (u : Int),.int .i64 0]⟩) = some (str d') := rfl
   have t1 : A.extract 1 (.tuple ⟨[str d',.int .i64 (u : Int),.int .i64 0]⟩) = some (.int .i64 (u : Int)) := rfl
   have t2 : A.extract 2 (.tuple ⟨[str d',.int .i64 (u : Int),.int .i64 0]⟩) = some (.int .i64 0) := rfl
   have d : A.bin Tryd.prog .neq 31 (.int .i64 0) (.int .i64 0) = some (.bool false) := by rw [bin_neq]; rfl
   obtain ⟨h1,h2,a1,a2,a3,a4,a5,a6⟩ := cut2 ka sa xa.but false (u := u) hu
   refine ⟨h2,?_,a5,a6⟩
   cases bad with
   | true => simp only [F45,p45a,qV,qZ,qY,Nat.zero_add,Nat.add_zero,l0,e53,qX,t0,t1,t2,l1,qQ,cond_true,Bool.true_or] at a1 ⊢; simp only [a1,qZ,a2,a3,a4]
   | false => simp only [F45,p45a,qV,qZ,qY,Nat.zero_add,Nat.add_zero,l0,e53,qX,t0,t1,t2,l1,qQ,cond_false,d,Bool.or_false] at a1 ⊢; simp only [a1,qZ,a2,a3,a4]
end
end Go.Proofs.YtohapjojkjjflaaDoor.Wc

namespace Go.Proofs.YtohapjojkjjflaaDoor.Wc
open Go Go.AM WcA
theorem bits {m : Nat} (hm : m ∈ [1,2,4,8,32,64,128]) {c : Nat} (hc : c < 256) : ∃ x : Int,A.bin Tryd.prog .and 5 (.int .u8 (c : Int)) (.int .u8 (m : Int)) = some (.int .u8 x) ∧ decide ((0 : Int) < x) = bitB m c := by
 have all : ([1,2,4,8,32,64,128].all fun m : Nat => (List.range 256).all fun c => match A.bin Tryd.prog .and 5 (.int .u8 (c : Int)) (.int .u8 (m : Int)) with | some (.int .u8 x) => decide ((0 : Int) < x) == bitB m c | _ => false) = true := by kernel_rfl
 have := List.all_eq_true.1 (List.all_eq_true.1 all m hm) c (List.mem_range.2 hc)
 split at this
 · rename_i x hx
   exact ⟨x,hx,by simpa using this⟩
 · cases this
theorem shr3b {s : Nat} (hs : s ∈ [1,3]) {c : Nat} (hc : c < 256) : ∃ x : Int,A.bin Tryd.prog .shr 5 (.int .u8 (c : Int)) (.int .u64 (s : Int)) = some (.int .u8 x) ∧ A.bin Tryd.prog .and 5 (.int .u8 x) (.int .u8 3) = some (.int .u8 ((c / 2 ^ s % 4 : Nat) : Int)) := by
 have all : ([1,3].all fun s : Nat => (List.range 256).all fun c => match A.bin Tryd.prog .shr 5 (.int .u8 (c : Int)) (.int .u64 (s : Int)) with | some (.int .u8 x) => (match A.bin Tryd.prog .and 5 (.int .u8 x) (.int .u8 3) with | some v => AM.same v (.int .u8 ((c / 2 ^ s % 4 : Nat) : Int)) | none => false) | _ => false) = true := by kernel_rfl
 have := List.all_eq_true.1 (List.all_eq_true.1 all s hs) c (List.mem_range.2 hc)
 split at this
 · rename_i x hx
   split at this
   · rename_i v hv
     exact ⟨x,hx,by rw [hv,same_eq _ _ this]⟩
   · cases this
 · cases this
section
variable {Q : Orc} {B : H} {val : List UInt8 → Bool} (ka : KnA Q) (va : VA Q B val) {h : H} {r : Nat} {l : List UInt8} {bad : Bool} {p : Pq} {w : Value}
include ka va
theorem a30 (k L : Nat) (hl : l.length ≤ 1000300) (hB : Ext B h) (hr : B.next ≤ r) (s : RS h r l bad p w) : ∃ h',(∀ (β : Type) (kn : H → Option β),p43a (callO Tryd.prog 2 Q (k + 1000402)) L (ptrV r) h kn = padV (callO Tryd.prog 2 Q (k + 1000402)) L (ptrV r) h' kn) ∧ RS h' r (connA val (l,bad,p)).1 (connA val (l,bad,p)).2.1 (connA val (l,bad,p)).2.2 w ∧ ExtBut (fun j => j = r) h h' := by
 obtain ⟨h1,e1,s1,x1⟩ := T32 ka va k hl hB s
 have hB1 := base_but hB x1 hr
 obtain ⟨a,ha⟩ : ∃ a,a = textL val l := ⟨_,rfl⟩
 rw [← ha] at e1 s1
 obtain ⟨h2,e2,s2,x2,n2⟩ := T31 ka (k + 1000401) s1
 have e2 : callO Tryd.prog 2 Q (k + 1000402) 44 [ptrV r] h1 = _ := e2
 obtain ⟨b,hb⟩ : ∃ b,b = oneL a.2.1 := ⟨_,rfl⟩
 rw [← hb] at e2 s2
 obtain ⟨h3,e3,s3,x3,n3⟩ := s2.set (i := 9) (v := .int .u8 (b.1 : Int)) (l' := b.2.1) (bad' := (bad || a.2.2) || b.2.2) (p' := { p with level := b.1 }) (w' := w) (by omega) rfl rfl
 obtain ⟨h4,e4,s4,x4,n4⟩ := T31 ka (k + 1000401) s3
 have e4 : callO Tryd.prog 2 Q (k + 1000402) 44 [ptrV r] h3 = _ := e4
 obtain ⟨c,hc⟩ : ∃ c,c = oneL b.2.1 := ⟨_,rfl⟩
 rw [← hc] at e4 s4
 have hc8 : c.1 < 256 := by rw [hc]; exact oneL_lt _
 obtain ⟨y1,b1,c1⟩ := bits (m := 1) (by decide) hc8
 obtain ⟨y2,b2,c2⟩ := bits (m := 2) (by decide) hc8
 obtain ⟨y4,b4,c4⟩ := bits (m := 4) (by decide) hc8
 obtain ⟨y32,b32,c32⟩ := bits (m := 32) (by decide) hc8
 obtain ⟨y64,b64,c64⟩ := bits (m := 64) (by decide) hc8
 obtain ⟨y128,b128,c128⟩ := bits (m := 128) (by decide) hc8
 obtain ⟨y3,sh3,an3⟩ := shr3b (s := 3) (by decide) hc8
 have b1 : A.bin Tryd.prog .and 5 (.int .u8 (c.1 : Int)) (.int .u8 1) = _ := b1
 have b2 : A.bin Tryd.prog .and 5 (.int .u8 (c.1 : Int)) (.int .u8 2) = _ := b2
 have b4 : A.bin Tryd.prog .and 5 (.int .u8 (c.1 : Int)) (.int .u8 4) = _ := b4
 have b32 : A.bin Tryd.prog .and 5 (.int .u8 (c.1 : Int)) (.int .u8 32) = _ := b32
 have b64 : A.bin Tryd.prog .and 5 (.int .u8 (c.1 : Int)) (.int .u8 64) = _ := b64
 have b128 : A.bin Tryd.prog .and 5 (.int .u8 (c.1 : Int)) (.int .u8 128) = _ := b128
 have sh3 : A.bin Tryd.prog .shr 5 (.int .u8 (c.1 : Int)) (.int .u64 3) = _ := sh3
 obtain ⟨N,hN⟩ : ∃ N : Bool,N = (if bad || a.2.2 || b.2.2 || c.2.2 then true else if a.1 = MQTT then bitB 1 c.1 else true) := ⟨_,rfl⟩
 have l1 := s4.ld (i := 1) rfl
 obtain ⟨h5,e5,s5,x5,n5⟩ := s4.set (i := 1) (v := .bool N) (l' := c.2.1) (bad' := N) (p' := { p with level := b.1 }) (w' := w) (by omega) rfl rfl
 obtain ⟨h6,e6,s6,x6,n6⟩ := s5.set (i := 10) (v := .bool (bitB 2 c.1)) (l' := c.2.1) (bad' := N) (p' := { p with level := b.1,clean := bitB 2 c.1 }) (w' := w) (by omega) rfl rfl
 obtain ⟨h7,e7,s7,x7,n7⟩ := s6.set (i := 13) (v := .bool (bitB 4 c.1)) (l' := c.2.1) (bad' := N) (p' := { p with level := b.1,clean := bitB 2 c.1,will := bitB 4 c.1 }) (w' := w) (by omega) rfl rfl
 obtain ⟨h8,e8,s8,x8,n8⟩ := s7.set (i := 16) (v := .int .u8 ((c.1 / 2 ^ 3 % 4 : Nat) : Int)) (l' := c.2.1) (bad' := N) (p' := { p with level := b.1,clean := bitB 2 c.1,will := bitB 4 c.1,wq := c.1 / 8 % 4 }) (w' := w) (by omega) rfl rfl
 obtain ⟨h9,e9,s9,x9,n9⟩ := s8.set (i := 17) (v := .bool (bitB 32 c.1)) (l' := c.2.1) (bad' := N) (p' := { p with level := b.1,clean := bitB 2 c.1,will := bitB 4 c.1,wq := c.1 / 8 % 4,wr := bitB 32 c.1 }) (w' := w) (by omega) rfl rfl
 obtain ⟨h10,e10,s10,x10,n10⟩ := s9.set (i := 19) (v := .bool (bitB 64 c.1)) (l' := c.2.1) (bad' := N) (p' := { p with level := b.1,clean := bitB 2 c.1,will := bitB 4 c.1,wq := c.1 / 8 % 4,wr := bitB 32 c.1,hp := bitB 64 c.1 }) (w' := w) (by omega) rfl rfl
 obtain ⟨h11,e11,s11,x11,n11⟩ := s10.set (i := 18) (v := .bool (bitB 128 c.1)) (l' := c.2.1) (bad' := N) (p' := { p with level := b.1,clean := bitB 2 c.1,will := bitB 4 c.1,wq := c.1 / 8 % 4,wr := bitB 32 c.1,hp := bitB 64 c.1,hu := bitB 128 c.1 }) (w' := w) (by omega) rfl rfl
 have hres : connA val (l,bad,p) = (c.2.1,N,{ p with level := b.1,clean := bitB 2 c.1,will := bitB 4 c.1,wq := c.1 / 8 % 4,wr := bitB 32 c.1,hp := bitB 64 c.1,hu := bitB 128 c.1 }) := by
  rw [hN,hc,hb,ha]; rfl
 rw [hres]
 refine ⟨h11,fun β kn => ?_,s11,((((((((((x1.trans x2).trans x3).trans x4).trans x5).trans x6).trans x7).trans x8).trans x9).trans x10).trans x11)⟩
 have sm : A.sliceStr (.string ⟨⟨[0,4,77,81,84,84]⟩⟩) (some (.int .i64 2)) none = some (str MQTT) := slS (l := [0,4,77,81,84,84]) (k := 2) (by decide)
 have hne : A.bin Tryd.prog .neq 9 (str a.1) (str MQTT) = some (.bool (!decide (a.1 = MQTT))) := by
  rw [bin_str_neq]
  congr 3
  rw [decide_eq_decide]
  exact ⟨fun e => congrArg (fun b : ByteArray => b.data.toList) e,fun e => by rw [e]⟩
 have flag : ∀ K : Value → Value → H → Option β,pakL (callO Tryd.prog 2 Q (k + 1000402)) L (str a.1) (.int .u8 (c.1 : Int)) (ptrV r) h4 K = K (.int .u8 (c.1 : Int)) (ptrV r) h5 := by
  intro K
  cases hb0 : (bad || a.2.2 || b.2.2 || c.2.2) with
  | true =>
   rw [hb0] at l1
   have hNt : N = true := by rw [hN,hb0]; rfl
   rw [hNt] at e5
   simp only [pakL,qV,qZ,qY,Nat.zero_add,Nat.add_zero,l1,qQ,cond_true,e5]
  | false =>
   rw [hb0] at l1
   by_cases hm : a.1 = MQTT
   · have hNt : N = bitB 1 c.1 := by rw [hN,hb0]; simp only [Bool.false_eq_true,if_false,if_pos hm]
     rw [hNt] at e5
     rw [decide_eq_true hm] at hne
     simp only [pakL,qV,qZ,qY,Nat.zero_add,Nat.add_zero,l1,qQ,cond_false,sm,hne,Bool.not_true,b1,zY,c1,e5]
   · have hNt : N = true := by rw [hN,hb0]; simp only [Bool.false_eq_true,if_false,if_neg hm]
     rw [hNt] at e5
     rw [decide_eq_false hm] at hne
     simp only [pakL,qV,qZ,qY,Nat.zero_add,Nat.add_zero,l1,qQ,cond_false,cond_true,sm,hne,Bool.not_false,e5]
 simp only [p43a,paqU,qV,qZ,qY,Nat.zero_add,Nat.add_zero,e1,qX,paqV,e2,Nat.reduceAdd,e3,paqW,e4,flag,paqX,b2,zY,c2,qQ,e6,paqY,b4,c4,e7,paqZ,sh3,an3,e8,parA,b32,c32,e9,parB,b64,c64,e10,parC,b128,c128,e11]
end
end Go.Proofs.YtohapjojkjjflaaDoor.Wc

namespace Go.Proofs.YtohapjojkjjflaaDoor.Wc
open Go Go.AM WcA
section
variable {Q : Orc} {B : H} {val : List UInt8 → Bool} (ka : KnA Q) (va : VA Q B val) {h : H} {r : Nat} {s : CS} {w : Value}
include ka va
theorem b30 (k L : Nat) (hl : s.1.length ≤ 1000300) (hB : Ext B h) (hr : B.next ≤ r) (q : RS h r s.1 s.2.1 s.2.2 w) : ∃ h',(∀ (β : Type) (kn : H → Option β),padV (callO Tryd.prog 2 Q (k + 1000402)) L (ptrV r) h kn = pafL (callO Tryd.prog 2 Q (k + 1000402)) L (ptrV r) h' kn) ∧ RS h' r (connB2 val s).1 (connB2 val s).2.1 (connB2 val s).2.2 w ∧ ExtBut (fun j => j = r) h h' := by
 obtain ⟨h1,e1,s1,x1⟩ := T33 ka (k + 1000400) (by omega) q
 have e1 : callO Tryd.prog 2 Q (k + 1000402) 46 [ptrV r] h = _ := e1
 have hd := wordL_len s.1
 obtain ⟨d,hdd⟩ : ∃ d,d = wordL s.1 := ⟨_,rfl⟩
 rw [← hdd] at e1 s1 hd
 obtain ⟨h2,e2,s2,x2,n2⟩ := s1.set (i := 11) (v := .int .u16 (d.1 : Int)) (l' := d.2.1) (bad' := s.2.1 || d.2.2) (p' := { s.2.2 with keep := d.1 }) (w' := w) (by omega) rfl rfl
 have hB2 := base_but (base_but hB x1 hr) x2 hr
 obtain ⟨h3,e3,s3,x3⟩ := T32 ka va k (by omega) hB2 s2
 obtain ⟨e,he⟩ : ∃ e,e = textL val d.2.1 := ⟨_,rfl⟩
 rw [← he] at e3 s3
 obtain ⟨h4,e4,s4,x4,n4⟩ := s3.set (i := 12) (v := str e.1) (l' := e.2.1) (bad' := s.2.1 || d.2.2 || e.2.2) (p' := { s.2.2 with keep := d.1,client := e.1 }) (w' := w) (by omega) rfl rfl
 have hres : connB2 val s = (e.2.1,s.2.1 || d.2.2 || e.2.2,{ s.2.2 with keep := d.1,client := e.1 }) := by rw [he,hdd]; rfl
 rw [hres]
 refine ⟨h4,fun β kn => ?_,s4,((x1.trans x2).trans x3).trans x4⟩
 simp only [padV,parD,qV,qZ,qY,Nat.zero_add,Nat.add_zero,Nat.reduceAdd,e1,qX,e2,parE,e3,e4]
theorem c30 (k L : Nat) (hl : s.1.length ≤ 1000300) (hB : Ext B h) (hr : B.next ≤ r) (q : RS h r s.1 s.2.1 s.2.2 w) : ∃ h',(∀ (β : Type) (kn : H → Option β),pafL (callO Tryd.prog 2 Q (k + 1000402)) L (ptrV r) h kn = paiH (callO Tryd.prog 2 Q (k + 1000402)) L (ptrV r) h' kn) ∧ RS h' r (connC val s).1 (connC val s).2.1 (connC val s).2.2 w ∧ ExtBut (fun j => j = r) h h' := by
 have l13 := q.ld (i := 13) rfl
 cases hw : s.2.2.will with
 | false =>
  have hres : connC val s = s := by unfold connC; rw [hw]; rfl
  rw [hres]
  have l13 : A.load false 1 (.pointer (some ⟨r,13,none⟩)) h = some (.bool false) := l13.trans (congrArg (fun b => some (Value.bool b)) hw)
  refine ⟨h,fun β kn => ?_,q,⟨Nat.le_refl _,fun _ _ _ => rfl⟩⟩
  simp only [pafL,panF,qV,qZ,qY,Nat.zero_add,Nat.add_zero,Nat.reduceAdd,l13,qQ,cond_false]
 | true =>
  have l13 : A.load false 1 (.pointer (some ⟨r,13,none⟩)) h = some (.bool true) := l13.trans (congrArg (fun b => some (Value.bool b)) hw)
  obtain ⟨h1,e1,s1,x1⟩ := T32 ka va k hl hB q
  have ht := textL_len val s.1
  obtain ⟨a,ha⟩ : ∃ a,a = textL val s.1 := ⟨_,rfl⟩
  rw [← ha] at e1 s1 ht
  obtain ⟨h2,e2,s2,x2,n2⟩ := s1.set (i := 14) (v := str a.1) (l' := a.2.1) (bad' := s.2.1 || a.2.2) (p' := { s.2.2 with wt := a.1 }) (w' := w) (by omega) rfl rfl
  obtain ⟨h3,e3,s3,x3⟩ := T52 ka (k + 1000399) (by omega) s2
  have e3 : callO Tryd.prog 2 Q (k + 1000402) 57 [ptrV r] h2 = _ := e3
  obtain ⟨b,hb⟩ : ∃ b,b = dataL a.2.1 := ⟨_,rfl⟩
  rw [← hb] at e3 s3
  obtain ⟨h4,e4,s4,x4,n4⟩ := s3.set (i := 15) (v := str b.1) (l' := b.2.1) (bad' := s.2.1 || a.2.2 || b.2.2) (p' := { s.2.2 with wt := a.1,wp := b.1 }) (w' := w) (by omega) rfl rfl
  have hres : connC val s = (b.2.1,s.2.1 || a.2.2 || b.2.2,{ s.2.2 with wt := a.1,wp := b.1 }) := by unfold connC; rw [hw,hb,ha]; rfl
  rw [hres]
  refine ⟨h4,fun β kn => ?_,s4,((x1.trans x2).trans x3).trans x4⟩
  simp only [pafL,panF,qV,qZ,qY,Nat.zero_add,Nat.add_zero,Nat.reduceAdd,l13,qQ,cond_true,e1,qX,e2,e3,e4]
theorem d30 (k L : Nat) (hl : s.1.length ≤ 1000300) (hB : Ext B h) (q : RS h r s.1 s.2.1 s.2.2 w) : ∃ h',(∀ (β : Type) (kn : H → Option β),paiH (callO Tryd.prog 2 Q (k + 1000402)) L (ptrV r) h kn = kn h') ∧ RS h' r (connP (connU val s)).1 (connP (connU val s)).2.1 (connP (connU val s)).2.2 w ∧ ExtBut (fun j => j = r) h h' := by
 have l18 := q.ld (i := 18) rfl
 have pass : ∀ {hx : H} {t : CS},t.1.length ≤ 1000300 → RS hx r t.1 t.2.1 t.2.2 w → (t.2.2.hp = false → RS hx r (connP t).1 (connP t).2.1 (connP t).2.2 w) ∧ (t.2.2.hp = true → ∃ hy hz d,callO Tryd.prog 2 Q (k + 1000402) 57 [ptrV r] hx = some (str d,hy) ∧ A.store 1 (.pointer (some ⟨r,21,none⟩)) (str d) hy = some hz ∧ RS hz r (connP t).1 (connP t).2.1 (connP t).2.2 w ∧ ExtBut (fun j => j = r) hx hz) := by
  intro hx t ht qx
  refine ⟨fun hp => ?_,fun hp => ?_⟩
  · have : connP t = t := by unfold connP; rw [hp]; rfl
    rw [this]; exact qx
  · obtain ⟨h3,e3,s3,x3⟩ := T52 ka (k + 1000399) ht qx
    have e3 : callO Tryd.prog 2 Q (k + 1000402) 57 [ptrV r] hx = _ := e3
    obtain ⟨b,hb⟩ : ∃ b,b = dataL t.1 := ⟨_,rfl⟩
    rw [← hb] at e3 s3
    obtain ⟨h4,e4,s4,x4,n4⟩ := s3.set (i := 21) (v := str b.1) (l' := b.2.1) (bad' := t.2.1 || b.2.2) (p' := { t.2.2 with pass := b.1 }) (w' := w) (by omega) rfl rfl
    have hres : connP t = (b.2.1,t.2.1 || b.2.2,{ t.2.2 with pass := b.1 }) := by unfold connP; rw [hp,hb]; rfl
    rw [hres]
    exact ⟨h3,h4,b.1,e3,e4,s4,x3.trans x4⟩
 cases hu : s.2.2.hu with
 | false =>
  have hres : connU val s = s := by unfold connU; rw [hu]; rfl
  rw [hres]
  have l18 : A.load false 1 (.pointer (some ⟨r,18,none⟩)) h = some (.bool false) := l18.trans (congrArg (fun b => some (Value.bool b)) hu)
  obtain ⟨pf,pt⟩ := pass hl q
  have l19 := q.ld (i := 19) rfl
  cases hp : s.2.2.hp with
  | false =>
   have l19 : A.load false 1 (.pointer (some ⟨r,19,none⟩)) h = some (.bool false) := l19.trans (congrArg (fun b => some (Value.bool b)) hp)
   refine ⟨h,fun β kn => ?_,pf hp,⟨Nat.le_refl _,fun _ _ _ => rfl⟩⟩
   simp only [paiH,qV,qZ,qY,Nat.zero_add,Nat.add_zero,Nat.reduceAdd,l18,qQ,cond_false,l19]
  | true =>
   have l19 : A.load false 1 (.pointer (some ⟨r,19,none⟩)) h = some (.bool true) := l19.trans (congrArg (fun b => some (Value.bool b)) hp)
   obtain ⟨hy,hz,d,e1,e2,e3,x⟩ := pt hp
   refine ⟨hz,fun β kn => ?_,e3,x⟩
   simp only [paiH,qV,qZ,qY,Nat.zero_add,Nat.add_zero,Nat.reduceAdd,l18,qQ,cond_false,cond_true,l19,e1,qX,e2]
 | true =>
  have l18 : A.load false 1 (.pointer (some ⟨r,18,none⟩)) h = some (.bool true) := l18.trans (congrArg (fun b => some (Value.bool b)) hu)
  obtain ⟨h1,e1,s1,x1⟩ := T32 ka va k hl hB q
  have ht := textL_len val s.1
  obtain ⟨a,ha⟩ : ∃ a,a = textL val s.1 := ⟨_,rfl⟩
  rw [← ha] at e1 s1 ht
  obtain ⟨h2,e2,s2,x2,n2⟩ := s1.set (i := 20) (v := str a.1) (l' := a.2.1) (bad' := s.2.1 || a.2.2) (p' := { s.2.2 with user := a.1 }) (w' := w) (by omega) rfl rfl
  have hres : connU val s = (a.2.1,s.2.1 || a.2.2,{ s.2.2 with user := a.1 }) := by unfold connU; rw [hu,ha]; rfl
  rw [hres]
  obtain ⟨pf,pt⟩ := pass (t := (a.2.1,s.2.1 || a.2.2,{ s.2.2 with user := a.1 })) (by show a.2.1.length ≤ 1000300; omega) s2
  have l19 := s2.ld (i := 19) rfl
  cases hp : s.2.2.hp with
  | false =>
   have l19 : A.load false 1 (.pointer (some ⟨r,19,none⟩)) h2 = some (.bool false) := l19.trans (congrArg (fun b => some (Value.bool b)) hp)
   refine ⟨h2,fun β kn => ?_,pf hp,x1.trans x2⟩
   simp only [paiH,qV,qZ,qY,Nat.zero_add,Nat.add_zero,Nat.reduceAdd,l18,qQ,cond_true,cond_false,e1,qX,e2,l19]
  | true =>
   have l19 : A.load false 1 (.pointer (some ⟨r,19,none⟩)) h2 = some (.bool true) := l19.trans (congrArg (fun b => some (Value.bool b)) hp)
   obtain ⟨hy,hz,d,f1,f2,f3,x⟩ := pt hp
   refine ⟨hz,fun β kn => ?_,f3,(x1.trans x2).trans x⟩
   simp only [paiH,qV,qZ,qY,Nat.zero_add,Nat.add_zero,Nat.reduceAdd,l18,qQ,cond_true,e1,qX,e2,l19,f1,f2]
omit ka va in
theorem connA_len (val : List UInt8 → Bool) (s : CS) : (connA val s).1.length ≤ s.1.length := by
 show (oneL (oneL (textL val s.1).2.1).2.1).2.1.length ≤ _
 have := oneL_len (oneL (textL val s.1).2.1).2.1
 have := oneL_len (textL val s.1).2.1
 have := (textL_len val s.1).1
 omega
omit ka va in
theorem connB2_len (val : List UInt8 → Bool) (s : CS) : (connB2 val s).1.length ≤ s.1.length := by
 show (textL val (wordL s.1).2.1).2.1.length ≤ _
 have := (textL_len val (wordL s.1).2.1).1
 have := (wordL_len s.1).1
 omega
omit ka va in
theorem connC_len (val : List UInt8 → Bool) (s : CS) : (connC val s).1.length ≤ s.1.length := by
 unfold connC
 split
 · show (dataL (textL val s.1).2.1).2.1.length ≤ _
   have := (dataL_len (textL val s.1).2.1).1
   have := (textL_len val s.1).1
   omega
 · exact Nat.le_refl _
theorem T30 (k : Nat) (hl : s.1.length ≤ 1000300) (hB : Ext B h) (hr : B.next ≤ r) (q : RS h r s.1 s.2.1 s.2.2 w) : ∃ h',callO Tryd.prog 2 Q (k + 1000403) 43 [ptrV r] h = some (.tuple ⟨[]⟩,h') ∧ RS h' r (connS val s).1 (connS val s).2.1 (connS val s).2.2 w ∧ ExtBut (fun j => j = r) h h' := by
 rw [F43eq Q (k + 1000402) _ h (ka.fr 43 _ (by decide))]
 obtain ⟨h1,e1,s1,x1⟩ := a30 ka va k (k + 1000402) (l := s.1) (bad := s.2.1) (p := s.2.2) hl hB hr q
 have hA : connA val (s.1,s.2.1,s.2.2) = connA val s := rfl
 rw [hA] at s1
 have lA := connA_len val s
 obtain ⟨h2,e2,s2,x2⟩ := b30 ka va k (k + 1000402) (s := connA val s) (by omega) (base_but hB x1 hr) hr s1
 have lB := connB2_len val (connA val s)
 obtain ⟨h3,e3,s3,x3⟩ := c30 ka va k (k + 1000402) (s := connB2 val (connA val s)) (by omega) (base_but (base_but hB x1 hr) x2 hr) hr s2
 have lC := connC_len val (connB2 val (connA val s))
 obtain ⟨h4,e4,s4,x4⟩ := d30 ka va k (k + 1000402) (s := connC val (connB2 val (connA val s))) (by omega) (base_but (base_but (base_but hB x1 hr) x2 hr) x3 hr) s3
 refine ⟨h4,?_,s4,((x1.trans x2).trans x3).trans x4⟩
 simp only [F43,e1,e2,e3,e4]
end
end Go.Proofs.YtohapjojkjjflaaDoor.Wc

namespace Go.Proofs.YtohapjojkjjflaaDoor.Wc
open Go Go.AM WcA
theorem add35 {h : H} {r tb : Nat} {l : List UInt8} {bad : Bool} {p : Pq} {w : Value} {es : List Sb} {s : Sb} {z : List Value} (hz : z.length = 2) (q : RS h r l bad p w) (v : Vec 2 h w (es.map sbC)) (g : h.get tb = some (.cells (sbC s) (some 0))) (sw : ∀ i,sid w = some i → i ≠ r) (hl : es.length ≤ 1001000) :
 ∃ h1 h2 h3 w1 w2,A.load true 2 (ptrV tb) h = some (.agg ⟨sbC s⟩) ∧ A.load false 1 (.pointer (some ⟨r,24,none⟩)) h = some w ∧ A.buildSlice 2 1 z [(0,2,.agg ⟨sbC s⟩)] h = some (w1,h1) ∧ A.append 2 24 w w1 h1 = some (w2,h2) ∧ A.store 1 (.pointer (some ⟨r,24,none⟩)) w2 h2 = some h3 ∧
  RS h3 r l bad p w2 ∧ Vec 2 h3 w2 ((es ++ [s]).map sbC) ∧ sid w2 = some (h.next + 1) ∧ ExtBut (fun i => i = r ∨ sid w = some i) h h3 ∧ h3.next = h.next + 2 := by
 have l2 : A.load true 2 (ptrV tb) h = some (.agg ⟨sbC s⟩) := by rw [loadN_eq,g]; rfl
 have lw : A.load false 1 (.pointer (some ⟨r,24,none⟩)) h = some w := q.ld (i := 24) rfl
 obtain ⟨h1,hh1⟩ : ∃ h1,h1 = h.push (.cells (sbC s) (some 2)) := ⟨_,rfl⟩
 have e1 : A.buildSlice 2 1 z [(0,2,.agg ⟨sbC s⟩)] h = some (.slice (some ⟨h.next,0,none⟩) 1 3,h1) := by
  rw [hh1]; exact buildSlice_one h hz rfl rfl
 have x1 : Ext h h1 := by rw [hh1]; exact Ext.push h _
 have n1 : h1.next = h.next + 1 := by rw [hh1]; rfl
 have s1 : SliceE 2 h1 (.slice (some ⟨h.next,0,none⟩) 1 3) [sbC s] := by rw [hh1]; exact slice_one rfl
 obtain ⟨h2,e2,v2,n2,x2⟩ := append_vec (bs := 24) (v.ext x1) s1 (by simp) (by omega) (by rw [List.length_map]; simp; omega) (by rw [List.length_map]; simp; omega)
 have q2 : RS h2 r l bad p w := (q.ext x1).but x2 (fun e => sw _ e rfl)
 obtain ⟨w2,hw2⟩ : ∃ w2,w2 = Value.slice (some ⟨h1.next,0,none⟩) ((es.map sbC).length + [sbC s].length) (2 * ((es.map sbC).length + [sbC s].length)) := ⟨_,rfl⟩
 rw [← hw2] at e2 v2
 obtain ⟨h3,e3,q3,x3,n3⟩ := q2.set (i := 24) (v := w2) (l' := l) (bad' := bad) (p' := p) (w' := w2) (by omega) (by rw [hw2]; rfl) rfl
 have hsid : sid w2 = some (h.next + 1) := by rw [hw2]; show some h1.next = _; rw [n1]
 refine ⟨h1,h2,h3,_,w2,l2,lw,e1,e2,e3,q3,?_,hsid,⟨by omega,fun i hi hs => ?_⟩,by omega⟩
 · rw [List.map_append]
   refine v2.extBut x3 fun i hi e => ?_
   rw [hsid] at hi
   have := q.lt
   simp only [Option.some.injEq] at hi
   omega
 · rw [x3.get i (by omega) (fun e => hs (.inl e)),x2.get i (by omega) (fun e => hs (.inr e)),x1.get i hi]
section
variable {Q : Orc} {B : H} {val : List UInt8 → Bool} (ka : KnA Q) (va : VA Q B val) {r : Nat} {p : Pq}
include ka va
theorem lp35 (k L : Nat) (hr : B.next ≤ r) :
 ∀ (d m : Nat) (h : H) (w : Value) (es : List Sb) (l : List UInt8) (bad : Bool),(bad = true ∨ l.length ≤ d) → d < m → l.length ≤ 1000300 → es.length + d ≤ 1000900 → Ext B h → RS h r l bad p w → Vec 2 h w (es.map sbC) → (∀ i,sid w = some i → B.next ≤ i ∧ i ≠ r) →
  ∃ h' w',(∀ (kx : H → Option (Value × H)),pagT (callO Tryd.prog 2 Q (k + 1000402)) L kx m (ptrV r) h = kx h') ∧ RS h' r (subL val p.kind d l bad).2.1 (subL val p.kind d l bad).2.2 p w' ∧ Vec 2 h' w' ((es ++ (subL val p.kind d l bad).1).map sbC) ∧ (∀ i,sid w' = some i → B.next ≤ i ∧ i ≠ r) ∧ ExtBut (fun i => i = r ∨ sid w = some i) h h' := by
 intro d
 induction d with
 | zero =>
  intro m h w es l bad hd hm hl hle hB q v sw
  obtain ⟨m,rfl⟩ : ∃ r,m = r + 1 := ⟨m - 1,by omega⟩
  have l0 := q.ld (i := 0) rfl
  have l1 := q.ld (i := 1) rfl
  refine ⟨h,w,fun kx => ?_,q,by rw [show (subL val p.kind 0 l bad).1 = [] from rfl,List.append_nil]; exact v,sw,⟨Nat.le_refl _,fun _ _ _ => rfl⟩⟩
  cases hbn : (A.bin Tryd.prog .neq 9 (str l) (str [])) with
  | none => rw [bin_str_neq] at hbn; cases hbn
  | some v0 =>
   rw [bin_str_neq] at hbn
   simp only [Option.some.injEq] at hbn
   rcases hd with rfl | hd
   · subst hbn
     cases hdd : decide ((⟨⟨l⟩⟩ : ByteArray) = ⟨⟨[]⟩⟩) with
     | true => simp only [pagT,padM,pahS,qV,qZ,qY,Nat.zero_add,Nat.add_zero,l0,bin_str_neq,hdd,Bool.not_true,qQ,cond_false]
     | false => simp only [pagT,padM,pahS,qV,qZ,qY,Nat.zero_add,Nat.add_zero,l0,bin_str_neq,hdd,Bool.not_false,qQ,cond_true,l1,un_not,Bool.not_true,cond_false]
   · have : l = [] := List.length_eq_zero_iff.1 (by omega)
     subst this
     have hdd : decide ((⟨⟨[]⟩⟩ : ByteArray) = ⟨⟨[]⟩⟩) = true := by simp
     simp only [decide_true,pagT,padM,pahS,qV,qZ,qY,Nat.zero_add,Nat.add_zero,l0,bin_str_neq,hdd,Bool.not_true,qQ,cond_false]
 | succ d ih =>
  intro m h w es l bad hd hm hl hle hB q v sw
  obtain ⟨m,rfl⟩ : ∃ r,m = r + 1 := ⟨m - 1,by omega⟩
  have l0 := q.ld (i := 0) rfl
  have l1 := q.ld (i := 1) rfl
  have lk := q.ld (i := 2) rfl
  have hdec : decide ((⟨⟨l⟩⟩ : ByteArray) = ⟨⟨[]⟩⟩) = decide (l = []) := decide_eq_decide.2 ⟨fun e => congrArg (fun b : ByteArray => b.data.toList) e,fun e => by rw [e]⟩
  by_cases hex : l = [] ∨ bad = true
  · have hs : subL val p.kind (d + 1) l bad = ([],l,bad) := by show (if l = [] ∨ bad = true then _ else _) = _; rw [if_pos hex]
    rw [hs]
    refine ⟨h,w,fun kx => ?_,q,by rw [List.append_nil]; exact v,sw,⟨Nat.le_refl _,fun _ _ _ => rfl⟩⟩
    by_cases hl0 : l = []
    · rw [decide_eq_true hl0] at hdec
      simp only [pagT,padM,pahS,qV,qZ,qY,Nat.zero_add,Nat.add_zero,l0,bin_str_neq,hdec,Bool.not_true,qQ,cond_false]
    · have hb : bad = true := by rcases hex with h | h; exact absurd h hl0; exact h
      subst hb
      rw [decide_eq_false hl0] at hdec
      simp only [pagT,padM,pahS,qV,qZ,qY,Nat.zero_add,Nat.add_zero,l0,bin_str_neq,hdec,Bool.not_false,qQ,cond_true,l1,un_not,Bool.not_true,cond_false]
  · have hl0 : ¬ l = [] := fun e => hex (.inl e)
    have hb0 : bad = false := by cases bad; rfl; exact absurd (.inr rfl) hex
    subst hb0
    rw [decide_eq_false hl0] at hdec
    obtain ⟨h1,e1,q1,x1⟩ := T32 ka va k hl hB q
    have ht := textL_len val l
    have hcut := @textL_cut val l
    obtain ⟨a,ha⟩ : ∃ a,a = textL val l := ⟨_,rfl⟩
    rw [← ha] at e1 q1 ht hcut
    have hx1 := x1.next
    have hB1 := base_but hB x1 hr
    have v1 : Vec 2 h1 w (es.map sbC) := v.extBut x1 (fun i hi e => (sw i hi).2 e)
    have bd : A.build WcA.Z43L [(0,1,str a.1)] = some (.agg ⟨sbC (a.1,0)⟩) := by kernel_rfl
    obtain ⟨h2,hh2⟩ : ∃ h2,h2 = h1.push (.cells WcA.Z43L (some 0)) := ⟨_,rfl⟩
    have e2 : A.box 2 WcA.Z43 h1 = some (ptrV h1.next,h2) := by rw [hh2]; rfl
    have x2 : Ext h1 h2 := by rw [hh2]; exact Ext.push h1 _
    have n2 : h2.next = h1.next + 1 := by rw [hh2]; rfl
    obtain ⟨h3,hh3⟩ : ∃ h3,h3 = h2.put h1.next (.cells (sbC (a.1,0)) (some 0)) := ⟨_,rfl⟩
    have g2 : h2.get h1.next = some (.cells WcA.Z43L (some 0)) := by rw [hh2,H.get_push,if_pos rfl]
    have hcl : cellsL (.agg ⟨sbC (a.1,0)⟩) = some (sbC (a.1,0)) := rfl
    have e3 : A.store 2 (ptrV h1.next) (.agg ⟨sbC (a.1,0)⟩) h2 = some h3 := by rw [qU,g2,hcl,hh3]; rfl
    have x3 : Ext h1 h3 := by rw [hh3]; exact x2.put _ _ (Nat.le_refl _)
    have n3 : h3.next = h1.next + 1 := by rw [hh3]; exact n2
    have g3 : h3.get h1.next = some (.cells (sbC (a.1,0)) (some 0)) := by rw [hh3,H.get_put,if_pos rfl]
    have q3 := q1.ext x3
    have lk3 := q3.ld (i := 2) rfl
    have next : ∀ (h4 : H) (b : Nat × List UInt8 × Bool),(b = if p.kind = 8 then oneL a.2.1 else (0,a.2.1,false)) → b.2.1.length ≤ a.2.1.length → RS h4 r b.2.1 (a.2.2 || b.2.2) p w → ExtBut (fun j => j = r) h1 h4 → h4.get h1.next = some (.cells (sbC (a.1,b.1)) (some 0)) → h1.next < h4.next → ∃ h5 h6 h7 w1 w2 h' w',A.load true 2 (ptrV h1.next) h4 = some (.agg ⟨sbC (a.1,b.1)⟩) ∧ A.load false 1 (.pointer (some ⟨r,24,none⟩)) h4 = some w ∧ A.buildSlice 2 1 WcA.Z43L [(0,2,.agg ⟨sbC (a.1,b.1)⟩)] h4 = some (w1,h5) ∧ A.append 2 24 w w1 h5 = some (w2,h6) ∧ A.store 1 (.pointer (some ⟨r,24,none⟩)) w2 h6 = some h7 ∧
     (∀ (kx : H → Option (Value × H)),pagT (callO Tryd.prog 2 Q (k + 1000402)) L kx m (ptrV r) h7 = kx h') ∧ RS h' r (subL val p.kind (d + 1) l false).2.1 (subL val p.kind (d + 1) l false).2.2 p w' ∧ Vec 2 h' w' ((es ++ (subL val p.kind (d + 1) l false).1).map sbC) ∧ (∀ i,sid w' = some i → B.next ≤ i ∧ i ≠ r) ∧ ExtBut (fun i => i = r ∨ sid w = some i) h h' := by
     intro h4 b hb hbl q4 x4 g4 l4
     have hx4 := x4.next
     have hq := q.lt
     have v4 : Vec 2 h4 w (es.map sbC) := v1.extBut x4 (fun i hi e => (sw i hi).2 e)
     obtain ⟨h5,h6,h7,w1,w2,a1,a2,a3,a4,a5,q7,v7,s7,x7,n7⟩ := add35 (z := WcA.Z43L) rfl q4 v4 g4 (fun i hi => (sw i hi).2) (by omega)
     have hB7 : Ext B h7 := by
      have hB4 := base_but hB1 x4 hr
      exact ⟨Nat.le_trans hB4.next x7.next,fun i hi => by
       rw [x7.get i (Nat.lt_of_lt_of_le hi hB4.next) (fun e => by rcases e with e | e; omega; have := sw i e; omega)]
       exact hB4.get i hi⟩
     have hs : subL val p.kind (d + 1) l false = ((a.1,b.1) :: (subL val p.kind d b.2.1 (a.2.2 || b.2.2)).1,(subL val p.kind d b.2.1 (a.2.2 || b.2.2)).2) := by
      show (if l = [] ∨ false = true then _ else _) = _
      rw [if_neg hex,hb,ha]; rfl
     have hlen : (es ++ [(a.1,b.1)]).length = es.length + 1 := by simp
     have hb1 := hB.next
     have hdn : (a.2.2 || b.2.2) = true ∨ b.2.1.length ≤ d := by
      cases ha2 : a.2.2 with
      | true => exact .inl rfl
      | false =>
       have := hcut ha2
       rcases hd with hd | hd
       · cases hd
       · exact .inr (by omega)
     have hll : b.2.1.length ≤ 1000300 := by omega
     have hle2 : (es ++ [(a.1,b.1)]).length + d ≤ 1000900 := by omega
     obtain ⟨h',w',f1,f2,f3,f4,f5⟩ := ih m h7 w2 (es ++ [(a.1,b.1)]) b.2.1 (a.2.2 || b.2.2) hdn (by omega) hll hle2 hB7 q7 v7 (fun i hi => by rw [s7] at hi; simp only [Option.some.injEq] at hi; have := (base_but hB1 x4 hr).next; omega)
     rw [hs]
     refine ⟨h5,h6,h7,w1,w2,h',w',a1,a2,a3,a4,a5,f1,f2,?_,f4,⟨by have := f5.next; have := x7.next; omega,fun i hi hn => ?_⟩⟩
     · have : es ++ (a.1,b.1) :: (subL val p.kind d b.2.1 (a.2.2 || b.2.2)).1 = (es ++ [(a.1,b.1)]) ++ (subL val p.kind d b.2.1 (a.2.2 || b.2.2)).1 := by rw [List.append_assoc]; rfl
       rw [this]; exact f3
     · rw [f5.get i (by have := x7.next; omega) (fun e => by rcases e with e | e; exact hn (.inl e); rw [s7] at e; simp only [Option.some.injEq] at e; omega),x7.get i (by omega) hn,x4.get i (by omega) (fun e => hn (.inl e)),x1.get i hi (fun e => hn (.inl e))]
    by_cases h8 : p.kind = 8
    · have d8 : decide ((p.kind : Int) = 8) = true := deq (by omega)
      obtain ⟨h4,e4,q4,x4,n4⟩ := T31 ka (k + 1000401) q3
      have e4 : callO Tryd.prog 2 Q (k + 1000402) 44 [ptrV r] h3 = _ := e4
      obtain ⟨b,hb⟩ : ∃ b,b = oneL a.2.1 := ⟨_,rfl⟩
      have hbl := oneL_len a.2.1
      rw [← hb] at e4 q4 hbl
      have hrn := q1.lt
      have g4 : h4.get h1.next = some (.cells (sbC (a.1,0)) (some 0)) := by rw [x4.get _ (by omega) (by omega)]; exact g3
      obtain ⟨h4',hh4⟩ : ∃ h4',h4' = h4.put h1.next (.cells (sbC (a.1,b.1)) (some 0)) := ⟨_,rfl⟩
      have e4' : A.store 1 (.pointer (some ⟨h1.next,1,none⟩)) (.int .u8 (b.1 : Int)) h4 = some h4' := by rw [qU,g4,hh4]; rfl
      have x4' : ExtBut (fun j => j = h1.next) h4 h4' := by rw [hh4]; exact ExtBut.put ⟨Nat.le_refl _,fun _ _ _ => rfl⟩ _ _ rfl
      have n4' : h4'.next = h4.next := by rw [hh4]; rfl
      obtain ⟨h5,h6,h7,w1,w2,h',w',a1,a2,a3,a4,a5,f1,rest⟩ := next h4' b (by rw [if_pos h8]; exact hb) hbl (q4.but x4' (by omega)) ⟨by omega,fun i hi hn => by rw [x4'.get i (by omega) (by omega),x4.get i (by omega) hn,x3.get i hi]⟩ (by rw [hh4,H.get_put,if_pos rfl]) (by omega)
      refine ⟨h',w',fun kx => ?_,rest⟩
      simp only [pagT,padM,pahS,qV,qZ,qY,Nat.zero_add,Nat.add_zero,Nat.reduceAdd,l0,bin_str_neq,hdec,Bool.not_false,qQ,cond_true,l1,un_not,pafA,panG,e1,qX,bd,e2,e3,panH,lk3,zQ,d8,e4,e4',panI,a2,a1,a3,a4,a5,f1]
    · have d8 : decide ((p.kind : Int) = 8) = false := dne (by omega)
      obtain ⟨h5,h6,h7,w1,w2,h',w',a1,a2,a3,a4,a5,f1,rest⟩ := next h3 (0,a.2.1,false) (by rw [if_neg h8]) (Nat.le_refl _) (by rw [Bool.or_false]; exact q3) x3.but g3 (by omega)
      refine ⟨h',w',fun kx => ?_,rest⟩
      simp only [pagT,padM,pahS,qV,qZ,qY,Nat.zero_add,Nat.add_zero,Nat.reduceAdd,l0,bin_str_neq,hdec,Bool.not_false,qQ,cond_true,l1,un_not,pafA,panG,e1,qX,bd,e2,e3,panH,lk3,zQ,d8,cond_false,panI,a2,a1,a3,a4,a5,f1]
end
end Go.Proofs.YtohapjojkjjflaaDoor.Wc

namespace Go.Proofs.YtohapjojkjjflaaDoor.Wc
open Go Go.AM WcA
section
variable {Q : Orc} {B : H} {val : List UInt8 → Bool} (ka : KnA Q) (va : VA Q B val) {h : H} {r : Nat} {s : CS}
include ka va
theorem T35l (k : Nat) (hl : s.1.length ≤ 1000300) (hB : Ext B h) (hr : B.next ≤ r) (q : RS h r s.1 s.2.1 s.2.2 nilS) : ∃ h' w',callO Tryd.prog 2 Q (k + 1000403) 48 [ptrV r] h = some (.tuple ⟨[]⟩,h') ∧ RS h' r (listS val s).1.1 (listS val s).1.2.1 (listS val s).1.2.2 w' ∧ SliceE 2 h' w' ((listS val s).2.map sbC) ∧ (∀ i,sid w' = some i → B.next ≤ i ∧ i ≠ r) ∧ ExtBut (fun j => j = r) h h' := by
 rw [F48eq Q (k + 1000402) _ h (ka.fr 48 _ (by decide))]
 have lk := q.ld (i := 2) rfl
 have nl : ∀ i,sid nilS = some i → B.next ≤ i ∧ i ≠ r := fun i hi => by simp [sid] at hi
 by_cases h9 : s.2.2.kind = 9
 · have d9 : decide ((s.2.2.kind : Int) = 9) = true := deq (by omega)
   obtain ⟨h1,e1,q1,x1,n1⟩ := T34 ka (k + 1000401) q
   have e1 : callO Tryd.prog 2 Q (k + 1000402) 47 [ptrV r] h = _ := e1
   obtain ⟨h2,e2,q2,x2,n2⟩ := q1.set (i := 25) (v := str s.1) (l' := []) (bad' := s.2.1) (p' := { s.2.2 with codes := s.1 }) (w' := nilS) (by omega) rfl rfl
   have hs : listS val s = (([],s.2.1,{ s.2.2 with codes := s.1 }),[]) := by unfold listS; rw [if_pos h9]
   rw [hs]
   refine ⟨h2,nilS,?_,q2,(Vec.nil 2 h2).slice,nl,x1.trans x2⟩
   simp only [F48,p48a,pakM,qV,qZ,qY,Nat.zero_add,Nat.add_zero,Nat.reduceAdd,lk,paaZ,pakN,zQ,d9,qQ,pabF,qW,cond_true,parG,e1,qX,e2]
 have d9 : decide ((s.2.2.kind : Int) = 9) = false := dne (by omega)
 by_cases h8 : s.2.2.kind = 8 ∨ s.2.2.kind = 10
 · have hs : listS val s = (((subL val s.2.2.kind (s.1.length + 1) s.1 s.2.1).2.1,(subL val s.2.2.kind (s.1.length + 1) s.1 s.2.1).2.2,s.2.2),(subL val s.2.2.kind (s.1.length + 1) s.1 s.2.1).1) := by unfold listS; rw [if_neg h9,if_pos h8]
   rw [hs]
   obtain ⟨h',w',f,q',v',s',x'⟩ := lp35 ka va (p := s.2.2) k (k + 1000402) hr (s.1.length + 1) (k + 1000402) h nilS [] s.1 s.2.1 (.inr (Nat.le_succ _)) (by omega) hl (by simp; omega) hB q (Vec.nil 2 h) nl
   refine ⟨h',w',?_,q',?_,s',⟨x'.next,fun i hi hn => x'.get i hi (fun e => by rcases e with e | e; exact hn e; simp [sid] at e)⟩⟩
   · obtain ⟨M,hM⟩ : ∃ M,M = k + 1000402 := ⟨_,rfl⟩
     rw [← hM] at f ⊢
     rcases h8 with h8 | h10
     · have d8 : decide ((s.2.2.kind : Int) = 8) = true := deq (by omega)
       simp only [F48,p48a,pakM,qV,qZ,qY,Nat.zero_add,Nat.add_zero,Nat.reduceAdd,lk,paaZ,pakN,zQ,d9,qQ,pabF,qW,cond_false,pabO,pamF,d8,cond_true,pabX,pacN,f]
     · have d8 : decide ((s.2.2.kind : Int) = 8) = false := dne (by omega)
       have d10 : decide ((s.2.2.kind : Int) = 10) = true := deq (by omega)
       simp only [F48,p48a,pakM,qV,qZ,qY,Nat.zero_add,Nat.add_zero,Nat.reduceAdd,lk,paaZ,pakN,zQ,d9,qQ,pabF,qW,cond_false,pabO,pamF,d8,d10,cond_true,pabX,pacN,f]
   · rw [List.nil_append] at v'; exact v'.slice
 · have d8 : decide ((s.2.2.kind : Int) = 8) = false := dne (by omega)
   have d10 : decide ((s.2.2.kind : Int) = 10) = false := dne (by omega)
   have hs : listS val s = (s,[]) := by unfold listS; rw [if_neg h9,if_neg h8]
   rw [hs]
   refine ⟨h,nilS,?_,q,(Vec.nil 2 h).slice,nl,⟨Nat.le_refl _,fun _ _ _ => rfl⟩⟩
   simp only [F48,p48a,pakM,qV,qZ,qY,Nat.zero_add,Nat.add_zero,Nat.reduceAdd,lk,paaZ,pakN,zQ,d9,qQ,pabF,qW,cond_false,pabO,pamF,d8,d10,pabX,parF]
theorem T17 (k : Nat) {fl : Nat} (hf : fl < 16) (hl : s.1.length ≤ 1000300) (hB : Ext B h) (hr : B.next ≤ r) (q : RS h r s.1 s.2.1 s.2.2 nilS) : ∃ h' w',callO Tryd.prog 2 Q (k + 1000404) 34 [ptrV r,.int .u8 (fl : Int)] h = some (.tuple ⟨[]⟩,h') ∧ RS h' r (allS val fl s).1.1 (allS val fl s).1.2.1 (allS val fl s).1.2.2 w' ∧ SliceE 2 h' w' ((allS val fl s).2.map sbC) ∧ (∀ i,sid w' = some i → B.next ≤ i ∧ i ≠ r) ∧ ExtBut (fun j => j = r) h h' := by
 rw [F34eq Q (k + 1000403) _ _ h (ka.fr 34 _ (by decide))]
 have lk := q.ld (i := 2) rfl
 have nl : ∀ i,sid nilS = some i → B.next ≤ i ∧ i ≠ r := fun i hi => by simp [sid] at hi
 by_cases k1 : s.2.2.kind = 1
 · have d1 : decide ((s.2.2.kind : Int) = 1) = true := deq (by omega)
   have hs : allS val fl s = (connS val s,[]) := by unfold allS; rw [if_pos k1]
   rw [hs]
   obtain ⟨h1,e1,q1,x1⟩ := T30 ka va k hl hB hr q
   refine ⟨h1,nilS,?_,q1,(Vec.nil 2 h1).slice,nl,x1⟩
   simp only [F34,p34a,pagZ,qV,qZ,qY,Nat.zero_add,Nat.add_zero,lk,paaR,pahA,zQ,d1,qQ,paaW,qW,cond_true,paqG,e1,qX]
 have d1 : decide ((s.2.2.kind : Int) = 1) = false := dne (by omega)
 by_cases k2 : s.2.2.kind = 2
 · have d2 : decide ((s.2.2.kind : Int) = 2) = true := deq (by omega)
   have hs : allS val fl s = (ackS s,[]) := by unfold allS; rw [if_neg k1,if_pos k2]
   rw [hs]
   obtain ⟨h1,e1,q1,x1,n1⟩ := T31 ka (k + 1000402) q
   have e1 : callO Tryd.prog 2 Q (k + 1000403) 44 [ptrV r] h = _ := e1
   have ha8 := oneL_lt s.1
   obtain ⟨a,ha⟩ : ∃ a,a = oneL s.1 := ⟨_,rfl⟩
   rw [← ha] at e1 q1 ha8
   obtain ⟨N,hN⟩ : ∃ N : Bool,N = (if s.2.1 || a.2.2 then true else decide (1 < a.1)) := ⟨_,rfl⟩
   have l1 := q1.ld (i := 1) rfl
   obtain ⟨h2,e2,q2,x2,n2⟩ := q1.set (i := 1) (v := .bool N) (l' := a.2.1) (bad' := N) (p' := s.2.2) (w' := nilS) (by omega) rfl rfl
   obtain ⟨h3,e3,q3,x3,n3⟩ := q2.set (i := 22) (v := .bool (decide (a.1 = 1))) (l' := a.2.1) (bad' := N) (p' := { s.2.2 with present := decide (a.1 = 1) }) (w' := nilS) (by omega) rfl rfl
   obtain ⟨h4,e4,q4,x4,n4⟩ := T31 ka (k + 1000402) q3
   have e4 : callO Tryd.prog 2 Q (k + 1000403) 44 [ptrV r] h3 = _ := e4
   obtain ⟨b,hb⟩ : ∃ b,b = oneL a.2.1 := ⟨_,rfl⟩
   rw [← hb] at e4 q4
   obtain ⟨h5,e5,q5,x5,n5⟩ := q4.set (i := 23) (v := .int .u8 (b.1 : Int)) (l' := b.2.1) (bad' := N || b.2.2) (p' := { s.2.2 with present := decide (a.1 = 1),code := b.1 }) (w' := nilS) (by omega) rfl rfl
   have hres : ackS s = (b.2.1,N || b.2.2,{ s.2.2 with present := decide (a.1 = 1),code := b.1 }) := by rw [hN,hb,ha]; rfl
   rw [hres]
   have dq : decide ((a.1 : Int) = 1) = decide (a.1 = 1) := decide_eq_decide.2 (by omega)
   have dg : decide ((1 : Int) < (a.1 : Int)) = decide (1 < a.1) := decide_eq_decide.2 (by omega)
   refine ⟨h5,nilS,?_,q5,(Vec.nil 2 h5).slice,nl,((((x1.trans x2).trans x3).trans x4).trans x5)⟩
   cases hb0 : (s.2.1 || a.2.2) with
   | true =>
    have l1 := l1.trans (congrArg (fun b => some (Value.bool b)) hb0)
    have hNt : N = true := by rw [hN,hb0]; rfl
    rw [hNt] at e2
    simp only [F34,p34a,pagZ,qV,qZ,qY,Nat.zero_add,Nat.add_zero,Nat.reduceAdd,lk,paaR,pahA,zQ,d1,qQ,paaW,qW,cond_false,pabB,pahH,d2,pabR,cond_true,panC,e1,qX,l1,e2,dq,e3,e4,e5]
   | false =>
    have l1 := l1.trans (congrArg (fun b => some (Value.bool b)) hb0)
    have hNt : N = decide (1 < a.1) := by rw [hN,hb0]; rfl
    rw [hNt] at e2
    simp only [F34,p34a,pagZ,qV,qZ,qY,Nat.zero_add,Nat.add_zero,Nat.reduceAdd,lk,paaR,pahA,zQ,zY,d1,qQ,paaW,qW,cond_false,pabB,pahH,d2,pabR,cond_true,panC,e1,qX,l1,dg,e2,dq,e3,e4,e5]
 have d2 : decide ((s.2.2.kind : Int) = 2) = false := dne (by omega)
 by_cases k3 : s.2.2.kind = 3
 · have d3 : decide ((s.2.2.kind : Int) = 3) = true := deq (by omega)
   have hs : allS val fl s = (pubS val fl s,[]) := by unfold allS; rw [if_neg k1,if_neg k2,if_pos k3]
   rw [hs]
   obtain ⟨y8,b8,c8⟩ := bits (m := 8) (by decide) (show fl < 256 by omega)
   obtain ⟨y1,b1,c1⟩ := bits (m := 1) (by decide) (show fl < 256 by omega)
   obtain ⟨y3,sh,an⟩ := shr3b (s := 1) (by decide) (show fl < 256 by omega)
   have b8 : A.bin Tryd.prog .and 5 (.int .u8 (fl : Int)) (.int .u8 8) = _ := b8
   have b1 : A.bin Tryd.prog .and 5 (.int .u8 (fl : Int)) (.int .u8 1) = _ := b1
   have sh : A.bin Tryd.prog .shr 5 (.int .u8 (fl : Int)) (.int .u64 1) = _ := sh
   have an : A.bin Tryd.prog .and 5 (.int .u8 y3) (.int .u8 3) = some (.int .u8 ((fl / 2 % 4 : Nat) : Int)) := an
   obtain ⟨h1,e1,q1,x1,n1⟩ := q.set (i := 3) (v := .bool (bitB 8 fl)) (l' := s.1) (bad' := s.2.1) (p' := { s.2.2 with dup := bitB 8 fl }) (w' := nilS) (by omega) rfl rfl
   obtain ⟨h2,e2,q2,x2,n2⟩ := q1.set (i := 4) (v := .int .u8 ((fl / 2 % 4 : Nat) : Int)) (l' := s.1) (bad' := s.2.1) (p' := { s.2.2 with dup := bitB 8 fl,qos := fl / 2 % 4 }) (w' := nilS) (by omega) rfl rfl
   obtain ⟨h3,e3,q3,x3,n3⟩ := q2.set (i := 5) (v := .bool (bitB 1 fl)) (l' := s.1) (bad' := s.2.1) (p' := { s.2.2 with dup := bitB 8 fl,qos := fl / 2 % 4,retain := bitB 1 fl }) (w' := nilS) (by omega) rfl rfl
   have hB3 : Ext B h3 := base_but (base_but (base_but hB x1 hr) x2 hr) x3 hr
   obtain ⟨h4,e4,q4,x4⟩ := T32 ka va (k + 1) hl hB3 q3
   have ht := textL_len val s.1
   obtain ⟨a,ha⟩ : ∃ a,a = textL val s.1 := ⟨_,rfl⟩
   rw [← ha] at e4 q4 ht
   have e4 := (congrArg (fun n => callO Tryd.prog 2 Q n 45 [ptrV r] h3) (show k + 1000403 = k + 1 + 1000402 by omega)).trans e4
   obtain ⟨h5,e5,q5,x5,n5⟩ := q4.set (i := 7) (v := str a.1) (l' := a.2.1) (bad' := s.2.1 || a.2.2) (p' := { s.2.2 with dup := bitB 8 fl,qos := fl / 2 % 4,retain := bitB 1 fl,topic := a.1 }) (w' := nilS) (by omega) rfl rfl
   have lq : A.load false 1 (.pointer (some ⟨r,4,none⟩)) h5 = some (.int .u8 ((fl / 2 % 4 : Nat) : Int)) := q5.ld (i := 4) rfl
   have x05 := (((x1.trans x2).trans x3).trans x4).trans x5
   by_cases hq : 0 < fl / 2 % 4
   · have dq : decide ((0 : Int) < ((fl / 2 % 4 : Nat) : Int)) = true := decide_eq_true (by omega)
     obtain ⟨h6,e6,q6,x6⟩ := T33 ka (k + 1000401) (by omega) q5
     have e6 : callO Tryd.prog 2 Q (k + 1000403) 46 [ptrV r] h5 = _ := e6
     obtain ⟨b,hb⟩ : ∃ b,b = wordL a.2.1 := ⟨_,rfl⟩
     rw [← hb] at e6 q6
     obtain ⟨h7,e7,q7,x7,n7⟩ := q6.set (i := 6) (v := .int .u16 (b.1 : Int)) (l' := b.2.1) (bad' := s.2.1 || a.2.2 || b.2.2) (p' := { s.2.2 with dup := bitB 8 fl,qos := fl / 2 % 4,retain := bitB 1 fl,topic := a.1,id := b.1 }) (w' := nilS) (by omega) rfl rfl
     obtain ⟨h8,e8,q8,x8,n8⟩ := T34 ka (k + 1000402) q7
     have e8 : callO Tryd.prog 2 Q (k + 1000403) 47 [ptrV r] h7 = _ := e8
     obtain ⟨h9,e9,q9,x9,n9⟩ := q8.set (i := 8) (v := str b.2.1) (l' := []) (bad' := s.2.1 || a.2.2 || b.2.2) (p' := { s.2.2 with dup := bitB 8 fl,qos := fl / 2 % 4,retain := bitB 1 fl,topic := a.1,id := b.1,payload := b.2.1 }) (w' := nilS) (by omega) rfl rfl
     have hres : pubS val fl s = ([],s.2.1 || a.2.2 || b.2.2,{ s.2.2 with dup := bitB 8 fl,qos := fl / 2 % 4,retain := bitB 1 fl,topic := a.1,id := b.1,payload := b.2.1 }) := by unfold pubS; simp only [if_pos hq]; rw [hb,ha]
     rw [hres]
     refine ⟨h9,nilS,?_,q9,(Vec.nil 2 h9).slice,nl,(((x05.trans x6).trans x7).trans x8).trans x9⟩
     simp only [F34,p34a,pagZ,qV,qZ,qY,Nat.zero_add,Nat.add_zero,Nat.reduceAdd,lk,paaR,pahA,zQ,zY,d1,qQ,paaW,qW,cond_false,pabB,pahH,d2,pabR,pacF,paiF,d3,padF,cond_true,pagN,panA,b8,c8,sh,an,b1,c1,e1,e2,e3,panB,e4,qX,e5,lq,dq,e6,e7,e8,e9]
   · have dq : decide ((0 : Int) < ((fl / 2 % 4 : Nat) : Int)) = false := decide_eq_false (by omega)
     obtain ⟨h8,e8,q8,x8,n8⟩ := T34 ka (k + 1000402) q5
     have e8 : callO Tryd.prog 2 Q (k + 1000403) 47 [ptrV r] h5 = _ := e8
     obtain ⟨h9,e9,q9,x9,n9⟩ := q8.set (i := 8) (v := str a.2.1) (l' := []) (bad' := s.2.1 || a.2.2) (p' := { s.2.2 with dup := bitB 8 fl,qos := fl / 2 % 4,retain := bitB 1 fl,topic := a.1,payload := a.2.1 }) (w' := nilS) (by omega) rfl rfl
     have hres : pubS val fl s = ([],s.2.1 || a.2.2,{ s.2.2 with dup := bitB 8 fl,qos := fl / 2 % 4,retain := bitB 1 fl,topic := a.1,payload := a.2.1 }) := by unfold pubS; simp only [if_neg hq,Bool.or_false]; rw [ha]
     rw [hres]
     refine ⟨h9,nilS,?_,q9,(Vec.nil 2 h9).slice,nl,(x05.trans x8).trans x9⟩
     simp only [F34,p34a,pagZ,qV,qZ,qY,Nat.zero_add,Nat.add_zero,Nat.reduceAdd,lk,paaR,pahA,zQ,zY,d1,qQ,paaW,qW,cond_false,pabB,pahH,d2,pabR,pacF,paiF,d3,padF,cond_true,pagN,panA,b8,c8,sh,an,b1,c1,e1,e2,e3,panB,e4,qX,e5,lq,dq,e8,e9]
 have d3 : decide ((s.2.2.kind : Int) = 3) = false := dne (by omega)
 by_cases k12 : s.2.2.kind = 12 ∨ s.2.2.kind = 13 ∨ s.2.2.kind = 14
 · have hs : allS val fl s = (s,[]) := by unfold allS; rw [if_neg k1,if_neg k2,if_neg k3,if_pos k12]
   rw [hs]
   refine ⟨h,nilS,?_,q,(Vec.nil 2 h).slice,nl,⟨Nat.le_refl _,fun _ _ _ => rfl⟩⟩
   rcases k12 with c | c | c
   · have d12 : decide ((s.2.2.kind : Int) = 12) = true := deq (by omega)
     simp only [F34,p34a,pagZ,qV,qZ,qY,Nat.zero_add,Nat.add_zero,lk,paaR,pahA,zQ,d1,qQ,paaW,qW,cond_false,pabB,pahH,d2,pabR,pacF,paiF,d3,padF,pafK,pakH,d12,cond_true,pakI]
   · have d12 : decide ((s.2.2.kind : Int) = 12) = false := dne (by omega)
     have d13 : decide ((s.2.2.kind : Int) = 13) = true := deq (by omega)
     simp only [F34,p34a,pagZ,qV,qZ,qY,Nat.zero_add,Nat.add_zero,lk,paaR,pahA,zQ,d1,qQ,paaW,qW,cond_false,pabB,pahH,d2,pabR,pacF,paiF,d3,padF,pafK,pakH,d12,d13,cond_true,pakI]
   · have d12 : decide ((s.2.2.kind : Int) = 12) = false := dne (by omega)
     have d13 : decide ((s.2.2.kind : Int) = 13) = false := dne (by omega)
     have d14 : decide ((s.2.2.kind : Int) = 14) = true := deq (by omega)
     simp only [F34,p34a,pagZ,qV,qZ,qY,Nat.zero_add,Nat.add_zero,lk,paaR,pahA,zQ,d1,qQ,paaW,qW,cond_false,pabB,pahH,d2,pabR,pacF,paiF,d3,padF,pafK,pakH,d12,d13,d14,cond_true,pakI]
 have d12 : decide ((s.2.2.kind : Int) = 12) = false := dne (by omega)
 have d13 : decide ((s.2.2.kind : Int) = 13) = false := dne (by omega)
 have d14 : decide ((s.2.2.kind : Int) = 14) = false := dne (by omega)
 obtain ⟨h1,e1,q1,x1⟩ := T33 ka (k + 1000401) (by omega) q
 have e1 : callO Tryd.prog 2 Q (k + 1000403) 46 [ptrV r] h = _ := e1
 have hwl := wordL_len s.1
 obtain ⟨b,hb⟩ : ∃ b,b = wordL s.1 := ⟨_,rfl⟩
 rw [← hb] at e1 q1 hwl
 obtain ⟨h2,e2,q2,x2,n2⟩ := q1.set (i := 6) (v := .int .u16 (b.1 : Int)) (l' := b.2.1) (bad' := s.2.1 || b.2.2) (p' := { s.2.2 with id := b.1 }) (w' := nilS) (by omega) rfl rfl
 have hs : allS val fl s = listS val (b.2.1,s.2.1 || b.2.2,{ s.2.2 with id := b.1 }) := by unfold allS; rw [if_neg k1,if_neg k2,if_neg k3,if_neg k12,← hb]
 rw [hs]
 obtain ⟨h3,w',e3,q3,s3,sw3,x3⟩ := T35l ka va k (s := (b.2.1,s.2.1 || b.2.2,{ s.2.2 with id := b.1 })) (by show b.2.1.length ≤ 1000300; omega) (base_but (base_but hB x1 hr) x2 hr) hr q2
 refine ⟨h3,w',?_,q3,s3,sw3,(x1.trans x2).trans x3⟩
 simp only [F34,p34a,pagZ,qV,qZ,qY,Nat.zero_add,Nat.add_zero,Nat.reduceAdd,lk,paaR,pahA,zQ,d1,qQ,paaW,qW,cond_false,pabB,pahH,d2,pabR,pacF,paiF,d3,padF,pafK,pakH,d12,d13,d14,pakI,e1,qX,e2,e3]
end
end Go.Proofs.YtohapjojkjjflaaDoor.Wc

namespace Go.Proofs.YtohapjojkjjflaaDoor.Wc
open Go Go.AM WcA
section
variable {Q : Orc} (ka : KnA Q) {h : H}
include ka
theorem lp16 (C : CF) (L : Nat) {l : List UInt8} (hl : l.length ≤ 1001000) :
 ∀ (d m scale n used : Nat),used + d = 4 → d < m → used ≤ l.length → scale = 128 ^ used → n < 128 ^ used → ∀ (β : Type) (kr : Value → Value → Value → H → Option β) (kx : H → Option β),kx h = kr (.int .i64 0) (.int .i64 0) (.int .i64 4) h →
  pahG C L kr kx m (.int .i64 (scale : Int)) (.int .i64 (n : Int)) (.int .i64 (used : Int)) (str l) h = kr (.int .i64 ((rlF l d scale n used).1 : Int)) (.int .i64 ((rlF l d scale n used).2.1 : Int)) (.int .i64 ((rlF l d scale n used).2.2 : Int)) h := by
 have _ := ka
 intro d
 induction d with
 | zero =>
  intro m scale n used hu hm hle hs hn β kr kx hkx
  obtain ⟨m,rfl⟩ : ∃ r,m = r + 1 := ⟨m - 1,by omega⟩
  have d4 : decide ((used : Int) < 4) = false := by rw [decide_eq_false_iff_not]; omega
  simp only [pahG,pafT,pakG,zZ,d4,qZ,qQ,cond_false]
  exact hkx
 | succ d ih =>
  intro m scale n used hu hm hle hs hn β kr kx hkx
  obtain ⟨m,rfl⟩ : ∃ r,m = r + 1 := ⟨m - 1,by omega⟩
  have d4 : decide ((used : Int) < 4) = true := by rw [decide_eq_true_iff]; omega
  have hsc : scale ≤ 2097152 ∧ 128 ^ (used + 1) = scale * 128 := by
   refine ⟨?_,by rw [hs,Nat.pow_succ]⟩
   rw [hs]
   have : used ≤ 3 := by omega
   exact Nat.pow_le_pow_right (by omega) this
  cases hb : l[used]? with
  | none =>
   have hz : used = l.length := by have := List.getElem?_eq_none_iff.1 hb; omega
   have de : decide ((used : Int) = (l.length : Int)) = true := by rw [decide_eq_true_iff]; omega
   have hr : rlF l (d + 1) scale n used = (0,0,2) := by show (match l[used]? with | none => _ | some b => _) = _; rw [hb]
   rw [hr]
   simp only [pahG,pafT,pakG,zZ,d4,qZ,qQ,cond_true,palX,qJ,zQ,de]
   rfl
  | some b =>
   have hlt := (List.getElem?_eq_some_iff.1 hb).1
   have de : decide ((used : Int) = (l.length : Int)) = false := by rw [decide_eq_false_iff_not]; omega
   have ix := ixS hb
   have cv := conv53 b.toNat b.toNat_lt
   have wu : IntKind.i64.wrap ((used : Int) + 1) = ((used + 1 : Nat) : Int) := wrap_succ (by omega)
   have rm : A.bin Tryd.prog .rem 3 (.int .i64 (b.toNat : Int)) (.int .i64 128) = _ := remI (a := b.toNat) (c := 128) (by omega)
   have hm128 : b.toNat % 128 < 128 := Nat.mod_lt _ (by omega)
   obtain ⟨y,hy⟩ : ∃ y,y = b.toNat % 128 := ⟨_,rfl⟩
   rw [← hy] at rm hm128
   have hys : y * scale ≤ 127 * scale := Nat.mul_le_mul_right _ (by omega)
   have ml : A.bin Tryd.prog .mul 3 (.int .i64 (y : Int)) (.int .i64 (scale : Int)) = some (.int .i64 ((y * scale : Nat) : Int)) := by
    have e : (y : Int) * (scale : Int) = ((y * scale : Nat) : Int) := by rw [Int.natCast_mul]
    rw [bin_mul,e,wrap64 (by omega) (by omega)]
   have ad : A.bin Tryd.prog .add 3 (.int .i64 (n : Int)) (.int .i64 ((y * scale : Nat) : Int)) = some (.int .i64 ((n + y * scale : Nat) : Int)) := by
    have e : (n : Int) + ((y * scale : Nat) : Int) = ((n + y * scale : Nat) : Int) := by omega
    rw [bin_add,e,wrap64 (by omega) (by omega)]
   have au : A.bin Tryd.prog .add 3 (.int .i64 (used : Int)) (.int .i64 1) = some (.int .i64 ((used + 1 : Nat) : Int)) := by rw [bin_add,wu]
   have ms : A.bin Tryd.prog .mul 3 (.int .i64 (scale : Int)) (.int .i64 128) = some (.int .i64 ((scale * 128 : Nat) : Int)) := by
    have e : (scale : Int) * 128 = ((scale * 128 : Nat) : Int) := by omega
    rw [bin_mul,e,wrap64 (by omega) (by omega)]
   by_cases h128 : b.toNat < 128
   · have dl : decide ((b.toNat : Int) < 128) = true := by rw [decide_eq_true_iff]; omega
     have hr : rlF l (d + 1) scale n used = (n + y * scale,used + 1,0) := by show (match l[used]? with | none => _ | some b => _) = _; rw [hb]; simp only [if_pos h128]; rw [hy]
     rw [hr]
     simp only [pahG,pafT,pakG,zZ,d4,qZ,qQ,cond_true,palX,qJ,zQ,de,cond_false,ix,cv,au,rm,ml,ad,dl]
     rfl
   · have dl : decide ((b.toNat : Int) < 128) = false := by rw [decide_eq_false_iff_not]; omega
     have hr : rlF l (d + 1) scale n used = rlF l d (scale * 128) (n + y * scale) (used + 1) := by show (match l[used]? with | none => _ | some b => _) = _; rw [hb]; simp only [if_neg h128]; rw [hy]
     rw [hr]
     have := ih m (scale * 128) (n + y * scale) (used + 1) (by omega) (by omega) (by omega) (by rw [hsc.2]) (by rw [hsc.2]; omega) β kr kx hkx
     simp only [pahG,pafT,pakG,zZ,d4,qZ,qQ,cond_true,palX,qJ,zQ,de,cond_false,ix,cv,au,rm,ml,ad,dl,ms,this]
theorem T16 (k : Nat) {l : List UInt8} (hl : l.length ≤ 1001000) : callO Tryd.prog 2 Q (k + 7) 33 [str l] h = some (.tuple ⟨[.int .i64 ((rlF l 4 1 0 0).1 : Int),.int .i64 ((rlF l 4 1 0 0).2.1 : Int),.int .i64 ((rlF l 4 1 0 0).2.2 : Int)]⟩,h) := by
 rw [F33eq Q (k + 6) _ h (ka.fr 33 _ (by decide))]
 have lp := lp16 ka (h := h) (callO Tryd.prog 2 Q (k + 6)) (k + 6) hl 4 (k + 6) 1 0 0 (by omega) (by omega) (Nat.zero_le _) rfl (by decide) (Value × H) (fun x2 x3 x4 h => some (.tuple ⟨[x2,x3,x4]⟩,h)) (fun h => pamZ (callO Tryd.prog 2 Q (k + 6)) (k + 6) h (fun x2 x3 x4 h => some (.tuple ⟨[x2,x3,x4]⟩,h))) rfl
 have lp : pahG (callO Tryd.prog 2 Q (k + 6)) (k + 6) (fun x2 x3 x4 h => some (Value.tuple ⟨[x2,x3,x4]⟩,h)) (fun h => pamZ (callO Tryd.prog 2 Q (k + 6)) (k + 6) h (fun x2 x3 x4 h => some (Value.tuple ⟨[x2,x3,x4]⟩,h))) (k + 6) (.int .i64 1) (.int .i64 0) (.int .i64 0) (str l) h = _ := lp
 generalize k + 6 = M at lp ⊢
 simp only [F33,p33a,paqE,paqF,padW]
 exact lp
end
end Go.Proofs.YtohapjojkjjflaaDoor.Wc

namespace Go.Proofs.YtohapjojkjjflaaDoor.Wc
open Go Go.AM
structure Bd (p : Pq) (es : List Sb) : Prop where
 kind : p.kind < 256
 qos : p.qos < 256
 id : p.id < 65536
 level : p.level < 256
 keep : p.keep < 65536
 wq : p.wq < 256
 code : p.code < 256
 topic : p.topic.length ≤ 1000300
 payload : p.payload.length ≤ 1000300
 client : p.client.length ≤ 1000300
 wt : p.wt.length ≤ 1000300
 wp : p.wp.length ≤ 1000300
 user : p.user.length ≤ 1000300
 pass : p.pass.length ≤ 1000300
 codes : p.codes.length ≤ 1000300
 len : es.length ≤ 1000301
 es : ∀ s ∈ es,s.1.length ≤ 1000300 ∧ s.2 < 256
structure RG (Q : Orc) (B : H) (rgt : Pq → List Sb → Bool) : Prop where
 rg : ∀ (k : Nat) (h : H) (p : Pq) (es : List Sb) (w : Value),Ext B h → Bd p es → SliceE 2 h w (es.map sbC) → ∃ h',callO Tryd.prog 2 Q (k + 1001000) 35 [.agg ⟨p.cells w⟩] h = some (.bool (rgt p es),h') ∧ Ext h h'
theorem slS6 {l : List UInt8} (h : 6 ≤ l.length) : A.sliceStr (str l) none (some (.int .i64 6)) = some (str (l.take 6)) := by
 show (match (bif Nat.ble 6 l.length then some (some 6) else none) with | none => none | some h => match A.bound (h.getD l.length) none with | none => none | some q => some (Value.string ⟨⟨(l.drop (q.getD 0)).take (h.getD l.length - q.getD 0)⟩⟩)) = _
 rw [show Nat.ble 6 l.length = true from ble_iff.2 h]
 rfl
theorem fin7 {h : H} {r : Nat} {zs : List Value} (hz : zs.length = 24) (g : h.get r = some (.cells zs (some 0))) (p : Pq) (w : Value) :
 ∃ h',A.store 24 (ptrV r) (.agg ⟨p.cells w⟩) h = some h' ∧ A.load true 24 (ptrV r) h' = some (.agg ⟨p.cells w⟩) ∧ ExtBut (fun i => i = r) h h' := by
 obtain ⟨h',hh⟩ : ∃ h',h' = h.put r (.cells (p.cells w) (some 0)) := ⟨_,rfl⟩
 have hcl : cellsL (.agg ⟨p.cells w⟩) = some (p.cells w) := rfl
 refine ⟨h',?_,by rw [loadN_eq,hh,H.get_put,if_pos rfl]; rfl,by rw [hh]; exact ExtBut.put ⟨Nat.le_refl _,fun _ _ _ => rfl⟩ _ _ rfl⟩
 rw [qU,g,hcl]
 have e1 : Nat.beq (p.cells w).length 24 = true := rfl
 have e2 : Nat.ble (0 + 24) zs.length = true := ble_iff.2 (by omega)
 have e3 : splice zs 0 (p.cells w) = p.cells w := by
  simp only [splice,List.take_zero,List.nil_append,Nat.zero_add]
  rw [List.drop_eq_nil_of_le (by rw [hz]; exact Nat.le_refl _),List.append_nil]
 simp only [e1,e2,Bool.and_self,cond_true,e3]
 rw [hh]
theorem RS.packet {h : H} {r : Nat} {l : List UInt8} {bad : Bool} {p : Pq} {w : Value} (s : RS h r l bad p w) : A.load true 24 (.pointer (some ⟨r,2,none⟩)) h = some (.agg ⟨p.cells w⟩) := by
 rw [loadN_eq,s.get]; rfl
theorem str_eq9 (a b : List UInt8) : A.bin Tryd.prog .eql 9 (str a) (str b) = some (.bool (decide (a = b))) := by
 rw [bin_str_eql]
 congr 2
 rw [decide_eq_decide]
 exact ⟨fun e => congrArg (fun b : ByteArray => b.data.toList) e,fun e => by rw [e]⟩
theorem str_ne9 (a b : List UInt8) : A.bin Tryd.prog .neq 9 (str a) (str b) = some (.bool (!decide (a = b))) := by
 rw [bin_str_neq]
 congr 3
 rw [decide_eq_decide]
 exact ⟨fun e => congrArg (fun b : ByteArray => b.data.toList) e,fun e => by rw [e]⟩
theorem shr4 {c : Nat} (hc : c < 256) : A.bin Tryd.prog .shr 5 (.int .u8 (c : Int)) (.int .u64 4) = some (.int .u8 ((c / 16 : Nat) : Int)) ∧ A.bin Tryd.prog .and 5 (.int .u8 (c : Int)) (.int .u8 15) = some (.int .u8 ((c % 16 : Nat) : Int)) := by
 have all : ((List.range 256).all fun c => (match A.bin Tryd.prog .shr 5 (.int .u8 (c : Int)) (.int .u64 4) with | some v => AM.same v (.int .u8 ((c / 16 : Nat) : Int)) | none => false) && (match A.bin Tryd.prog .and 5 (.int .u8 (c : Int)) (.int .u8 15) with | some v => AM.same v (.int .u8 ((c % 16 : Nat) : Int)) | none => false)) = true := by kernel_rfl
 have := List.all_eq_true.1 all c (List.mem_range.2 hc)
 rw [Bool.and_eq_true] at this
 obtain ⟨a,b⟩ := this
 refine ⟨?_,?_⟩
 · split at a
   · rename_i v hv
     rw [hv,same_eq _ _ a]
   · cases a
 · split at b
   · rename_i v hv
     rw [hv,same_eq _ _ b]
   · cases b
end Go.Proofs.YtohapjojkjjflaaDoor.Wc

namespace Go.Proofs.YtohapjojkjjflaaDoor.Wc
open Go Go.AM WcA
def BS (s : CS) : Prop := s.1.length ≤ 1000300 ∧ Bd s.2.2 []
theorem zq_bd {kind : Nat} (h : kind < 256) : Bd (zq kind) [] := ⟨h,(by show 0 < 256; omega),(by show 0 < 65536; omega),(by show 0 < 256; omega),(by show 0 < 65536; omega),(by show 0 < 256; omega),(by show 0 < 256; omega),Nat.zero_le _,Nat.zero_le _,Nat.zero_le _,Nat.zero_le _,Nat.zero_le _,Nat.zero_le _,Nat.zero_le _,Nat.zero_le _,Nat.zero_le _,fun s hs => by cases hs⟩
theorem text_bd (val : List UInt8 → Bool) {l : List UInt8} (h : l.length ≤ 1000300) : (textL val l).2.1.length ≤ 1000300 ∧ (textL val l).1.length ≤ 1000300 := ⟨Nat.le_trans (textL_len val l).1 h,Nat.le_trans (textL_len val l).2 h⟩
theorem data_bd {l : List UInt8} (h : l.length ≤ 1000300) : (dataL l).2.1.length ≤ 1000300 ∧ (dataL l).1.length ≤ 1000300 := ⟨Nat.le_trans (dataL_len l).1 h,Nat.le_trans (dataL_len l).2 h⟩
theorem one_bd {l : List UInt8} (h : l.length ≤ 1000300) : (oneL l).2.1.length ≤ 1000300 ∧ (oneL l).1 < 256 := ⟨Nat.le_trans (oneL_len l) h,oneL_lt l⟩
theorem word_bd {l : List UInt8} (h : l.length ≤ 1000300) : (wordL l).2.1.length ≤ 1000300 ∧ (wordL l).1 < 65536 := ⟨Nat.le_trans (wordL_len l).1 h,(wordL_len l).2⟩
theorem connA_bd (val : List UInt8 → Bool) {s : CS} (h : BS s) : BS (connA val s) := by
 have a := text_bd val h.1
 have b := one_bd a.1
 have c := one_bd b.1
 exact ⟨c.1,{ h.2 with level := b.2,wq := by show (oneL _).1 / 8 % 4 < 256; omega }⟩
theorem connB2_bd (val : List UInt8 → Bool) {s : CS} (h : BS s) : BS (connB2 val s) := by
 have a := word_bd h.1
 have b := text_bd val a.1
 exact ⟨b.1,{ h.2 with keep := a.2,client := b.2 }⟩
theorem connC_bd (val : List UInt8 → Bool) {s : CS} (h : BS s) : BS (connC val s) := by
 unfold connC
 split
 · have a := text_bd val h.1
   have b := data_bd a.1
   exact ⟨b.1,{ h.2 with wt := a.2,wp := b.2 }⟩
 · exact h
theorem connU_bd (val : List UInt8 → Bool) {s : CS} (h : BS s) : BS (connU val s) := by
 unfold connU
 split
 · have a := text_bd val h.1
   exact ⟨a.1,{ h.2 with user := a.2 }⟩
 · exact h
theorem connP_bd {s : CS} (h : BS s) : BS (connP s) := by
 unfold connP
 split
 · have a := data_bd h.1
   exact ⟨a.1,{ h.2 with pass := a.2 }⟩
 · exact h
theorem connS_bd (val : List UInt8 → Bool) {s : CS} (h : BS s) : BS (connS val s) := connP_bd (connU_bd val (connC_bd val (connB2_bd val (connA_bd val h))))
theorem subL_bd (val : List UInt8 → Bool) (kind : Nat) : ∀ (n : Nat) {l : List UInt8} (bad : Bool),l.length ≤ 1000300 → (subL val kind n l bad).1.length ≤ n ∧ ∀ s ∈ (subL val kind n l bad).1,s.1.length ≤ 1000300 ∧ s.2 < 256
 | 0,l,bad,_ => ⟨Nat.le_refl _,fun s hs => by cases hs⟩
 | n + 1,l,bad,h => by
  by_cases c : l = [] ∨ bad = true
  · have e : subL val kind (n + 1) l bad = ([],l,bad) := if_pos c
    rw [e]
    exact ⟨Nat.zero_le _,fun s hs => by cases hs⟩
  · obtain ⟨a,ha⟩ : ∃ a,a = textL val l := ⟨_,rfl⟩
    obtain ⟨b,hb⟩ : ∃ b,b = if kind = 8 then oneL a.2.1 else (0,a.2.1,false) := ⟨_,rfl⟩
    have e : subL val kind (n + 1) l bad = ((a.1,b.1) :: (subL val kind n b.2.1 (bad || a.2.2 || b.2.2)).1,(subL val kind n b.2.1 (bad || a.2.2 || b.2.2)).2) := by rw [hb,ha]; exact if_neg c
    rw [e]
    have h1 := text_bd val h
    rw [← ha] at h1
    have h2 : b.2.1.length ≤ 1000300 ∧ b.1 < 256 := by
     rw [hb]
     split
     · exact one_bd h1.1
     · exact ⟨h1.1,by show 0 < 256; omega⟩
    obtain ⟨i1,i2⟩ := subL_bd val kind n (bad || a.2.2 || b.2.2) h2.1
    refine ⟨Nat.succ_le_succ i1,fun s hs => ?_⟩
    rcases List.mem_cons.1 hs with rfl | hs
    · exact ⟨h1.2,h2.2⟩
    · exact i2 s hs
theorem allS_bd (val : List UInt8 → Bool) {fl : Nat} {s : CS} (h : BS s) : Bd (allS val fl s).1.2.2 (allS val fl s).2 := by
 have ls : ∀ {s : CS},BS s → Bd (listS val s).1.2.2 (listS val s).2 := by
  intro s h
  unfold listS
  split
  · exact { h.2 with codes := h.1 }
  · split
    · have := subL_bd val s.2.2.kind (s.1.length + 1) s.2.1 h.1
      exact { h.2 with len := Nat.le_trans this.1 (Nat.succ_le_succ h.1),es := this.2 }
    · exact h.2
 unfold allS
 split
 · exact (connS_bd val h).2
 split
 · have a := one_bd h.1
   have b := one_bd a.1
   exact { h.2 with code := b.2 }
 split
 · have a := text_bd val h.1
   have w := word_bd a.1
   have hb : (if 0 < fl / 2 % 4 then wordL (textL val s.1).2.1 else (s.2.2.id,(textL val s.1).2.1,false)).2.1.length ≤ 1000300 ∧ (if 0 < fl / 2 % 4 then wordL (textL val s.1).2.1 else (s.2.2.id,(textL val s.1).2.1,false)).1 < 65536 := by
    split
    · exact w
    · exact ⟨a.1,h.2.id⟩
   exact { h.2 with qos := by show fl / 2 % 4 < 256; omega,topic := a.2,id := hb.2,payload := hb.1 }
 split
 · exact h.2
 · have w := word_bd h.1
   exact ls ⟨w.1,{ h.2 with id := w.2 }⟩
instance (K : Nat) (rest : List UInt8) : Decidable (lv7 K rest) := by unfold lv7; infer_instance
theorem w7 {h : H} {r : Nat} {rest : List UInt8} {p : Pq} {w : Value} (q : RS h r rest false p w) (C : CF) (L : Nat) {β : Type} (x0 x6 x2 : Value) (kn : Value → Value → Value → Value → Value → Value → H → Option β) :
 paiV C L x0 (ptrV r) x6 (.int .i64 (rest.length : Int)) x2 h kn = kn (.bool (decide (lv7 p.kind rest))) x0 (ptrV r) x6 (.int .i64 (rest.length : Int)) x2 h := by
 have l2 := q.ld (i := 2) rfl
 have l0 := q.ld (i := 0) rfl
 by_cases k1 : p.kind = 1
 · have d1 : decide ((p.kind : Int) = 1) = true := deq (by omega)
   by_cases g6 : 6 < rest.length
   · have d2 : decide ((6 : Int) < (rest.length : Int)) = true := decide_eq_true (by omega)
     have sl := slS6 (l := rest) (by omega)
     have st := str_eq9 (rest.take 6) proto
     have st : A.bin Tryd.prog .eql 9 (str (rest.take 6)) (.string ⟨⟨[0,4,77,81,84,84]⟩⟩) = _ := st
     by_cases hp : rest.take 6 = proto
     · rw [decide_eq_true hp] at st
       obtain ⟨b,hb⟩ : ∃ b,rest[6]? = some b := ⟨_,List.getElem?_eq_getElem g6⟩
       have ix : A.indexStr (str rest) (.int .i64 6) = some (u8 b) := ixS (i := 6) hb
       have db : (!decide ((b.toNat : Int) = 4)) = decide (lv7 p.kind rest) := by
        rw [← decide_not,decide_eq_decide]
        unfold lv7
        rw [hb]
        constructor
        · exact fun hn => ⟨k1,g6,hp,fun e => hn (by rw [Option.some.inj e]; rfl)⟩
        · intro ⟨_,_,_,hn⟩ e
          exact hn (congrArg some (UInt8.toNat_inj.1 (by show b.toNat = 4; omega)))
       simp only [paiV,qV,qZ,qY,Nat.zero_add,Nat.add_zero,l2,zQ,d1,qQ,cond_true,zY,d2,l0,sl,st,ix,bin_neq,db]
     · rw [decide_eq_false hp] at st
       have db : decide (lv7 p.kind rest) = false := decide_eq_false fun hn => hp hn.2.2.1
       simp only [paiV,qV,qZ,qY,Nat.zero_add,Nat.add_zero,l2,zQ,d1,qQ,cond_true,cond_false,zY,d2,l0,sl,st,db]
   · have d2 : decide ((6 : Int) < (rest.length : Int)) = false := decide_eq_false (by omega)
     have db : decide (lv7 p.kind rest) = false := decide_eq_false fun hn => g6 hn.2.1
     simp only [paiV,qV,qZ,qY,Nat.zero_add,Nat.add_zero,l2,zQ,d1,qQ,cond_true,cond_false,zY,d2,db]
 · have d1 : decide ((p.kind : Int) = 1) = false := dne (by omega)
   have db : decide (lv7 p.kind rest) = false := decide_eq_false fun hn => k1 hn.1
   simp only [paiV,qV,qZ,qY,Nat.zero_add,Nat.add_zero,l2,zQ,d1,qQ,cond_false,db]
end Go.Proofs.YtohapjojkjjflaaDoor.Wc

namespace Go.Proofs.YtohapjojkjjflaaDoor.Wc
open Go Go.AM WcA
def res7 (p : Pq) (w : Value) (u : Nat × Nat) : Value := .tuple ⟨[.agg ⟨p.cells w⟩,.int .i64 (u.1 : Int),.int .i64 (u.2 : Int)]⟩
def D7 (X : Option (Value × H)) (h : H) (d : Option (Pq × List Sb × Nat)) : Prop :=
 match d with
 | some x => ∃ h' w,X = some (res7 x.1 w (x.2.2,0),h') ∧ SliceE 2 h' w (x.2.1.map sbC) ∧ (∀ i,sid w = some i → h.next ≤ i) ∧ Ext h h'
 | none => ∃ h' e,X = some (res7 (zq 0) nilS (0,e),h') ∧ 0 < e ∧ Ext h h'
theorem D7.bad {X : Option (Value × H)} {h h' : H} {d : Option (Pq × List Sb × Nat)} (e : Nat) (hd : d = none) (hX : X = some (res7 (zq 0) nilS (0,e),h')) (h0 : 0 < e) (x : Ext h h') : D7 X h d := by subst hd; exact ⟨h',e,hX,h0,x⟩
theorem D7.good {X : Option (Value × H)} {h h' : H} {d : Option (Pq × List Sb × Nat)} {p : Pq} {es : List Sb} {n : Nat} {w : Value} (hd : d = some (p,es,n)) (hX : X = some (res7 p w (n,0),h')) (sl : SliceE 2 h' w (es.map sbC)) (sw : ∀ i,sid w = some i → h.next ≤ i) (x : Ext h h') : D7 X h d := by subst hd; exact ⟨h',w,hX,sl,sw,x⟩
theorem end7 {h : H} {r : Nat} {zs : List Value} (hz : zs.length = 24) (g : h.get r = some (.cells zs (some 0))) (p : Pq) (w : Value) :
 ∃ h',A.store 24 (ptrV r) (.agg ⟨p.cells w⟩) h = some h' ∧ (∀ x3 x4 : Value,(bnd (resC (A.load true 24 (ptrV r) h') (resC (some x3) (resC (some x4) (some [])))) fun vs => some (packA vs,h')) = some (.tuple ⟨[.agg ⟨p.cells w⟩,x3,x4]⟩,h')) ∧ ExtBut (fun i => i = r) h h' := by
 obtain ⟨h',e,l,x⟩ := fin7 hz g p w
 refine ⟨h',e,fun x3 x4 => ?_,x⟩
 rw [l]; rfl
section
variable {Q : Orc} {B : H} {val nm fi : List UInt8 → Bool} (ka : KnA Q) (va : VA Q B val) (rg : RG Q B (fun p es => (rstO val nm fi p es).isSome)) {h : H}
include ka va rg
theorem T7 (k : Nat) {l : List UInt8} (hl : l.length ≤ 1000300) (hB : Ext B h) : D7 (callO Tryd.prog 2 Q (k + 1001001) 16 [str l] h) h (decP val nm fi l) := by
 rw [F16eq Q (k + 1001000) _ h (ka.fr 16 _ (by decide))]
 obtain ⟨h1,hh1⟩ : ∃ h1,h1 = h.push (.cells WcA.Z30L (some 0)) := ⟨_,rfl⟩
 have e1 : A.box 24 WcA.Z30 h = some (ptrV h.next,h1) := by rw [hh1]; rfl
 have g1 : h1.get h.next = some (.cells WcA.Z30L (some 0)) := by rw [hh1,H.get_push,if_pos rfl]
 have x1 : Ext h h1 := by rw [hh1]; exact Ext.push h _
 have n1 : h1.next = h.next + 1 := by rw [hh1]; rfl
 have b0 : A.build WcA.Z30L [] = some (.agg ⟨(zq 0).cells nilS⟩) := rfl
 have toE : ∀ {hx h' : H},Ext h hx → ExtBut (fun i => i = h.next) hx h' → Ext h h' := fun a b => ⟨Nat.le_trans a.next b.next,fun i hi => by rw [b.get i (Nat.lt_of_lt_of_le hi a.next) (by omega)]; exact a.get i hi⟩
 obtain ⟨hz,ez,fz,xz⟩ := end7 (zs := WcA.Z30L) rfl g1 (zq 0) nilS
 cases l with
 | nil =>
  have d : A.bin Tryd.prog .eql 9 (str []) (.string ⟨⟨[]⟩⟩) = some (.bool true) := str_eq9 [] []
  refine D7.bad 2 rfl ?_ (by omega) (toE x1 xz)
  simp only [F16,p16a,pahN,pahO,e1,qX,qZ,d,qQ,cond_true,b0,ez,fz]
  rfl
 | cons c t =>
  have d : A.bin Tryd.prog .eql 9 (str (c :: t)) (.string ⟨⟨[]⟩⟩) = some (.bool false) := by
   have := str_eq9 (c :: t) []
   rw [decide_eq_false (by simp)] at this
   exact this
  have ix : A.indexStr (str (c :: t)) (.int .i64 0) = some (u8 c) := ixS (i := 0) rfl
  have e15 := qB (ka.fq c.toNat c.toNat_lt) (k + 1000999) h1
  have e15 : callO Tryd.prog 2 Q (k + 1001000) 32 [u8 c] h1 = _ := e15
  cases hf : firstB c.toNat with
  | false =>
   rw [hf] at e15
   have hr : decP val nm fi (c :: t) = none := by unfold decP; simp only [hf,Bool.false_eq_true,if_false]
   refine D7.bad 4 hr ?_ (by omega) (toE x1 xz)
   simp only [F16,p16a,pahN,pahO,e1,qX,qZ,d,qQ,cond_false,paiC,ix,e15,un_not,Bool.not_false,cond_true,b0,ez,fz]
   rfl
  | true =>
   rw [hf] at e15
   have sl1 : A.sliceStr (str (c :: t)) (some (.int .i64 1)) none = some (str t) := slS (l := c :: t) (k := 1) (by simp)
   have hl : t.length + 1 ≤ 1000300 := hl
   have e16 := T16 ka (h := h1) (k + 1000993) (l := t) (by omega)
   have e16 : callO Tryd.prog 2 Q (k + 1001000) 33 [str t] h1 = _ := e16
   have hu := rlF_used t 4 1 0 0
   obtain ⟨R,hR⟩ : ∃ R,R = rlF t 4 1 0 0 := ⟨_,rfl⟩
   rw [← hR] at e16 hu
   have t0 : A.extract 0 (.tuple ⟨[.int .i64 (R.1 : Int),.int .i64 (R.2.1 : Int),.int .i64 (R.2.2 : Int)]⟩) = some (.int .i64 (R.1 : Int)) := rfl
   have t1 : A.extract 1 (.tuple ⟨[.int .i64 (R.1 : Int),.int .i64 (R.2.1 : Int),.int .i64 (R.2.2 : Int)]⟩) = some (.int .i64 (R.2.1 : Int)) := rfl
   have t2 : A.extract 2 (.tuple ⟨[.int .i64 (R.1 : Int),.int .i64 (R.2.1 : Int),.int .i64 (R.2.2 : Int)]⟩) = some (.int .i64 (R.2.2 : Int)) := rfl
   by_cases he : R.2.2 = 0
   · have hu := hu he
     have dn : A.bin Tryd.prog .neq 31 (.int .i64 (R.2.2 : Int)) (.int .i64 0) = some (.bool false) := by rw [bin_neq,decide_eq_true (by omega)]; rfl
     have w1 : IntKind.i64.wrap ((R.2.1 : Int) + 1) = ((R.2.1 + 1 : Nat) : Int) := wrap_succ (by omega)
     have w2 : IntKind.i64.wrap (((c :: t).length : Int) - ((R.2.1 + 1 : Nat) : Int)) = (((c :: t).length - (R.2.1 + 1) : Nat) : Int) := by
      have : (c :: t).length = t.length + 1 := rfl
      rw [wrap64 (by omega) (by omega)]; omega
     obtain ⟨U,hU⟩ : ∃ U,U = R.2.1 + 1 := ⟨_,rfl⟩
     rw [← hU] at w1 w2
     have hUl : U ≤ (c :: t).length := by show U ≤ t.length + 1; omega
     by_cases hlt : (c :: t).length - U < R.1
     · have hr : decP val nm fi (c :: t) = none := by
        show (if firstB c.toNat = true then _ else _) = _
        rw [if_pos hf,← hR,if_pos he,← hU,if_pos hlt]
       have dl : decide ((((c :: t).length - U : Nat) : Int) < (R.1 : Int)) = true := decide_eq_true (by omega)
       refine D7.bad 2 hr ?_ (by omega) (toE x1 xz)
       simp only [F16,p16a,pahN,pahO,e1,qX,qZ,d,qQ,cond_false,paiC,ix,e15,un_not,Bool.not_true,paiT,sl1,e16,t0,t1,t2,paiU,dn,pajO,bin_add,w1,pajP,qJ,bin_sub,w2,zZ,dl,cond_true,b0,ez,fz]
       rfl
     · have dl : decide ((((c :: t).length - U : Nat) : Int) < (R.1 : Int)) = false := decide_eq_false (by omega)
       have w3 : IntKind.i64.wrap ((U : Int) + (R.1 : Int)) = ((U + R.1 : Nat) : Int) := by
        have : (c :: t).length = t.length + 1 := rfl
        rw [wrap64 (by omega) (by omega)]; omega
       have sl2 := slS2 (l := c :: t) (a := U) (b := U + R.1) (by omega) (by omega)
       rw [Nat.add_sub_cancel_left] at sl2
       obtain ⟨rest,hrest⟩ : ∃ rest,rest = ((c :: t).drop U).take R.1 := ⟨_,rfl⟩
       have rlen : rest.length = R.1 := by rw [hrest,List.length_take,List.length_drop]; omega
       rw [← hrest] at sl2
       have b64 : A.build WcA.Z70L [(0,1,str rest)] = some (.agg ⟨[str rest,.bool false]⟩) := rfl
       have b66 : A.build WcA.Z72L [(0,2,.agg ⟨[str rest,.bool false]⟩)] = some (.agg ⟨str rest :: .bool false :: (zq 0).cells nilS⟩) := rfl
       obtain ⟨h2,hh2⟩ : ∃ h2,h2 = h1.push (.cells (str rest :: .bool false :: (zq 0).cells nilS) (some 0)) := ⟨_,rfl⟩
       have e2 : A.box 26 (.agg ⟨str rest :: .bool false :: (zq 0).cells nilS⟩) h1 = some (ptrV h1.next,h2) := by rw [hh2]; rfl
       have x2 : Ext h1 h2 := by rw [hh2]; exact Ext.push h1 _
       have g2 : h2.get h.next = some (.cells WcA.Z30L (some 0)) := by rw [x2.get _ (by omega)]; exact g1
       have q2 : RS h2 h1.next rest false (zq 0) nilS := ⟨by rw [hh2,H.get_push,if_pos rfl],by rw [hh2]; exact Nat.lt_succ_self _⟩
       obtain ⟨sh,an⟩ := shr4 c.toNat_lt
       have sh : A.bin Tryd.prog .shr 5 (u8 c) (.int .u64 4) = _ := sh
       have an : A.bin Tryd.prog .and 5 (u8 c) (.int .u8 15) = _ := an
       have hc4 := c.toNat_lt
       obtain ⟨h3,e3,q3,x3,n3⟩ := q2.set (i := 2) (v := .int .u8 ((c.toNat / 16 : Nat) : Int)) (l' := rest) (bad' := false) (p' := zq (c.toNat / 16)) (w' := nilS) (by omega) rfl rfl
       have hne : h.next ≠ h1.next := by omega
       have g3 : h3.get h.next = some (.cells WcA.Z30L (some 0)) := by rw [x3.get _ (by rw [hh2]; show _ < h1.next + 1; omega) hne]; exact g2
       have x03 : Ext h h3 := ⟨Nat.le_trans (x1.trans x2).next x3.next,fun i hi => by rw [x3.get i (Nat.lt_of_lt_of_le hi (x1.trans x2).next) (by omega)]; exact (x1.trans x2).get i hi⟩
       have w7' := fun (β : Type) (x0 x6 x2 : Value) (kn : Value → Value → Value → Value → Value → Value → H → Option β) => w7 q3 (callO Tryd.prog 2 Q (k + 1001000)) (k + 1001000) x0 x6 x2 kn
       rw [rlen] at w7'
       have kz : (zq (c.toNat / 16)).kind = c.toNat / 16 := rfl
       by_cases hv : lv7 (c.toNat / 16) rest
       · have l0 := q3.ld (i := 0) rfl
         obtain ⟨b,hb⟩ : ∃ b,rest[6]? = some b := ⟨_,List.getElem?_eq_getElem hv.2.1⟩
         have hr : decP val nm fi (c :: t) = some ({ zq 1 with level := b.toNat },[],U + R.1) := by
          show (if firstB c.toNat = true then _ else _) = _
          rw [if_pos hf,← hR,if_pos he,← hU,if_neg hlt,← hrest]
          refine (if_pos hv).trans ?_
          rw [hb]; rfl
         have ix6 : A.indexStr (str rest) (.int .i64 6) = some (u8 b) := ixS (i := 6) hb
         have bl : A.build WcA.Z30L [(0,1,.int .u8 1),(7,1,u8 b)] = some (.agg ⟨({ zq 1 with level := b.toNat } : Pq).cells nilS⟩) := rfl
         obtain ⟨hy,ey,fy,xy⟩ := end7 (zs := WcA.Z30L) rfl g3 ({ zq 1 with level := b.toNat } : Pq) nilS
         have dv : decide (lv7 (zq (c.toNat / 16)).kind rest) = true := decide_eq_true hv
         refine D7.good (w := nilS) hr ?_ (Vec.nil 2 hy).slice (fun i hi => by cases hi) (toE x03 xy)
         simp only [F16,p16a,pahN,pahO,e1,qX,qZ,d,qQ,cond_false,paiC,ix,e15,un_not,Bool.not_true,paiT,sl1,e16,t0,t1,t2,paiU,dn,pajO,bin_add,w1,pajP,qJ,bin_sub,w2,zZ,dl,palE,w3,sl2,b64,b66,e2,palF,sh,qV,qY,Nat.zero_add,Nat.add_zero,e3,pafQ,w7',dv,palG,qW,cond_true,l0,ix6,bl,ey,fy]
         rfl
       · have dv : decide (lv7 (zq (c.toNat / 16)).kind rest) = false := decide_eq_false hv
         have hb1 : BS ((rest,false,zq (c.toNat / 16)) : CS) := ⟨by show rest.length ≤ 1000300; rw [hrest,List.length_take,List.length_drop]; have : (c :: t).length = t.length + 1 := rfl; omega,zq_bd (by omega)⟩
         have hbd := allS_bd val (fl := c.toNat % 16) hb1
         have hB3 : Ext B h3 := hB.trans x03
         have va1 : VA Q h1 val := va.mono (hB.trans x1)
         have h13 : Ext h1 h3 := ⟨Nat.le_trans x2.next x3.next,fun i hi => by rw [x3.get i (Nat.lt_of_lt_of_le hi x2.next) (by omega)]; exact x2.get i hi⟩
         obtain ⟨h4,w4,e4,q4,s4,sw4,x4⟩ := T17 ka va1 (h := h3) (r := h1.next) (s := (rest,false,zq (c.toNat / 16))) (k + 596) (fl := c.toNat % 16) (by omega) hb1.1 h13 (Nat.le_refl _) q3
         have e4 := (congrArg (fun n => callO Tryd.prog 2 Q n 34 [ptrV h1.next,.int .u8 ((c.toNat % 16 : Nat) : Int)] h3) (show k + 1001000 = k + 596 + 1000404 by omega)).trans e4
         obtain ⟨a,ha⟩ : ∃ a,a = allS val (c.toNat % 16) (rest,false,zq (c.toNat / 16)) := ⟨_,rfl⟩
         rw [← ha] at q4 s4 hbd
         have n3' : h.next < h3.next := by have := x3.next; have := x2.next; omega
         have g4 : h4.get h.next = some (.cells WcA.Z30L (some 0)) := by rw [x4.get _ n3' hne]; exact g3
         have x04 : Ext h h4 := ⟨Nat.le_trans x03.next x4.next,fun i hi => by rw [x4.get i (Nat.lt_of_lt_of_le hi x03.next) (by omega)]; exact x03.get i hi⟩
         have l1 := q4.ld (i := 1) rfl
         have l0 := q4.ld (i := 0) rfl
         have ne := str_ne9 a.1.1 []
         have ne : A.bin Tryd.prog .neq 9 (str a.1.1) (.string ⟨⟨[]⟩⟩) = _ := ne
         have lp := q4.packet
         have bad : ∀ {h5 : H},Ext h h5 → h5.get h.next = some (.cells WcA.Z30L (some 0)) → (a.1.2.1 = true ∨ a.1.1 ≠ [] ∨ (rstO val nm fi a.1.2.2 a.2).isSome = false) →
          (∀ (kr : Value → Value → Value → H → Option (Value × H)),padY (callO Tryd.prog 2 Q (k + 1001000)) (k + 1001000) (ptrV h1.next) (.int .i64 (U : Int)) (.int .i64 (R.1 : Int)) (ptrV h.next) h4 kr = bnd (A.build WcA.Z30L []) fun t116 => bnd (A.store 24 (ptrV h.next) t116 h5) fun hq1 => kr (ptrV h.next) (.int .i64 0) (.int .i64 4) hq1) →
          D7 (F16 (callO Tryd.prog 2 Q (k + 1001000)) (k + 1001000) (str (c :: t)) h) h (decP val nm fi (c :: t)) := by
          intro h5 x5 g5 hc st
          obtain ⟨hy,ey,fy,xy⟩ := end7 (zs := WcA.Z30L) rfl g5 (zq 0) nilS
          have hr : decP val nm fi (c :: t) = none := by
           show (if firstB c.toNat = true then _ else _) = _
           rw [if_pos hf,← hR,if_pos he,← hU,if_neg hlt,← hrest]
           refine (if_neg hv).trans ?_
           rw [← ha]
           rcases hc with hc | hc | hc
           · exact if_pos (.inl hc)
           · exact if_pos (.inr hc)
           · refine ite_eq_left_iff.2 fun _ => ?_
             rw [hc]; rfl
          refine D7.bad 4 hr ?_ (by omega) (toE x5 xy)
          simp only [F16,p16a,pahN,pahO,e1,qX,qZ,d,qQ,cond_false,paiC,ix,e15,un_not,Bool.not_true,paiT,sl1,e16,t0,t1,t2,paiU,dn,pajO,bin_add,w1,pajP,qJ,bin_sub,w2,zZ,dl,palE,w3,sl2,b64,b66,e2,palF,sh,qV,qY,Nat.zero_add,Nat.add_zero,e3,pafQ,w7',dv,palG,qW,pamS,an,e4,st,b0,ey,fy]
          rfl
         cases hbad : a.1.2.1 with
         | true =>
          have l1 := l1.trans (congrArg (fun b => some (Value.bool b)) hbad)
          refine bad x04 g4 (.inl hbad) fun kr => ?_
          simp only [padY,pafG,pajQ,qV,qZ,qY,Nat.zero_add,Nat.add_zero,l1,qQ,cond_true,pajR,qW]
         | false =>
          have l1 := l1.trans (congrArg (fun b => some (Value.bool b)) hbad)
          by_cases hn : a.1.1 = []
          · rw [decide_eq_true hn] at ne
            obtain ⟨h5,e5,x5⟩ := rg.rg k h4 a.1.2.2 a.2 w4 (hB.trans x04) hbd s4
            have g5 : h5.get h.next = some (.cells WcA.Z30L (some 0)) := by rw [x5.get _ (Nat.lt_of_lt_of_le n3' x4.next)]; exact g4
            cases hrg : (rstO val nm fi a.1.2.2 a.2).isSome with
            | false =>
             rw [hrg] at e5
             refine bad (x04.trans x5) g5 (.inr (.inr hrg)) fun kr => ?_
             simp only [padY,pafG,pajQ,qV,qZ,qY,Nat.zero_add,Nat.add_zero,l1,qQ,cond_false,l0,ne,Bool.not_true,lp,e5,qX,un_not,Bool.not_false,pajR,qW,cond_true]
            | true =>
             rw [hrg] at e5
             have q5 := q4.ext x5
             have lp5 := q5.packet
             obtain ⟨hy,ey,fy,xy⟩ := end7 (zs := WcA.Z30L) rfl g5 a.1.2.2 w4
             have hr : decP val nm fi (c :: t) = some (a.1.2.2,a.2,U + R.1) := by
              show (if firstB c.toNat = true then _ else _) = _
              rw [if_pos hf,← hR,if_pos he,← hU,if_neg hlt,← hrest]
              refine (if_neg hv).trans ?_
              rw [← ha]
              refine (if_neg ?_).trans ?_
              · rw [hbad]; simp [hn]
              · rw [hrg]; rfl
             have hsid : ∀ i,sid w4 = some i → i < h4.next := fun i hi => s4.sid_lt i hi
             refine D7.good (w := w4) hr ?_ ((s4.ext x5).extBut xy fun j hj e => by have := (sw4 j hj).1; omega) (fun i hi => by have := (sw4 i hi).1; omega) (toE (x04.trans x5) xy)
             have st : ∀ (kr : Value → Value → Value → H → Option (Value × H)),padY (callO Tryd.prog 2 Q (k + 1001000)) (k + 1001000) (ptrV h1.next) (.int .i64 (U : Int)) (.int .i64 (R.1 : Int)) (ptrV h.next) h4 kr = kr (ptrV h.next) (.int .i64 ((U + R.1 : Nat) : Int)) (.int .i64 0) hy := by
              intro kr
              simp only [padY,pafG,pajQ,qV,qZ,qY,Nat.zero_add,Nat.add_zero,l1,qQ,cond_false,l0,ne,Bool.not_true,lp,e5,qX,un_not,pajR,qW,papD,lp5,bin_add,w3,ey]
             simp only [F16,p16a,pahN,pahO,e1,qX,qZ,d,qQ,cond_false,paiC,ix,e15,un_not,Bool.not_true,paiT,sl1,e16,t0,t1,t2,paiU,dn,pajO,bin_add,w1,pajP,qJ,bin_sub,w2,zZ,dl,palE,w3,sl2,b64,b66,e2,palF,sh,qV,qY,Nat.zero_add,Nat.add_zero,e3,pafQ,w7',dv,palG,qW,pamS,an,e4,st,fy]
             rfl
          · rw [decide_eq_false hn] at ne
            refine bad x04 g4 (.inr (.inl hn)) fun kr => ?_
            simp only [padY,pafG,pajQ,qV,qZ,qY,Nat.zero_add,Nat.add_zero,l1,qQ,cond_false,l0,ne,Bool.not_false,cond_true,pajR,qW]
   · have hr : decP val nm fi (c :: t) = none := by
      show (if firstB c.toNat = true then _ else _) = _
      rw [if_pos hf,← hR,if_neg he]
     have dn : A.bin Tryd.prog .neq 31 (.int .i64 (R.2.2 : Int)) (.int .i64 0) = some (.bool true) := by rw [bin_neq,decide_eq_false (by omega)]; rfl
     refine D7.bad R.2.2 hr ?_ (by omega) (toE x1 xz)
     simp only [F16,p16a,pahN,pahO,e1,qX,qZ,d,qQ,cond_false,paiC,ix,e15,un_not,Bool.not_true,paiT,sl1,e16,t0,t1,t2,paiU,dn,cond_true,b0,ez,fz]
     rfl
end
end Go.Proofs.YtohapjojkjjflaaDoor.Wc
