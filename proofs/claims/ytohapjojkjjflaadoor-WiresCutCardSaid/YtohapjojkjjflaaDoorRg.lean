import Derived.Test.YtohapjojkjjflaaDoorWcA
import Derived.Test.YtohapjojkjjflaaDoorRf
namespace Go.Proofs.YtohapjojkjjflaaDoor.Wc
open Go Go.AM
abbrev ptrV (p : Nat) : Value := .pointer (some ⟨p,0,none⟩)
abbrev u8 (b : UInt8) : Value := .int .u8 (b.toNat : Int)
abbrev str (l : List UInt8) : Value := .string ⟨⟨l⟩⟩
abbrev nilS : Value := .slice none 0 0
theorem toBytes_u8 : ∀ l : List UInt8,A.toBytes (l.map u8) = some l
 | [] => rfl
 | b :: l => by
  show (A.toBytes (l.map u8)).map (fun r => UInt8.ofNat ((b.toNat : Int).toNat) :: r) = _
  rw [toBytes_u8 l]
  simp
theorem qJ (l : List UInt8) : A.lenStr (str l) = some (.int .i64 (l.length : Int)) := rfl
theorem qB {Q : Orc} {f : Nat} {args : List Value} {v : Value} (hq : Q f args = some v) (n : Nat) (h : H) : callO Tryd.prog 2 Q (n + 1) f args h = some (v,h) := by
 simp only [callO,hq]
def frL : List Nat := [7,5,8,3,28,41,42,30,31,14,29,15,12,21,11,6,13,22,23,24,25,27,17,6,14,16,33,34,35,20,43,44,45,46,47,48,57,58,59,26,64,38,39,40,66,61,65,67,69,71,72,54,73,74,75,80,81,83,79,55,56,62,63]
def PM : List UInt8 := [43,35]
def pmC (c : Nat) : Bool := decide (c = 43 ∨ c = 35)
def asciiPM : List Value := (List.range 256).map fun c => Value.bool (pmC c)
structure KnA (Q : Orc) : Prop where
 fr : ∀ f args,f ∈ frL → Q f args = none
 fq : ∀ c : Nat,c < 256 → Q 32 [.int .u8 (c : Int)] = some (.bool (firstB c))
 qa : Q 68 [str PM] = some (.tuple ⟨[.agg ⟨asciiPM⟩,.bool true]⟩)
theorem conv53 (n : Nat) (hn : n < 256) : A.conv Tryd.prog 5 3 (.int .u8 (n : Int)) = some (.int .i64 (n : Int)) := by
 have u5 : Tryd.prog.underlying 5 = some (.int .u8) := Tryd.underlying5
 have u3 : Tryd.prog.underlying 3 = some (.int .i64) := Tryd.underlying3
 simp only [A.conv,u5,u3]
 rw [wrap64 (by omega) (by omega)]
theorem conv35 (n : Nat) : A.conv Tryd.prog 3 5 (.int .i64 (n : Int)) = some (.int .u8 ((n % 256 : Nat) : Int)) := by
 have u5 : Tryd.prog.underlying 5 = some (.int .u8) := Tryd.underlying5
 have u3 : Tryd.prog.underlying 3 = some (.int .i64) := Tryd.underlying3
 simp only [A.conv,u5,u3]
 have e : IntKind.u8.wrap (n : Int) = (n : Int) % 256 := rfl
 rw [e]; rfl
theorem conv334 (n : Nat) (hn : n < 65536) : A.conv Tryd.prog 25 3 (.int .u16 (n : Int)) = some (.int .i64 (n : Int)) := by
 have u5 : Tryd.prog.underlying 25 = some (.int .u16) := Tryd.underlying25
 have u3 : Tryd.prog.underlying 3 = some (.int .i64) := Tryd.underlying3
 simp only [A.conv,u5,u3]
 rw [wrap64 (by omega) (by omega)]
theorem conv372 {n : Nat} (hn : n < 65536) : A.conv Tryd.prog 3 25 (.int .i64 (n : Int)) = some (.int .u16 (n : Int)) := by
 have u5 : Tryd.prog.underlying 25 = some (.int .u16) := Tryd.underlying25
 have u3 : Tryd.prog.underlying 3 = some (.int .i64) := Tryd.underlying3
 simp only [A.conv,u5,u3]
 have e : IntKind.u16.wrap (n : Int) = (n : Int) % 65536 := rfl
 rw [e,Int.emod_eq_of_lt (by omega) (by omega)]
theorem shr8 (n : Nat) : A.bin Tryd.prog .shr 3 (.int .i64 (n : Int)) (.int .u64 8) = some (.int .i64 ((n / 256 : Nat) : Int)) := by
 show some (Value.int .i64 (Int.fdiv (n : Int) (2 ^ (min (8 : Int).toNat IntKind.i64.bits)))) = _
 have : (2 : Int) ^ (min (8 : Int).toNat IntKind.i64.bits) = 256 := by decide
 rw [this,Int.fdiv_eq_ediv_of_nonneg _ (by omega)]; rfl
theorem or_nat {x y : Nat} (hx : x < 2 ^ 62) (hy : y < 2 ^ 62) : A.bin Tryd.prog .or 3 (.int .i64 (x : Int)) (.int .i64 (y : Int)) = some (.int .i64 ((x ||| y : Nat) : Int)) := by
 show some (Value.int .i64 (IntKind.i64.wrap ((BitVec.ofInt 64 (x : Int) ||| BitVec.ofInt 64 (y : Int)).toNat : Int))) = _
 have e : (BitVec.ofInt 64 (x : Int) ||| BitVec.ofInt 64 (y : Int)).toNat = x ||| y := by
  rw [BitVec.toNat_or]
  have f : ∀ {z : Nat},z < 2 ^ 62 → (BitVec.ofInt 64 (z : Int)).toNat = z := fun {z} hz => by
   rw [BitVec.ofInt_natCast,BitVec.toNat_ofNat,Nat.mod_eq_of_lt (by omega)]
  rw [f hx,f hy]
 have l : x ||| y < 2 ^ 62 := Nat.or_lt_two_pow hx hy
 rw [e,wrap64 (by omega) (by omega)]
theorem or_word (a b : UInt8) : ∃ x,A.bin Tryd.prog .shl 3 (.int .i64 (a.toNat : Int)) (.int .u64 8) = some (.int .i64 x) ∧ A.bin Tryd.prog .or 3 (.int .i64 x) (.int .i64 (b.toNat : Int)) = some (.int .i64 ((256 * a.toNat + b.toNat : Nat) : Int)) := by
 have ha := a.toNat_lt
 have hb := b.toNat_lt
 have sh : A.bin Tryd.prog .shl 3 (.int .i64 (a.toNat : Int)) (.int .u64 8) = some (.int .i64 ((256 * a.toNat : Nat) : Int)) := by
  show some (Value.int .i64 (IntKind.i64.wrap ((a.toNat : Int) * (2 ^ (min (8 : Int).toNat IntKind.i64.bits))))) = _
  have : (2 : Int) ^ (min (8 : Int).toNat IntKind.i64.bits) = 256 := by decide
  rw [this,wrap64 (by omega) (by omega)]
  congr 2; omega
 refine ⟨_,sh,?_⟩
 rw [or_nat (by omega) (by omega)]
 have := Nat.two_pow_add_eq_or_of_lt (i := 8) hb a.toNat
 rw [show (2 : Nat) ^ 8 = 256 from rfl] at this
 rw [this]
structure Buf (h : H) (v : Value) (q cap : Nat) (es : List UInt8) : Prop where
 eq : v = .slice (some ⟨q,0,none⟩) es.length (2 * cap + 1)
 lt : q < h.next
 le : es.length ≤ cap
 get : ∃ cs,h.get q = some (.cells cs (some 1)) ∧ cs.length = cap ∧ cs.take es.length = es.map u8
theorem Buf.but {S : Nat → Prop} {h h' : H} {v : Value} {q cap : Nat} {es : List UInt8} (b : Buf h v q cap es) (x : ExtBut S h h') (s : ¬ S q) : Buf h' v q cap es := by
 obtain ⟨cs,hg,r⟩ := b.get
 exact ⟨b.eq,Nat.lt_of_lt_of_le b.lt x.next,b.le,cs,by rw [x.get q b.lt s]; exact hg,r⟩
theorem Buf.ext {h h' : H} {v : Value} {q cap : Nat} {es : List UInt8} (b : Buf h v q cap es) (x : Ext h h') : Buf h' v q cap es := b.but (S := fun _ => False) x.but (fun h => h)
theorem Buf.make (h : H) {z : List Value} (hz : z.length = 1) (cap : Nat) (hc : cap ≤ 1000000000000) : ∃ h',A.makeSlice 1 1 z (.int .i64 0) (.int .i64 (cap : Int)) h = some (.slice (some ⟨h.next,0,none⟩) 0 (2 * cap + 1),h') ∧ Buf h' (.slice (some ⟨h.next,0,none⟩) 0 (2 * cap + 1)) h.next cap [] ∧ Ext h h' ∧ h'.next = h.next + 1 := by
 obtain ⟨h',hh⟩ : ∃ h',h' = h.push (.cells (A.zeros z cap) (some 1)) := ⟨_,rfl⟩
 have hl : ∀ n,(A.zeros z n).length = n := fun n => by
  induction n with
  | zero => rfl
  | succ n ih => simp only [A.zeros,List.length_append,hz] at ih ⊢; omega
 refine ⟨h',?_,⟨rfl,by rw [hh]; exact Nat.lt_succ_self _,Nat.zero_le _,_,by rw [hh,H.get_push,if_pos rfl],hl cap,by simp⟩,by rw [hh]; exact Ext.push h _,by rw [hh]; rfl⟩
 have e1 : Nat.ble (1 * cap) (2 ^ 47) = true := ble_iff.2 (by omega)
 have e2 : Nat.ble cap (2 ^ 47) = true := ble_iff.2 (by omega)
 show (bif Nat.ble 0 cap && Nat.ble (1 * cap) (2 ^ 47) && Nat.ble cap (2 ^ 47) then some (Value.slice (some ⟨h.next,0,none⟩) 0 (2 * cap + 1),h.push (.cells (A.zeros z cap) (some 1))) else none) = _
 rw [e1,e2,← hh,show Nat.ble 0 cap = true from ble_iff.2 (Nat.zero_le _)]; rfl
theorem Buf.app {h : H} {v x : Value} {q cap : Nat} {es new : List UInt8} (b : Buf h v q cap es) (he : A.elems 1 x h = some (new.map u8)) (hn : A.lenOf x = new.length) (hc : es.length + new.length ≤ cap) :
 ∃ v' h',A.append 1 1 v x h = some (v',h') ∧ Buf h' v' q cap (es ++ new) ∧ ExtBut (fun i => i = q) h h' ∧ h'.next = h.next := by
 obtain ⟨cs,hg,hl,ht⟩ := b.get
 rw [b.eq]
 by_cases h0 : new = []
 · subst h0
   have : A.append 1 1 (.slice (some ⟨q,0,none⟩) es.length (2 * cap + 1)) x h = some (.slice (some ⟨q,0,none⟩) es.length (2 * cap + 1),h) := by
    simp only [A.append,he,hn]; rfl
   exact ⟨_,h,this,by rw [List.append_nil,← b.eq]; exact b,⟨Nat.le_refl _,fun _ _ _ => rfl⟩,rfl⟩
 · have hpos : 0 < new.length := List.length_pos_iff.2 h0
   have e0 : Nat.beq new.length 0 = false := by rw [T.beq_dec,decide_eq_false_iff_not]; omega
   have e1 : Nat.ble (es.length + new.length) ((2 * cap + 1) / 2) = true := ble_iff.2 (by omega)
   have e2 : Nat.ble (0 + (es.length + new.length) * 1) cs.length = true := ble_iff.2 (by omega)
   obtain ⟨h',hh⟩ : ∃ h',h' = h.put q (.cells (splice cs (0 + es.length * 1) (new.map u8)) (some 1)) := ⟨_,rfl⟩
   refine ⟨.slice (some ⟨q,0,none⟩) (es ++ new).length (2 * cap + 1),h',?_,⟨rfl,by rw [hh]; exact b.lt,by rw [List.length_append]; exact hc,_,by rw [hh,H.get_put,if_pos rfl],?_,?_⟩,by rw [hh]; exact ExtBut.put ⟨Nat.le_refl _,fun _ _ _ => rfl⟩ q _ rfl,by rw [hh]; rfl⟩
   · simp only [A.append,he,hn,e0,cond_false,hg,e1,cond_true,e2,List.length_append]
     rw [← hh]
   · rw [splice_length]; exact hl
     simp only [List.length_map]; omega
   · have hle : es.length ≤ cs.length := by omega
     simp only [splice,Nat.zero_add,Nat.mul_one]
     rw [List.take_append_of_le_length (by simp only [List.length_append,List.length_take,List.length_map]; omega),List.map_append,ht]
     rw [List.take_of_length_le (by simp)]
theorem elems_str (l : List UInt8) (h : H) : A.elems 1 (str l) h = some (l.map u8) := rfl
theorem lenOf_str (l : List UInt8) : A.lenOf (str l) = l.length := rfl
theorem Buf.b2s {h : H} {v : Value} {q cap : Nat} {es : List UInt8} (b : Buf h v q cap es) : A.b2s v h = some (str es) := by
 obtain ⟨cs,hg,hl,ht⟩ := b.get
 have hle := b.le
 have he : A.elems 1 v h = some (es.map u8) := by
  rw [b.eq]
  simp only [A.elems]
  by_cases h0 : es.length = 0
  · have : es = [] := List.length_eq_zero_iff.1 h0
    subst this
    rfl
  · rw [show Nat.beq es.length 0 = false by rw [T.beq_dec,decide_eq_false_iff_not]; exact h0]
    simp only [cond_false,hg]
    rw [show Nat.ble (0 + es.length * 1) cs.length = true from ble_iff.2 (by omega)]
    simp only [cond_true,List.drop_zero,Nat.mul_one,ht]
 rw [b.eq] at he ⊢
 simp only [A.b2s,he,toBytes_u8]; rfl
theorem lit1 (h : H) {z : List Value} (hz : z.length = 1) (a : Int) (b : UInt8) (ha : a = (b.toNat : Int)) : ∃ h',A.buildSlice 1 1 z [(0,1,.int .u8 a)] h = some (.slice (some ⟨h.next,0,none⟩) 1 3,h') ∧ A.elems 1 (.slice (some ⟨h.next,0,none⟩) 1 3) h' = some ([b].map u8) ∧ Ext h h' ∧ h'.next = h.next + 1 := by
 subst ha
 obtain ⟨h',hh⟩ : ∃ h',h' = h.push (.cells [u8 b] (some 1)) := ⟨_,rfl⟩
 refine ⟨h',by rw [hh]; exact buildSlice_one h hz rfl rfl,?_,by rw [hh]; exact Ext.push h _,by rw [hh]; rfl⟩
 have hg : h'.get h.next = some (.cells [u8 b] (some 1)) := by rw [hh,H.get_push,if_pos rfl]
 simp only [A.elems,hg]; rfl
theorem lit2 (h : H) {z : List Value} (hz : z.length = 1) (a b : Int) (a' b' : UInt8) (ha : a = (a'.toNat : Int)) (hb : b = (b'.toNat : Int)) :
 ∃ h',A.buildSlice 1 2 z [(0,1,.int .u8 a),(1,1,.int .u8 b)] h = some (.slice (some ⟨h.next,0,none⟩) 2 5,h') ∧ A.elems 1 (.slice (some ⟨h.next,0,none⟩) 2 5) h' = some ([a',b'].map u8) ∧ Ext h h' ∧ h'.next = h.next + 1 := by
 subst ha; subst hb
 obtain ⟨h',hh⟩ : ∃ h',h' = h.push (.cells [u8 a',u8 b'] (some 1)) := ⟨_,rfl⟩
 have hg : h'.get h.next = some (.cells [u8 a',u8 b'] (some 1)) := by rw [hh,H.get_push,if_pos rfl]
 refine ⟨h',?_,?_,by rw [hh]; exact Ext.push h _,by rw [hh]; rfl⟩
 · match z,hz with
   | [z0],_ => rw [hh]; rfl
 · simp only [A.elems,hg]; rfl
theorem cat9 {a b : List UInt8} (h : a.length + b.length ≤ 1000000000000) : A.bin Tryd.prog .add 9 (str a) (str b) = some (str (a ++ b)) := by
 have e : A.bin Tryd.prog .add 9 (str a) (str b) = (bif Nat.ble (a.length + b.length) 9223372036854775807 then some (str (a ++ b)) else none) := by rfl
 rw [e,show Nat.ble (a.length + b.length) 9223372036854775807 = true from ble_iff.2 (by omega)]; rfl
theorem quoI {a c : Nat} (ha : a < 1000000000000) (hc : 0 < c) : A.bin Tryd.prog .quo 3 (.int .i64 (a : Int)) (.int .i64 (c : Int)) = some (.int .i64 ((a / c : Nat) : Int)) := by
 rw [bin_quo Tryd.prog 3 .i64 _ _ (by omega)]
 have e : (a : Int).tdiv (c : Int) = ((a / c : Nat) : Int) := by rw [Int.tdiv_eq_ediv_of_nonneg (by omega)]; rfl
 obtain ⟨z,hz⟩ : ∃ z,z = a / c := ⟨_,rfl⟩
 have hle : z ≤ a := hz ▸ Nat.div_le_self a c
 rw [e,← hz,wrap64 (by omega) (by omega)]
theorem remI {a c : Nat} (hc : 0 < c) : A.bin Tryd.prog .rem 3 (.int .i64 (a : Int)) (.int .i64 (c : Int)) = some (.int .i64 ((a % c : Nat) : Int)) := by
 rw [bin_rem Tryd.prog 3 .i64 _ _ (by omega)]
 rw [Int.tmod_eq_emod_of_nonneg (by omega)]
 rfl
theorem dne {k : Nat} {c : Int} (h : (k : Int) ≠ c) : decide ((k : Int) = c) = false := decide_eq_false h
theorem deq {k : Nat} {c : Int} (h : (k : Int) = c) : decide ((k : Int) = c) = true := decide_eq_true h
theorem ofNat_int {n : Nat} (hn : n < 256) : (n : Int) = ((UInt8.ofNat n).toNat : Int) := by rw [UInt8.toNat_ofNat',Nat.mod_eq_of_lt hn]
def sbC (s : Sb) : List Value := [str s.1,.int .u8 (s.2 : Int)]
def Pq.cells (p : Pq) (w : Value) : List Value := [.int .u8 (p.kind : Int),.bool p.dup,.int .u8 (p.qos : Int),.bool p.retain,.int .u16 (p.id : Int),str p.topic,str p.payload,.int .u8 (p.level : Int),.bool p.clean,.int .u16 (p.keep : Int),str p.client,.bool p.will,str p.wt,str p.wp,.int .u8 (p.wq : Int),.bool p.wr,.bool p.hu,.bool p.hp,str p.user,str p.pass,.bool p.present,.int .u8 (p.code : Int),w,str p.codes]
def BQ (h : H) (t : Nat) (p : Pq) (w : Value) : Prop := h.get t = some (.cells (p.cells w) (some 0)) ∧ t < h.next
theorem BQ.ld {h : H} {t : Nat} {p : Pq} {w : Value} (b : BQ h t p w) {i : Nat} {v : Value} (hv : (p.cells w)[i]? = some v) : A.load false 1 (.pointer (some ⟨t,i,none⟩)) h = some v := by
 rw [qK,b.1]; exact hv
theorem BQ.all {h : H} {t : Nat} {p : Pq} {w : Value} (b : BQ h t p w) : A.load true 24 (ptrV t) h = some (.agg ⟨p.cells w⟩) := by
 rw [loadN_eq,b.1]; rfl
theorem BQ.but {S : Nat → Prop} {h h' : H} {t : Nat} {p : Pq} {w : Value} (b : BQ h t p w) (x : ExtBut S h h') (s : ¬ S t) : BQ h' t p w := ⟨by rw [x.get t b.2 s]; exact b.1,Nat.lt_of_lt_of_le b.2 x.next⟩
theorem BQ.ext {h h' : H} {t : Nat} {p : Pq} {w : Value} (b : BQ h t p w) (x : Ext h h') : BQ h' t p w := b.but (S := fun _ => False) x.but (fun h => h)
theorem box_pq (p : Pq) {w : Value} (hw : cellsL w = some [w]) (h : H) : ∃ h',A.box 24 (.agg ⟨p.cells w⟩) h = some (ptrV h.next,h') ∧ BQ h' h.next p w ∧ Ext h h' ∧ h'.next = h.next + 1 := by
 obtain ⟨h',hh⟩ : ∃ h',h' = h.push (.cells (p.cells w) (some 0)) := ⟨_,rfl⟩
 refine ⟨h',?_,⟨by rw [hh,H.get_push,if_pos rfl],by rw [hh]; exact Nat.lt_succ_self _⟩,by rw [hh]; exact Ext.push h _,by rw [hh]; rfl⟩
 rw [box_eq,hh]; rfl
theorem chk1 {v : Value} (hv : AM.same v v = true) : chk (some v) v = true := hv
theorem chk_u8 (n : Int) : chk (some (.int .u8 n)) (.int .u8 n) = true := chk1 (by simp [AM.same])
theorem chk_b (b : Bool) : chk (some (.bool b)) (.bool b) = true := chk1 (by cases b <;> rfl)
theorem chk_s (l : List UInt8) : chk (some (str l)) (str l) = true := chk1 (by simp [AM.same])
end Go.Proofs.YtohapjojkjjflaaDoor.Wc

namespace Go.Proofs.YtohapjojkjjflaaDoor.Wc
open Go Go.AM WcA
section
variable {Q : Orc} (kn : KnA Q) {h : H}
include kn
theorem T112 (k : Nat) (b : Bool) {n : Nat} (hn : n < 8) : callO Tryd.prog 2 Q (k + 1) 28 [.bool b,.int .u64 (n : Int)] h = some (.int .u8 ((if b then 2 ^ n else 0 : Nat) : Int),h) := by
 rw [F28eq Q k _ _ h (kn.fr 28 _ (by decide))]
 have sh : A.bin Tryd.prog .shl 5 (.int .u8 1) (.int .u64 (n : Int)) = some (.int .u8 ((2 ^ n : Nat) : Int)) := by
  have all : ((List.range 8).all fun m => match A.bin Tryd.prog .shl 5 (.int .u8 1) (.int .u64 (m : Int)) with | some v => AM.same v (.int .u8 ((2 ^ m : Nat) : Int)) | none => false) = true := by kernel_rfl
  have := List.all_eq_true.1 all n (List.mem_range.2 hn)
  split at this
  · rename_i v hv
    rw [hv,same_eq _ _ this]
  · cases this
 cases b with
 | true => simp only [F28,p28a,qQ,cond_true,sh,qZ,if_true]
 | false => simp only [F28,p28a,qQ,cond_false]; rfl
theorem T145 (k : Nat) {n : Nat} (hn : n < 65536) {x : Value} (sx : SliceE 1 h x [[.int .i64 (n : Int)]]) : ∃ h',callO Tryd.prog 2 Q (k + 3) 42 [x] h = some (.tuple ⟨[str (wordB n),.int .i64 0]⟩,h') ∧ Ext h h' := by
 rw [F42eq Q (k + 2) _ h (kn.fr 42 _ (by decide))]
 have hl : A.lenS x = some (.int .i64 1) := sx.len.1
 obtain ⟨h1,e1,b1,x1,n1⟩ := Buf.make h (z := WcA.Z5L) rfl 2 (by omega)
 have e1 : A.makeSlice 1 1 WcA.Z5L (.int .i64 0) (.int .i64 2) h = some (.slice (some ⟨h.next,0,none⟩) 0 (2 * 2 + 1),h1) := e1
 obtain ⟨id,off,cells,own,ix,_,hg,_,_,hc⟩ := (sx.ext x1).at (i := 0) (e := [.int .i64 (n : Int)]) rfl .i64
 have ix : A.idxS 1 x (.int .i64 0) = some (.pointer (some ⟨id,off,none⟩)) := ix
 have ld : A.load false 1 (.pointer (some ⟨id,off,none⟩)) h1 = some (.int .i64 (n : Int)) := by
  rw [qK,hg]
  have := hc 0 (by omega)
  simpa using this
 have w2 : A.bin Tryd.prog .mul 3 (.int .i64 2) (.int .i64 1) = some (.int .i64 2) := by kernel_rfl
 have d1 : decide ((n : Int) < 0) = false := by rw [decide_eq_false_iff_not]; omega
 have d2 : decide ((65535 : Int) < (n : Int)) = false := by rw [decide_eq_false_iff_not]; omega
 have c1 : decide ((0 : Int) < 1) = true := rfl
 have c2 : decide ((1 : Int) < 1) = false := rfl
 have sh := shr8 n
 have cv0 := conv35 (n / 256)
 have cvn := conv35 n
 have m1 : n / 256 % 256 = n / 256 := Nat.mod_eq_of_lt (by omega)
 rw [m1] at cv0
 obtain ⟨h2,e2,el2,x2,n2⟩ := lit2 h1 (z := WcA.Z5L) rfl ((n / 256 : Nat) : Int) ((n % 256 : Nat) : Int) _ _ (ofNat_int (by omega)) (ofNat_int (by omega))
 obtain ⟨v3,h3,e3,b3,x3,n3⟩ := (b1.ext x2).app (new := wordB n) el2 rfl (by simp [wordB])
 have eb := b3.b2s
 refine ⟨h3,?_,?_⟩
 · simp only [F42,p42a,paqM,paqN,hl,qZ,w2,e1,qX,padG,paqO,padZ,pamE,paeY,paqP,zZ,c1,paqQ,qW,cond_true,paqR,ix,ld,d1,qQ,cond_false,zY,d2,sh,cv0,cvn,e2,e3,paqS,bin_add]
   have w1 : IntKind.i64.wrap ((0 : Int) + 1) = 1 := rfl
   simp only [w1,c2,cond_false,paqT,eb,qZ]
   rfl
 · refine ⟨by rw [n3]; exact Nat.le_trans x1.next x2.next,fun q hq => ?_⟩
   rw [x3.get q (by have := x1.next; have := x2.next; omega) (by omega),x2.get q (by have := x1.next; omega),x1.get q hq]
theorem T157 (k : Nat) {s : List UInt8} (hs : s.length ≤ 65535) : ∃ h',callO Tryd.prog 2 Q (k + 4) 41 [str s] h = some (.tuple ⟨[str (fieldB s),.int .i64 0]⟩,h') ∧ Ext h h' := by
 rw [F41eq Q (k + 3) _ h (kn.fr 41 _ (by decide))]
 obtain ⟨h1,hh1⟩ : ∃ h1,h1 = h.push (.cells [.int .i64 (s.length : Int)] (some 1)) := ⟨_,rfl⟩
 have e1 : A.buildSlice 1 1 WcA.Z3L [(0,1,.int .i64 (s.length : Int))] h = some (.slice (some ⟨h.next,0,none⟩) 1 3,h1) := by
  rw [hh1]; exact buildSlice_one h rfl rfl rfl
 have x1 : Ext h h1 := by rw [hh1]; exact Ext.push h _
 have s1 : SliceE 1 h1 (.slice (some ⟨h.next,0,none⟩) 1 3) [[.int .i64 (s.length : Int)]] := by rw [hh1]; exact slice_one rfl
 obtain ⟨h2,e2,x2⟩ := T145 kn k (n := s.length) (by omega) s1
 have t0 : A.extract 0 (.tuple ⟨[str (wordB s.length),.int .i64 0]⟩) = some (str (wordB s.length)) := rfl
 have t1 : A.extract 1 (.tuple ⟨[str (wordB s.length),.int .i64 0]⟩) = some (.int .i64 0) := rfl
 have d : A.bin Tryd.prog .neq 31 (.int .i64 0) (.int .i64 0) = some (.bool false) := by rw [bin_neq]; rfl
 have ca : A.bin Tryd.prog .add 9 (str (wordB s.length)) (str s) = some (str (fieldB s)) := cat9 (by show 2 + s.length ≤ _; omega)
 refine ⟨h2,?_,x1.trans x2⟩
 simp only [F41,p41a,qJ,qZ,e1,qX,e2,t0,t1,d,qQ,cond_false,ca]
theorem T114 (k : Nat) {v : Value} {q cap : Nat} {es s : List UInt8} (b : Buf h v q cap es) (hs : s.length ≤ 65535) (hc : es.length + (2 + s.length) ≤ cap) :
 ∃ v' h',callO Tryd.prog 2 Q (k + 5) 30 [v,str s] h = some (v',h') ∧ Buf h' v' q cap (es ++ fieldB s) ∧ ExtBut (fun i => i = q) h h' := by
 rw [F30eq Q (k + 4) _ _ h (kn.fr 30 _ (by decide))]
 obtain ⟨h1,e157,x1⟩ := T157 kn (h := h) k hs
 have t0 : A.extract 0 (.tuple ⟨[str (fieldB s),.int .i64 0]⟩) = some (str (fieldB s)) := rfl
 have t1 : A.extract 1 (.tuple ⟨[str (fieldB s),.int .i64 0]⟩) = some (.int .i64 0) := rfl
 obtain ⟨v',h',e,b',x,n⟩ := (b.ext x1).app (elems_str (fieldB s) h1) (lenOf_str _) (by rw [fieldB_len]; exact hc)
 refine ⟨v',h',?_,b',x1.but.trans x⟩
 simp only [F30,p30a,e157,qX,t0,t1,qZ,e]
theorem T115 (k : Nat) {v : Value} {q cap : Nat} {es : List UInt8} {n : Nat} (b : Buf h v q cap es) (hn : n < 65536) (hc : es.length + 2 ≤ cap) :
 ∃ v' h',callO Tryd.prog 2 Q (k + 4) 31 [v,.int .u16 (n : Int)] h = some (v',h') ∧ Buf h' v' q cap (es ++ wordB n) ∧ ExtBut (fun i => i = q) h h' := by
 rw [F31eq Q (k + 3) _ _ h (kn.fr 31 _ (by decide))]
 have cv := conv334 n hn
 obtain ⟨h1,hh1⟩ : ∃ h1,h1 = h.push (.cells [.int .i64 (n : Int)] (some 1)) := ⟨_,rfl⟩
 have e1 : A.buildSlice 1 1 WcA.Z3L [(0,1,.int .i64 (n : Int))] h = some (.slice (some ⟨h.next,0,none⟩) 1 3,h1) := by
  rw [hh1]; exact buildSlice_one h rfl rfl rfl
 have x1 : Ext h h1 := by rw [hh1]; exact Ext.push h _
 have s1 : SliceE 1 h1 (.slice (some ⟨h.next,0,none⟩) 1 3) [[.int .i64 (n : Int)]] := by rw [hh1]; exact slice_one rfl
 obtain ⟨h2,e2,x2⟩ := T145 kn k hn s1
 obtain ⟨v',h',e3,b3,x3,_⟩ := ((b.ext x1).ext x2).app (new := wordB n) (elems_str _ h2) (lenOf_str _) (by simpa [wordB] using hc)
 have t0 : A.extract 0 (.tuple ⟨[str (wordB n),.int .i64 0]⟩) = some (str (wordB n)) := rfl
 have t1 : A.extract 1 (.tuple ⟨[str (wordB n),.int .i64 0]⟩) = some (.int .i64 0) := rfl
 refine ⟨v',h',?_,b3,((x1.trans x2).but).trans x3⟩
 simp only [F31,p31a,cv,qZ,e1,qX,e2,t0,t1,e3]
omit kn in
theorem bits3 (d r : Bool) {q : Nat} (hq : q ≤ 2) : A.bin Tryd.prog .shl 5 (.int .u8 (q : Int)) (.int .u64 1) = some (.int .u8 ((2 * q : Nat) : Int)) ∧ A.bin Tryd.prog .or 5 (.int .u8 ((if d then 2 ^ 3 else 0 : Nat) : Int)) (.int .u8 ((2 * q : Nat) : Int)) = some (.int .u8 (((if d then 8 else 0) + 2 * q : Nat) : Int)) ∧
 A.bin Tryd.prog .or 5 (.int .u8 (((if d then 8 else 0) + 2 * q : Nat) : Int)) (.int .u8 ((if r then 2 ^ 0 else 0 : Nat) : Int)) = some (.int .u8 (((if d then 8 else 0) + 2 * q + (if r then 1 else 0) : Nat) : Int)) := by
 have h3 : q = 0 ∨ q = 1 ∨ q = 2 := by omega
 rcases h3 with rfl | rfl | rfl <;> cases d <;> cases r <;> refine ⟨?_,?_,?_⟩ <;> kernel_rfl
theorem T86 (k : Nat) (p : Pq) {w : Value} (hw : cellsL w = some [w]) (hq : p.kind = 3 → p.qos ≤ 2) : ∃ h',callO Tryd.prog 2 Q (k + 2) 14 [.agg ⟨p.cells w⟩] h = some (.int .u8 (flagsN p : Int),h') ∧ Ext h h' := by
 rw [F14eq Q (k + 1) _ h (kn.fr 14 _ (by decide))]
 obtain ⟨h1,e1,b1,x1,_⟩ := box_pq p hw h
 have l0 := b1.ld (i := 0) rfl
 have l1 := b1.ld (i := 1) rfl
 have l2 := b1.ld (i := 2) rfl
 have l3 := b1.ld (i := 3) rfl
 refine ⟨h1,?_,x1⟩
 by_cases h3 : p.kind = 3
 · have d3 : decide ((p.kind : Int) = 3) = true := by rw [decide_eq_true_iff]; omega
   obtain ⟨o1,o2,o3⟩ := bits3 p.dup p.retain (hq h3)
   have c1 := T112 kn (h := h1) k p.dup (n := 3) (by omega)
   have c2 := T112 kn (h := h1) k p.retain (n := 0) (by omega)
   have c1 : callO Tryd.prog 2 Q (k + 1) 28 [.bool p.dup,.int .u64 3] h1 = _ := c1
   have c2 : callO Tryd.prog 2 Q (k + 1) 28 [.bool p.retain,.int .u64 0] h1 = _ := c2
   have hf : flagsN p = (if p.dup then 8 else 0) + 2 * p.qos + (if p.retain then 1 else 0) := if_pos h3
   rw [hf]
   simp only [F14,p14a,paiQ,e1,qX,pacB,paiR,qY,Nat.zero_add,qZ,l0,pacV,paiS,zQ,d3,qQ,paeB,qW,cond_true,paoZ,l1,c1,l2,chk_u8,Bool.and_true,o1,o2,l3,chk_b,c2,o3]
 · have d3 : decide ((p.kind : Int) = 3) = false := by rw [decide_eq_false_iff_not]; omega
   have hf : flagsN p = if p.kind = 6 ∨ p.kind = 8 ∨ p.kind = 10 then 2 else 0 := if_neg h3
   rw [hf]
   by_cases h6 : p.kind = 6
   · have d6 : decide ((p.kind : Int) = 6) = true := by rw [decide_eq_true_iff]; omega
     rw [if_pos (.inl h6)]
     simp only [F14,p14a,paiQ,e1,qX,pacB,paiR,qY,Nat.zero_add,qZ,l0,pacV,paiS,zQ,d3,qQ,paeB,qW,cond_false,pafF,pajK,d6,cond_true,pajL]
     rfl
   have d6 : decide ((p.kind : Int) = 6) = false := by rw [decide_eq_false_iff_not]; omega
   by_cases h8 : p.kind = 8
   · have d8 : decide ((p.kind : Int) = 8) = true := by rw [decide_eq_true_iff]; omega
     rw [if_pos (.inr (.inl h8))]
     simp only [F14,p14a,paiQ,e1,qX,pacB,paiR,qY,Nat.zero_add,qZ,l0,pacV,paiS,zQ,d3,qQ,paeB,qW,cond_false,pafF,pajK,d6,d8,cond_true,pajL]
     rfl
   have d8 : decide ((p.kind : Int) = 8) = false := by rw [decide_eq_false_iff_not]; omega
   by_cases h10 : p.kind = 10
   · have d10 : decide ((p.kind : Int) = 10) = true := by rw [decide_eq_true_iff]; omega
     rw [if_pos (.inr (.inr h10))]
     simp only [F14,p14a,paiQ,e1,qX,pacB,paiR,qY,Nat.zero_add,qZ,l0,pacV,paiS,zQ,d3,qQ,paeB,qW,cond_false,pafF,pajK,d6,d8,d10,cond_true,pajL]
     rfl
   have d10 : decide ((p.kind : Int) = 10) = false := by rw [decide_eq_false_iff_not]; omega
   rw [if_neg (by omega)]
   simp only [F14,p14a,paiQ,e1,qX,pacB,paiR,qY,Nat.zero_add,qZ,l0,pacV,paiS,zQ,d3,qQ,paeB,qW,cond_false,pafF,pajK,d6,d8,d10,pajL,papA]
   rfl
end
end Go.Proofs.YtohapjojkjjflaaDoor.Wc

namespace Go.Proofs.YtohapjojkjjflaaDoor.Wc
open Go Go.AM WcA
set_option maxHeartbeats 1000000 in
theorem bitsD (hu hp wr wl cl : Bool) {q : Nat} (hq : q ≤ 2) : A.bin Tryd.prog .shl 5 (.int .u8 (q : Int)) (.int .u64 3) = some (.int .u8 ((8 * q : Nat) : Int)) ∧
 A.bin Tryd.prog .or 5 (.int .u8 ((if hu then 2 ^ 7 else 0 : Nat) : Int)) (.int .u8 ((if hp then 2 ^ 6 else 0 : Nat) : Int)) = some (.int .u8 (((if hu then 128 else 0) + (if hp then 64 else 0) : Nat) : Int)) ∧
 A.bin Tryd.prog .or 5 (.int .u8 (((if hu then 128 else 0) + (if hp then 64 else 0) : Nat) : Int)) (.int .u8 ((if wr then 2 ^ 5 else 0 : Nat) : Int)) = some (.int .u8 (((if hu then 128 else 0) + (if hp then 64 else 0) + (if wr then 32 else 0) : Nat) : Int)) ∧
 A.bin Tryd.prog .or 5 (.int .u8 (((if hu then 128 else 0) + (if hp then 64 else 0) + (if wr then 32 else 0) : Nat) : Int)) (.int .u8 ((8 * q : Nat) : Int)) = some (.int .u8 (((if hu then 128 else 0) + (if hp then 64 else 0) + (if wr then 32 else 0) + 8 * q : Nat) : Int)) ∧
 A.bin Tryd.prog .or 5 (.int .u8 (((if hu then 128 else 0) + (if hp then 64 else 0) + (if wr then 32 else 0) + 8 * q : Nat) : Int)) (.int .u8 ((if wl then 2 ^ 2 else 0 : Nat) : Int)) = some (.int .u8 (((if hu then 128 else 0) + (if hp then 64 else 0) + (if wr then 32 else 0) + 8 * q + (if wl then 4 else 0) : Nat) : Int)) ∧
 A.bin Tryd.prog .or 5 (.int .u8 (((if hu then 128 else 0) + (if hp then 64 else 0) + (if wr then 32 else 0) + 8 * q + (if wl then 4 else 0) : Nat) : Int)) (.int .u8 ((if cl then 2 ^ 1 else 0 : Nat) : Int)) = some (.int .u8 (((if hu then 128 else 0) + (if hp then 64 else 0) + (if wr then 32 else 0) + 8 * q + (if wl then 4 else 0) + (if cl then 2 else 0) : Nat) : Int)) := by
 have h3 : q = 0 ∨ q = 1 ∨ q = 2 := by omega
 rcases h3 with rfl | rfl | rfl <;> cases hu <;> cases hp <;> cases wr <;> cases wl <;> cases cl <;> refine ⟨?_,?_,?_,?_,?_,?_⟩ <;> kernel_rfl
theorem cf_lt {p : Pq} (hq : p.wq ≤ 2) : cfN p < 256 := (cf_bits p.hu p.hp p.wr p.will p.clean hq).2.2.2.2.2.2.2
section
variable {Q : Orc} (kn : KnA Q) {h : H} {p : Pq} {w : Value} {t q cap : Nat} {v : Value} {es : List UInt8}
include kn
theorem cw128 (k L : Nat) (bx : BQ h t p w) (htq : t ≠ q) (b : Buf h v q cap es) (h1 : p.will = true → p.wt.length ≤ 65535 ∧ p.wp.length ≤ 65535) (hc : es.length + (if p.will then fieldB p.wt ++ fieldB p.wp else []).length ≤ cap) :
 ∃ v' h',(∀ K : Value → Value → H → Option (Value × H),palW (callO Tryd.prog 2 Q (k + 5)) L (ptrV t) v h K = K (ptrV t) v' h') ∧ Buf h' v' q cap (es ++ (if p.will then fieldB p.wt ++ fieldB p.wp else [])) ∧ ExtBut (fun i => i = q) h h' := by
 have l11 := bx.ld (i := 11) rfl
 cases hw : p.will with
 | false =>
  rw [hw] at l11
  refine ⟨v,h,fun K => ?_,by rw [if_neg (by decide),List.append_nil]; exact b,⟨Nat.le_refl _,fun _ _ _ => rfl⟩⟩
  simp only [palW,qY,Nat.zero_add,qZ,l11,qQ,cond_false]
 | true =>
  obtain ⟨a,c⟩ := h1 hw
  rw [hw,if_pos rfl,List.length_append,fieldB_len,fieldB_len] at hc
  rw [hw] at l11
  have l12 := bx.ld (i := 12) rfl
  have l13 := bx.ld (i := 13) rfl
  obtain ⟨v7,h7,e7,b7,y7⟩ := T114 kn k b a (by omega)
  have bx7 := bx.but y7 htq
  have q13 := bx7.ld (i := 13) rfl
  obtain ⟨v8,h8,e8,b8,y8⟩ := T114 kn k b7 c (by simp only [List.length_append,fieldB_len]; omega)
  refine ⟨v8,h8,fun K => ?_,by rw [if_pos rfl,← List.append_assoc]; exact b8,y7.trans y8⟩
  simp only [palW,qY,Nat.zero_add,Nat.add_zero,Nat.reduceAdd,qZ,l11,qQ,cond_true,l12,e7,qX,l13,q13,chk_s,Bool.and_true,e8]
theorem cu128 (k L : Nat) (bx : BQ h t p w) (htq : t ≠ q) (b : Buf h v q cap es) (hu : p.hu = true → p.user.length ≤ 65535) (hp : p.hp = true → p.pass.length ≤ 65535) (hc : es.length + (if p.hu then fieldB p.user else []).length + (if p.hp then fieldB p.pass else []).length ≤ cap) :
 ∃ v' h',(∀ K : Value → H → Option (Value × H),paiY (callO Tryd.prog 2 Q (k + 5)) L (ptrV t) v h K = K v' h') ∧ Buf h' v' q cap (es ++ (if p.hu then fieldB p.user else []) ++ (if p.hp then fieldB p.pass else [])) ∧ ExtBut (fun i => i = q) h h' := by
 have l16 := bx.ld (i := 16) rfl
 have l17 := bx.ld (i := 17) rfl
 cases u : p.hu with
 | false =>
  rw [u] at l16 hc
  rw [if_neg (by decide),List.append_nil]
  rw [if_neg (by decide)] at hc
  cases s : p.hp with
  | false =>
   rw [s] at l17
   refine ⟨v,h,fun K => ?_,by rw [if_neg (by decide),List.append_nil]; exact b,⟨Nat.le_refl _,fun _ _ _ => rfl⟩⟩
   simp only [paiY,qY,Nat.zero_add,qZ,l16,l17,qQ,cond_false]
  | true =>
   rw [s] at l17 hc
   rw [if_pos rfl,fieldB_len,List.length_nil] at hc
   have l19 := bx.ld (i := 19) rfl
   obtain ⟨v7,h7,e7,b7,y7⟩ := T114 kn k b (hp s) (by omega)
   refine ⟨v7,h7,fun K => ?_,by rw [if_pos rfl]; exact b7,y7⟩
   simp only [paiY,qY,Nat.zero_add,qZ,l16,l17,qQ,cond_false,cond_true,l19,e7,qX]
 | true =>
  rw [u] at l16 hc
  rw [if_pos rfl]
  rw [if_pos rfl,fieldB_len] at hc
  have l18 := bx.ld (i := 18) rfl
  obtain ⟨v6,h6,e6,b6,y6⟩ := T114 kn k b (hu u) (by omega)
  have bx6 := bx.but y6 htq
  have m17 := bx6.ld (i := 17) rfl
  cases s : p.hp with
  | false =>
   rw [s] at m17
   refine ⟨v6,h6,fun K => ?_,by rw [if_neg (by decide),List.append_nil]; exact b6,y6⟩
   simp only [paiY,qY,Nat.zero_add,qZ,l16,m17,qQ,cond_false,cond_true,l18,e6,qX]
  | true =>
   rw [s] at m17 hc
   rw [if_pos rfl,fieldB_len] at hc
   have l19 := bx6.ld (i := 19) rfl
   obtain ⟨v7,h7,e7,b7,y7⟩ := T114 kn k b6 (hp s) (by rw [List.length_append,fieldB_len]; omega)
   refine ⟨v7,h7,fun K => ?_,by rw [if_pos rfl]; exact b7,y6.trans y7⟩
   simp only [paiY,qY,Nat.zero_add,qZ,l16,m17,qQ,cond_true,l18,e6,qX,l19,e7]
theorem T113 (k : Nat) (hw : cellsL w = some [w]) (b : Buf h v q cap es) (hl : p.level < 256) (hk : p.keep < 65536) (hq : p.wq ≤ 2) (hc : p.client.length ≤ 65535) (hwl : p.will = true → p.wt.length ≤ 65535 ∧ p.wp.length ≤ 65535) (hus : p.user.length ≤ 65535) (hpa : p.pass.length ≤ 65535) (hcap : es.length + (connB p).length ≤ cap) :
 ∃ v' h',callO Tryd.prog 2 Q (k + 6) 29 [v,.agg ⟨p.cells w⟩] h = some (v',h') ∧ Buf h' v' q cap (es ++ connB p) ∧ ExtBut (fun i => i = q) h h' := by
 rw [F29eq Q (k + 5) _ _ h (kn.fr 29 _ (by decide))]
 obtain ⟨W,hW⟩ : ∃ W,W = (if p.will then fieldB p.wt ++ fieldB p.wp else []) := ⟨_,rfl⟩
 obtain ⟨U,hU⟩ : ∃ U,U = (if p.hu then fieldB p.user else []) := ⟨_,rfl⟩
 obtain ⟨S,hS⟩ : ∃ S,S = (if p.hp then fieldB p.pass else []) := ⟨_,rfl⟩
 have hcB : connB p = fieldB MQTT ++ [UInt8.ofNat p.level,UInt8.ofNat (cfN p)] ++ wordB p.keep ++ fieldB p.client ++ W ++ U ++ S := by rw [hW,hU,hS]; rfl
 have lM : (fieldB MQTT).length = 6 := rfl
 have lw : (wordB p.keep).length = 2 := rfl
 have hlen : (connB p).length = 6 + 2 + 2 + (2 + p.client.length) + W.length + U.length + S.length := by
  rw [hcB]; simp only [List.length_append,fieldB_len p.client,lM,lw,List.length_cons,List.length_nil]
 obtain ⟨h1,e1,bx1,x1,n1⟩ := box_pq p hw h
 have hqn := b.lt
 have htq : h.next ≠ q := by omega
 obtain ⟨v2,h2,e2,b2,y2⟩ := T114 kn k (b.ext x1) (s := MQTT) (by decide) (by show es.length + (2 + 4) ≤ cap; omega)
 have e2 : callO Tryd.prog 2 Q (k + 5) 30 [v,.string ⟨⟨[77,81,84,84]⟩⟩] h1 = _ := e2
 have bx2 := bx1.but y2 htq
 have l7 := bx2.ld (i := 7) rfl
 have l16 := bx2.ld (i := 16) rfl
 have l17 := bx2.ld (i := 17) rfl
 have l15 := bx2.ld (i := 15) rfl
 have l14 := bx2.ld (i := 14) rfl
 have l11 := bx2.ld (i := 11) rfl
 have l8 := bx2.ld (i := 8) rfl
 have c7 : callO Tryd.prog 2 Q (k + 5) 28 [.bool p.hu,.int .u64 7] h2 = _ := T112 kn (k + 4) p.hu (n := 7) (by omega)
 have c6 : callO Tryd.prog 2 Q (k + 5) 28 [.bool p.hp,.int .u64 6] h2 = _ := T112 kn (k + 4) p.hp (n := 6) (by omega)
 have c5 : callO Tryd.prog 2 Q (k + 5) 28 [.bool p.wr,.int .u64 5] h2 = _ := T112 kn (k + 4) p.wr (n := 5) (by omega)
 have c2 : callO Tryd.prog 2 Q (k + 5) 28 [.bool p.will,.int .u64 2] h2 = _ := T112 kn (k + 4) p.will (n := 2) (by omega)
 have c1 : callO Tryd.prog 2 Q (k + 5) 28 [.bool p.clean,.int .u64 1] h2 = _ := T112 kn (k + 4) p.clean (n := 1) (by omega)
 obtain ⟨s3,o0,o1,o2,o3,o4⟩ := bitsD p.hu p.hp p.wr p.will p.clean hq
 obtain ⟨h3,e3,el3,x3,n3⟩ := lit2 h2 (z := WcA.Z5L) rfl (p.level : Int) (cfN p : Int) _ _ (ofNat_int hl) (ofNat_int (cf_lt hq))
 have e3 : A.buildSlice 1 2 WcA.Z5L [(0,1,.int .u8 (p.level : Int)),(1,1,.int .u8 (((if p.hu then 128 else 0) + (if p.hp then 64 else 0) + (if p.wr then 32 else 0) + 8 * p.wq + (if p.will then 4 else 0) + (if p.clean then 2 else 0) : Nat) : Int))] h2 = _ := e3
 obtain ⟨v4,h4,e4,b4,y4,_⟩ := (b2.ext x3).app (new := [UInt8.ofNat p.level,UInt8.ofNat (cfN p)]) el3 rfl (by simp only [List.length_append,lM,List.length_cons,List.length_nil]; omega)
 have bx4 := (bx2.ext x3).but y4 htq
 have m9 := bx4.ld (i := 9) rfl
 have m10 := bx4.ld (i := 10) rfl
 obtain ⟨v5,h5,e5,b5,y5⟩ := T115 kn (k + 1) b4 hk (by simp only [List.length_append,lM,List.length_cons,List.length_nil]; omega)
 have e5 : callO Tryd.prog 2 Q (k + 5) 31 [v4,.int .u16 (p.keep : Int)] h4 = _ := e5
 have bx5 := bx4.but y5 htq
 have n10 := bx5.ld (i := 10) rfl
 obtain ⟨v6,h6,e6,b6,y6⟩ := T114 kn k b5 hc (by simp only [List.length_append,lM,List.length_cons,List.length_nil,lw]; omega)
 have bx6 := bx5.but y6 htq
 obtain ⟨v7,h7,e7,b7,y7⟩ := cw128 kn k (k + 5) bx6 htq b6 hwl (by rw [← hW]; simp only [List.length_append,fieldB_len p.client,lM,List.length_cons,List.length_nil,lw]; omega)
 have bx7 := bx6.but y7 htq
 rw [← hW] at b7
 obtain ⟨v8,h8,e8,b8,y8⟩ := cu128 kn k (k + 5) bx7 htq b7 (fun _ => hus) (fun _ => hpa) (by rw [← hU,← hS]; simp only [List.length_append,fieldB_len p.client,lM,List.length_cons,List.length_nil,lw]; omega)
 rw [← hU,← hS] at b8
 refine ⟨v8,h8,?_,?_,((((((x1.but.trans y2).trans x3.but).trans y4).trans y5).trans y6).trans y7).trans y8⟩
 · simp only [F29,p29a,paqA,e1,qX,paqB,e2,paqC,qY,Nat.zero_add,Nat.add_zero,Nat.reduceAdd,qZ,l7,l16,qQ,c7,chk_u8,Bool.and_true,cond_true,l17,chk_b,c6,o0,l15,c5,o1,l14,s3,o2,l11,c2,o3,l8,c1,o4,e3,e4,paqD,m9,e5,m10,n10,chk_s,e6]
   rw [e7,e8]
 · rw [hcB]
   have : es ++ (fieldB MQTT ++ [UInt8.ofNat p.level,UInt8.ofNat (cfN p)] ++ wordB p.keep ++ fieldB p.client ++ W ++ U ++ S) = es ++ fieldB MQTT ++ [UInt8.ofNat p.level,UInt8.ofNat (cfN p)] ++ wordB p.keep ++ fieldB p.client ++ W ++ U ++ S := by simp only [List.append_assoc]
   rw [this]; exact b8
end
end Go.Proofs.YtohapjojkjjflaaDoor.Wc

namespace Go.Proofs.YtohapjojkjjflaaDoor.Wc
open Go Go.AM WcA
theorem drop_cons {α : Type} {l : List α} {i : Nat} {x : α} (hx : l[i]? = some x) : l.drop i = x :: l.drop (i + 1) := by
 obtain ⟨hi,rfl⟩ := List.getElem?_eq_some_iff.1 hx
 exact List.drop_eq_getElem_cons hi
theorem load_of {h : H} {id off n : Nat} {cells e : List Value} {own : Option Nat} (e3 : h.get id = some (.cells cells own)) (e4 : off + n ≤ cells.length) (e5 : (cells.drop off).take n = e) : A.load true n (.pointer (some ⟨id,off,none⟩)) h = some (.agg ⟨e⟩) := by
 rw [loadN_eq,e3]
 have : Nat.ble (off + n) cells.length = true := by rw [ble_dec,decide_eq_true_iff]; exact e4
 simp only [this,cond_true,e5]
section
variable {Q : Orc} (kn : KnA Q)
include kn
theorem lp87 (k L : Nat) {β : Type} (kx : Value → Value → H → Option β) {p : Pq} {w : Value} {t q cap : Nat} {l : List Sb} (hl : l.length ≤ 1000000) (hs : ∀ s ∈ l,s.1.length ≤ 65535 ∧ s.2 < 256) (htq : t ≠ q) (hsq : sid w ≠ some q) :
 ∀ (d i m : Nat) (h : H) (v : Value) (es : List UInt8),i + d = l.length → d < m → Buf h v q cap es → BQ h t p w → SliceE 2 h w (l.map sbC) → es.length + (subsB p.kind (l.drop i)).length ≤ cap →
  ∃ v' h',paiB (callO Tryd.prog 2 Q (k + 5)) L kx m (.int .i64 (l.length : Int)) (.int .i64 (i : Int)) w v (ptrV t) h = kx v' (ptrV t) h' ∧ Buf h' v' q cap (es ++ subsB p.kind (l.drop i)) ∧ ExtBut (fun i => i = q) h h' := by
 intro d
 induction d with
 | zero =>
  intro i m h v es hi hm b bx sl hc
  obtain ⟨m,rfl⟩ : ∃ r,m = r + 1 := ⟨m - 1,by omega⟩
  have hd : decide ((i : Int) < (l.length : Int)) = false := by rw [decide_eq_false_iff_not]; omega
  have hdr : l.drop i = [] := List.drop_eq_nil_of_le (by omega)
  refine ⟨v,h,?_,by rw [hdr]; simpa [subsB] using b,⟨Nat.le_refl _,fun _ _ _ => rfl⟩⟩
  simp only [paiB,palD,zZ,hd,qZ,qW,cond_false]
 | succ d ih =>
  intro i m h v es hi hm b bx sl hc
  obtain ⟨m,rfl⟩ : ∃ r,m = r + 1 := ⟨m - 1,by omega⟩
  have hd : decide ((i : Int) < (l.length : Int)) = true := by rw [decide_eq_true_iff]; omega
  have hil : i < l.length := by omega
  obtain ⟨s,hsi⟩ : ∃ s,l[i]? = some s := ⟨l[i],List.getElem?_eq_getElem hil⟩
  obtain ⟨hs1,hs2⟩ := hs s (List.mem_of_getElem? hsi)
  rw [drop_cons hsi,subsB_cons] at hc ⊢
  simp only [List.length_append] at hc
  obtain ⟨id,off,cells,own,ix,_,hg,h4,h5,_⟩ := sl.at (i := i) (e := sbC s) (by rw [List.getElem?_map,hsi]; rfl) .i64
  have ld : A.load true 2 (.pointer (some ⟨id,off,none⟩)) h = some (.agg ⟨sbC s⟩) := load_of hg h4 h5
  obtain ⟨h1,hh1⟩ : ∃ h1,h1 = h.push (.cells WcA.Z43L (some 0)) := ⟨_,rfl⟩
  have e1 : A.box 2 WcA.Z43 h = some (ptrV h.next,h1) := by rw [hh1]; rfl
  obtain ⟨h2,hh2⟩ : ∃ h2,h2 = h1.put h.next (.cells (sbC s) (some 0)) := ⟨_,rfl⟩
  have g1 : h1.get h.next = some (.cells WcA.Z43L (some 0)) := by rw [hh1,H.get_push,if_pos rfl]
  have hcl : cellsL (.agg ⟨sbC s⟩) = some (sbC s) := rfl
  have e2 : A.store 2 (ptrV h.next) (.agg ⟨sbC s⟩) h1 = some h2 := by
   rw [qU,g1,hcl,hh2]; rfl
  have x2 : Ext h h2 := by rw [hh2]; exact (hh1 ▸ Ext.push h _ : Ext h h1).put _ _ (Nat.le_refl _)
  have g2 : h2.get h.next = some (.cells (sbC s) (some 0)) := by rw [hh2,H.get_put,if_pos rfl]
  have n2 : h2.next = h.next + 1 := by rw [hh2,hh1]; rfl
  have l0 : A.load false 1 (.pointer (some ⟨h.next,0,none⟩)) h2 = some (str s.1) := by rw [qK,g2]; rfl
  have hq0 := b.lt
  have hfl := fieldB_len s.1
  have hsb : (subB p.kind s).length = 2 + s.1.length + (if p.kind = 8 then 1 else 0) := by
   unfold subB; rw [List.length_append,hfl]; split <;> rfl
  obtain ⟨v3,h3,e3,b3,y3⟩ := T114 kn k (b.ext x2) hs1 (by omega)
  have bx3 := (bx.ext x2).but y3 htq
  have sl3 : SliceE 2 h3 w (l.map sbC) := (sl.ext x2).extBut y3 fun j hj e => hsq (by rw [hj,e])
  have g3 : h3.get h.next = some (.cells (sbC s) (some 0)) := by rw [y3.get _ (by omega) (by omega)]; exact g2
  have k0 := bx3.ld (i := 0) rfl
  have hwr : IntKind.i64.wrap ((i : Int) + 1) = ((i + 1 : Nat) : Int) := wrap_succ (by omega)
  by_cases h8 : p.kind = 8
  · have d8 : decide ((p.kind : Int) = 8) = true := by rw [decide_eq_true_iff]; omega
    rw [if_pos h8] at hsb
    have l1 : A.load false 1 (.pointer (some ⟨h.next,1,none⟩)) h3 = some (.int .u8 (s.2 : Int)) := by rw [qK,g3]; rfl
    obtain ⟨h4',e4,el4,x4,n4⟩ := lit1 h3 (z := WcA.Z5L) rfl (s.2 : Int) (UInt8.ofNat s.2) (ofNat_int hs2)
    obtain ⟨v5,h5',e5,b5,y5,_⟩ := (b3.ext x4).app (new := [UInt8.ofNat s.2]) el4 rfl (by simp only [List.length_append,hfl,List.length_cons,List.length_nil]; omega)
    have es5 : es ++ fieldB s.1 ++ [UInt8.ofNat s.2] = es ++ subB p.kind s := by unfold subB; rw [if_pos h8,List.append_assoc]
    rw [es5] at b5
    obtain ⟨v',h',e,b',y⟩ := ih (i + 1) m h5' v5 (es ++ subB p.kind s) (by omega) (by omega) b5 ((bx3.ext x4).but y5 htq) ((sl3.ext x4).extBut y5 fun j hj e => hsq (by rw [hj,e])) (by rw [List.length_append]; omega)
    refine ⟨v',h',?_,by rw [← List.append_assoc]; exact b',((((x2.but).trans y3).trans x4.but).trans y5).trans y⟩
    simp only [paiB,palD,zZ,hd,qZ,qW,cond_true,ix,ld,e1,qX,e2,qY,Nat.zero_add,l0,e3,k0,zQ,d8,qQ,l1,e4,e5,bin_add,hwr]
    exact e
  · have d8 : decide ((p.kind : Int) = 8) = false := by rw [decide_eq_false_iff_not]; omega
    rw [if_neg h8] at hsb
    have es5 : es ++ fieldB s.1 = es ++ subB p.kind s := by unfold subB; rw [if_neg h8,List.append_nil]
    rw [es5] at b3
    obtain ⟨v',h',e,b',y⟩ := ih (i + 1) m h3 v3 (es ++ subB p.kind s) (by omega) (by omega) b3 bx3 sl3 (by rw [List.length_append]; omega)
    refine ⟨v',h',?_,by rw [← List.append_assoc]; exact b',((x2.but).trans y3).trans y⟩
    simp only [paiB,palD,zZ,hd,qZ,qW,cond_true,ix,ld,e1,qX,e2,qY,Nat.zero_add,l0,e3,k0,zQ,d8,qQ,cond_false,bin_add,hwr]
    exact e
variable {h : H}
theorem T87 (k : Nat) (p : Pq) {w : Value} (hw : cellsL w = some [w]) {l : List Sb} (sl : SliceE 2 h w (l.map sbC)) (hll : l.length ≤ 1000000) (hs : ∀ s ∈ l,s.1.length ≤ 65535 ∧ s.2 < 256) {v : Value} {q cap : Nat} {es : List UInt8} (b : Buf h v q cap es) (hsq : sid w ≠ some q)
 (h2 : p.kind = 2 → p.code < 256) (h1 : p.kind = 1 → p.level < 256 ∧ p.keep < 65536 ∧ p.wq ≤ 2 ∧ p.client.length ≤ 65535 ∧ (p.will = true → p.wt.length ≤ 65535 ∧ p.wp.length ≤ 65535) ∧ p.user.length ≤ 65535 ∧ p.pass.length ≤ 65535) (h3 : p.kind = 3 → p.topic.length ≤ 65535) (hid : p.id < 65536) (hcap : es.length + (restB p l).length ≤ cap) :
 ∃ v' h',callO Tryd.prog 2 Q (k + 1000106) 15 [v,.agg ⟨p.cells w⟩] h = some (v',h') ∧ Buf h' v' q cap (es ++ restB p l) ∧ ExtBut (fun i => i = q) h h' := by
 rw [F15eq Q (k + 1000105) _ _ h (kn.fr 15 _ (by decide))]
 obtain ⟨ha,ea,bxa,xa,na⟩ := box_pq p hw h
 have hqn := b.lt
 have htq : h.next ≠ q := by omega
 have l0 := bxa.ld (i := 0) rfl
 by_cases hk1 : p.kind = 1
 · have d1 : decide ((p.kind : Int) = 1) = true := by rw [decide_eq_true_iff]; omega
   obtain ⟨c1,c2,c3,c4,c5,c6,c7⟩ := h1 hk1
   have hr : restB p l = connB p := if_pos hk1
   rw [hr] at hcap ⊢
   obtain ⟨v',h',e,b',y⟩ := T113 kn (k + 1000099) hw (b.ext xa) c1 c2 c3 c4 c5 c6 c7 hcap
   have e : callO Tryd.prog 2 Q (k + 1000105) 29 [v,.agg ⟨p.cells w⟩] ha = _ := e
   refine ⟨v',h',?_,b',xa.but.trans y⟩
   simp only [F15,p15a,palA,ea,qX,padA,pajM,qY,Nat.zero_add,qZ,l0,paeH,pajN,zQ,d1,qQ,pagG,qW,cond_true,papB,bxa.all,e]
 have d1 : decide ((p.kind : Int) = 1) = false := by rw [decide_eq_false_iff_not]; omega
 by_cases hk2 : p.kind = 2
 · have d2 : decide ((p.kind : Int) = 2) = true := by rw [decide_eq_true_iff]; omega
   have hr : restB p l = [UInt8.ofNat (if p.present then 1 else 0),UInt8.ofNat p.code] := by unfold restB; rw [if_neg hk1,if_pos hk2]
   rw [hr] at hcap ⊢
   have l20 := bxa.ld (i := 20) rfl
   have l21 := bxa.ld (i := 21) rfl
   have c0 : callO Tryd.prog 2 Q (k + 1000105) 28 [.bool p.present,.int .u64 0] ha = _ := T112 kn (k + 1000104) p.present (n := 0) (by omega)
   have hpr : (if p.present then 2 ^ 0 else 0 : Nat) = (if p.present then 1 else 0) := by cases p.present <;> rfl
   rw [hpr] at c0
   obtain ⟨h3',e3,el3,x3,n3⟩ := lit2 ha (z := WcA.Z5L) rfl ((if p.present then 1 else 0 : Nat) : Int) (p.code : Int) _ _ (ofNat_int (by cases p.present <;> simp)) (ofNat_int (h2 hk2))
   obtain ⟨v4,h4,e4,b4,y4,_⟩ := ((b.ext xa).ext x3).app (new := [UInt8.ofNat (if p.present then 1 else 0),UInt8.ofNat p.code]) el3 rfl hcap
   refine ⟨v4,h4,?_,b4,(xa.but.trans x3.but).trans y4⟩
   simp only [F15,p15a,palA,ea,qX,padA,pajM,qY,Nat.zero_add,qZ,l0,paeH,pajN,zQ,d1,qQ,pagG,qW,cond_false,palB,d2,cond_true,l20,c0,l21,chk_u8,Bool.and_true,e3,e4]
 have d2 : decide ((p.kind : Int) = 2) = false := by rw [decide_eq_false_iff_not]; omega
 have hr : restB p l = (if p.kind = 3 then fieldB p.topic else []) ++ (if 0 < p.id then wordB p.id else []) ++ subsB p.kind l ++ p.codes ++ p.payload := by unfold restB; rw [if_neg hk1,if_neg hk2]
 rw [hr] at hcap ⊢
 simp only [List.length_append] at hcap
 have step1 : ∃ vb hb,padA (callO Tryd.prog 2 Q (k + 1000105)) (k + 1000105) v (ptrV h.next) ha (fun x4 h => some (x4,h)) (fun x0 x3 h => padB (callO Tryd.prog 2 Q (k + 1000105)) (k + 1000105) x0 x3 h (fun x4 h => some (x4,h))) = padB (callO Tryd.prog 2 Q (k + 1000105)) (k + 1000105) vb (ptrV h.next) hb (fun x4 h => some (x4,h)) ∧
  Buf hb vb q cap (es ++ (if p.kind = 3 then fieldB p.topic else [])) ∧ ExtBut (fun i => i = q) ha hb := by
  by_cases hk3 : p.kind = 3
  · have d3 : decide ((p.kind : Int) = 3) = true := by rw [decide_eq_true_iff]; omega
    rw [if_pos hk3] at hcap ⊢
    have l5 := bxa.ld (i := 5) rfl
    obtain ⟨vb,hb,e,bb,y⟩ := T114 kn (k + 1000100) (b.ext xa) (h3 hk3) (by have := fieldB_len p.topic; omega)
    have e : callO Tryd.prog 2 Q (k + 1000105) 30 [v,str p.topic] ha = _ := e
    refine ⟨vb,hb,?_,bb,y⟩
    simp only [padA,pajM,qY,Nat.zero_add,qZ,l0,paeH,pajN,zQ,d1,qQ,pagG,qW,cond_false,palB,d2,d3,cond_true,l5,e,qX]
  · have d3 : decide ((p.kind : Int) = 3) = false := by rw [decide_eq_false_iff_not]; omega
    rw [if_neg hk3,List.append_nil]
    refine ⟨v,ha,?_,b.ext xa,⟨Nat.le_refl _,fun _ _ _ => rfl⟩⟩
    simp only [padA,pajM,qY,Nat.zero_add,qZ,l0,paeH,pajN,zQ,d1,qQ,pagG,qW,cond_false,palB,d2,d3]
 obtain ⟨vb,hb,es1,bb,yb⟩ := step1
 have bxb := bxa.but yb htq
 have l4 := bxb.ld (i := 4) rfl
 have step2 : ∃ vc hc,(∀ (K : Value → Value → H → Option (Value × H)),palC (callO Tryd.prog 2 Q (k + 1000105)) (k + 1000105) vb (ptrV h.next) hb K = K vc (ptrV h.next) hc) ∧
  Buf hc vc q cap (es ++ (if p.kind = 3 then fieldB p.topic else []) ++ (if 0 < p.id then wordB p.id else [])) ∧ ExtBut (fun i => i = q) hb hc := by
  by_cases hi0 : 0 < p.id
  · have d : decide ((0 : Int) < (p.id : Int)) = true := by rw [decide_eq_true_iff]; omega
    rw [if_pos hi0] at hcap ⊢
    obtain ⟨vc,hc,e,bc,y⟩ := T115 kn (k + 1000101) bb hid (by rw [List.length_append]; simp only [wordB,List.length_cons,List.length_nil] at hcap; omega)
    have e : callO Tryd.prog 2 Q (k + 1000105) 31 [vb,.int .u16 (p.id : Int)] hb = _ := e
    refine ⟨vc,hc,fun K => ?_,bc,y⟩
    simp only [palC,qY,Nat.zero_add,qZ,l4,zY,d,qQ,cond_true,e,qX]
  · have d : decide ((0 : Int) < (p.id : Int)) = false := by rw [decide_eq_false_iff_not]; omega
    rw [if_neg hi0,List.append_nil]
    refine ⟨vb,hb,fun K => ?_,bb,⟨Nat.le_refl _,fun _ _ _ => rfl⟩⟩
    simp only [palC,qY,Nat.zero_add,qZ,l4,zY,d,qQ,cond_false]
 obtain ⟨vc,hc,es2,bc,yc⟩ := step2
 have bxc := bxb.but yc htq
 have l22 := bxc.ld (i := 22) rfl
 have slc : SliceE 2 hc w (l.map sbC) := ((sl.ext xa).extBut yb fun j hj e => hsq (by rw [hj,e])).extBut yc fun j hj e => hsq (by rw [hj,e])
 have hlen : A.lenS w = some (.int .i64 (l.length : Int)) := by have := slc.len.1; rwa [List.length_map] at this
 obtain ⟨vd,hd,es3,bd,yd⟩ := lp87 kn (k + 1000100) (k + 1000105) (fun x0 x3 h => pamR (callO Tryd.prog 2 Q (k + 1000105)) (k + 1000105) x0 x3 h (fun x4 h => some (x4,h))) hll hs htq hsq l.length 0 (k + 1000105) hc vc _ (by omega) (by omega) bc bxc slc (by rw [List.drop_zero]; simp only [List.length_append]; omega)
 rw [List.drop_zero] at bd
 have bxd := bxc.but yd htq
 have l23 := bxd.ld (i := 23) rfl
 obtain ⟨ve,he,e4,be,ye,_⟩ := bd.app (elems_str p.codes hd) (lenOf_str _) (by simp only [List.length_append]; omega)
 have bxe := bxd.but ye htq
 have l6 := bxe.ld (i := 6) rfl
 obtain ⟨vf,hf,e5,bf,yf,_⟩ := be.app (elems_str p.payload he) (lenOf_str _) (by simp only [List.length_append]; omega)
 refine ⟨vf,hf,?_,?_,((((xa.but.trans yb).trans yc).trans yd).trans ye).trans yf⟩
 · simp only [F15,p15a,palA,ea,qX]
   rw [es1]
   simp only [padB]
   rw [es2]
   simp only [paeQ,papC,qY,Nat.zero_add,qZ,l22,hlen,pafZ]
   refine Eq.trans es3 ?_
   simp only [pamR,qY,Nat.zero_add,qZ,l23,e4,qX,l6,e5]
 · have : es ++ ((if p.kind = 3 then fieldB p.topic else []) ++ (if 0 < p.id then wordB p.id else []) ++ subsB p.kind l ++ p.codes ++ p.payload) = es ++ (if p.kind = 3 then fieldB p.topic else []) ++ (if 0 < p.id then wordB p.id else []) ++ subsB p.kind l ++ p.codes ++ p.payload := by simp only [List.append_assoc]
   rw [this]; exact bf
end
end Go.Proofs.YtohapjojkjjflaaDoor.Wc

namespace Go.Proofs.YtohapjojkjjflaaDoor.Wc
open Go Go.AM WcA
structure PkF where
 i : Nat → Int
 s : Nat → ByteArray
 b : Nat → Bool
 w : Value
def PkF.cells (f : PkF) : List Value :=
 [.int .u8 (f.i 0),.bool (f.b 1),.int .u8 (f.i 2),.bool (f.b 3),.int .u16 (f.i 4),.string (f.s 5),.string (f.s 6),.int .u8 (f.i 7),.bool (f.b 8),.int .u16 (f.i 9),.string (f.s 10),.bool (f.b 11),.string (f.s 12),.string (f.s 13),.int .u8 (f.i 14),.bool (f.b 15),.bool (f.b 16),.bool (f.b 17),.string (f.s 18),.string (f.s 19),.bool (f.b 20),.int .u8 (f.i 21),f.w,.string (f.s 23)]
theorem ld_pk {h : H} {t : Nat} {f : PkF} {o : Option Nat} (hg : h.get t = some (.cells f.cells o)) {i : Nat} {v : Value} (hv : f.cells[i]? = some v) : A.load false 1 (.pointer (some ⟨t,i,none⟩)) h = some v := by
 rw [qK,hg]; exact hv
theorem ld_will {h : H} {t : Nat} {f : PkF} {o : Option Nat} (hg : h.get t = some (.cells f.cells o)) : A.load true 4 (.pointer (some ⟨t,12,none⟩)) h = some (.agg ⟨[.string (f.s 12),.string (f.s 13),.int .u8 (f.i 14),.bool (f.b 15)]⟩) := by
 rw [loadN_eq,hg]; rfl
def plainF (f : PkF) : List Value := [.int .u8 (f.i 0),.int .u8 (f.i 2),.int .u8 (f.i 7),.int .u8 (f.i 21),.bool (f.b 1),.bool (f.b 3),.bool (f.b 8),.bool (f.b 11),.bool (f.b 16),.bool (f.b 17),.bool (f.b 20),.int .u16 (f.i 4),.int .u16 (f.i 9),.string (f.s 5),.string (f.s 6),.string (f.s 10),.string (f.s 18),.string (f.s 19),.string (f.s 23),.string (f.s 12),.string (f.s 13),.int .u8 (f.i 14),.bool (f.b 15)]
theorem build230 (f : PkF) : A.build WcA.Z53L [(0,1,.int .u8 (f.i 0)),(1,1,.int .u8 (f.i 2)),(2,1,.int .u8 (f.i 7)),(3,1,.int .u8 (f.i 21)),(4,1,.bool (f.b 1)),(5,1,.bool (f.b 3)),(6,1,.bool (f.b 8)),(7,1,.bool (f.b 11)),(8,1,.bool (f.b 16)),(9,1,.bool (f.b 17)),(10,1,.bool (f.b 20)),(11,1,.int .u16 (f.i 4)),(12,1,.int .u16 (f.i 9)),(13,1,.string (f.s 5)),(14,1,.string (f.s 6)),(15,1,.string (f.s 10)),(16,1,.string (f.s 18)),(17,1,.string (f.s 19)),(18,1,.string (f.s 23)),(19,4,.agg ⟨[.string (f.s 12),.string (f.s 13),.int .u8 (f.i 14),.bool (f.b 15)]⟩)] = some (.agg ⟨plainF f⟩) := by kernel_rfl
theorem splice230 (f : PkF) : splice WcA.Z53L 0 (plainF f) = plainF f := by kernel_rfl
theorem T143F {Q : Orc} (kn : KnA Q) (k : Nat) (h : H) (f : PkF) : ∃ h',callO Tryd.prog 2 Q (k + 1) 17 [.agg ⟨f.cells⟩] h = some (.agg ⟨plainF f⟩,h') ∧ Ext h h' := by
 rw [F17eq Q k _ h (kn.fr 17 _ (by decide))]
 obtain ⟨h1,hh1⟩ : ∃ h1,h1 = h.push (.cells f.cells (some 0)) := ⟨_,rfl⟩
 obtain ⟨h2,hh2⟩ : ∃ h2,h2 = h1.push (.cells WcA.Z53L (some 0)) := ⟨_,rfl⟩
 have b1 : A.box 24 (.agg ⟨f.cells⟩) h = some (ptrV h.next,h1) := by rw [hh1]; rfl
 have b2 : A.box 23 WcA.Z53 h1 = some (ptrV h1.next,h2) := by rw [hh2]; rfl
 have x1 : Ext h h1 := hh1 ▸ Ext.push h _
 have x2 : Ext h1 h2 := hh2 ▸ Ext.push h1 _
 have n1 : h1.next = h.next + 1 := by rw [hh1]; rfl
 have g2 : h2.get h.next = some (.cells f.cells (some 0)) := by rw [x2.get _ (by omega),hh1,H.get_push,if_pos rfl]
 have g3 : h2.get h1.next = some (.cells WcA.Z53L (some 0)) := by rw [hh2,H.get_push,if_pos rfl]
 have a0 := ld_pk g2 (i := 0) (v := .int .u8 (f.i 0)) rfl
 have a2 := ld_pk g2 (i := 2) (v := .int .u8 (f.i 2)) rfl
 have a7 := ld_pk g2 (i := 7) (v := .int .u8 (f.i 7)) rfl
 have a21 := ld_pk g2 (i := 21) (v := .int .u8 (f.i 21)) rfl
 have a1 := ld_pk g2 (i := 1) (v := .bool (f.b 1)) rfl
 have a3 := ld_pk g2 (i := 3) (v := .bool (f.b 3)) rfl
 have a8 := ld_pk g2 (i := 8) (v := .bool (f.b 8)) rfl
 have a11 := ld_pk g2 (i := 11) (v := .bool (f.b 11)) rfl
 have a16 := ld_pk g2 (i := 16) (v := .bool (f.b 16)) rfl
 have a17 := ld_pk g2 (i := 17) (v := .bool (f.b 17)) rfl
 have a20 := ld_pk g2 (i := 20) (v := .bool (f.b 20)) rfl
 have a4 := ld_pk g2 (i := 4) (v := .int .u16 (f.i 4)) rfl
 have a9 := ld_pk g2 (i := 9) (v := .int .u16 (f.i 9)) rfl
 have a5 := ld_pk g2 (i := 5) (v := .string (f.s 5)) rfl
 have a6 := ld_pk g2 (i := 6) (v := .string (f.s 6)) rfl
 have a10 := ld_pk g2 (i := 10) (v := .string (f.s 10)) rfl
 have a18 := ld_pk g2 (i := 18) (v := .string (f.s 18)) rfl
 have a19 := ld_pk g2 (i := 19) (v := .string (f.s 19)) rfl
 have a23 := ld_pk g2 (i := 23) (v := .string (f.s 23)) rfl
 have aw := ld_will g2
 obtain ⟨h3,hh3⟩ : ∃ h3,h3 = h2.put h1.next (.cells (plainF f) (some 0)) := ⟨_,rfl⟩
 have es : A.store 23 (ptrV h1.next) (.agg ⟨plainF f⟩) h2 = some h3 := by
  rw [qU,g3,hh3]
  have c1 : Nat.beq (plainF f).length 23 = true := rfl
  have c2 : Nat.ble (0 + 23) WcA.Z53L.length = true := rfl
  simp only [cellsL_agg,c1,c2,Bool.and_self,cond_true,splice230]
 have gr : h3.get h1.next = some (.cells (plainF f) (some 0)) := by rw [hh3,H.get_put,if_pos rfl]
 have lr : A.load true 23 (ptrV h1.next) h3 = some (.agg ⟨plainF f⟩) := by rw [loadN_eq,gr]; rfl
 have bl := build230 f
 refine ⟨h3,?_,hh3 ▸ (x1.trans x2).put _ _ (by omega)⟩
 simp only [F17,p17a,papE,b1,b2,qX,papF,qY,Nat.zero_add,qZ,qQ,aw,a0,a2,a7,a21,a1,a3,a8,a11,a16,a17,a20,a4,a9,a5,a6,a10,a18,a19,a23,bl,es,papG,lr,resC,packA]
theorem plain_refl (f : PkF) : A.eqV Tryd.prog 20 53 (.agg ⟨plainF f⟩) (.agg ⟨plainF f⟩) = some true := by
 have e : A.eqV Tryd.prog 20 53 (.agg ⟨plainF f⟩) (.agg ⟨plainF f⟩) = (bif (f.i 0 == f.i 0) then (bif (f.i 2 == f.i 2) then (bif (f.i 7 == f.i 7) then (bif (f.i 21 == f.i 21) then (bif (f.b 1 == f.b 1) then (bif (f.b 3 == f.b 3) then (bif (f.b 8 == f.b 8) then (bif (f.b 11 == f.b 11) then (bif (f.b 16 == f.b 16) then (bif (f.b 17 == f.b 17) then (bif (f.b 20 == f.b 20) then (bif (f.i 4 == f.i 4) then (bif (f.i 9 == f.i 9) then (bif ((f.s 5).data.toList == (f.s 5).data.toList) then (bif ((f.s 6).data.toList == (f.s 6).data.toList) then (bif ((f.s 10).data.toList == (f.s 10).data.toList) then (bif ((f.s 18).data.toList == (f.s 18).data.toList) then (bif ((f.s 19).data.toList == (f.s 19).data.toList) then (bif ((f.s 23).data.toList == (f.s 23).data.toList) then (match (bif ((f.s 12).data.toList == (f.s 12).data.toList) then (bif ((f.s 13).data.toList == (f.s 13).data.toList) then (bif (f.i 14 == f.i 14) then (bif (f.b 15 == f.b 15) then some true else some false) else some false) else some false) else some false) with | some q => (bif q then some true else some false) | none => none) else some false) else some false) else some false) else some false) else some false) else some false) else some false) else some false) else some false) else some false) else some false) else some false) else some false) else some false) else some false) else some false) else some false) else some false) else some false) := by kernel_rfl
 rw [e]
 simp only [beq_self_eq_true,cond_true]
end Go.Proofs.YtohapjojkjjflaaDoor.Wc
