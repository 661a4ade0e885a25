import Derived.Test.YtohapjojkjjflaaDoorRq
namespace Go.Proofs.YtohapjojkjjflaaDoor.Wc
open Go Go.AM
abbrev Sb := List UInt8 × Nat
structure Pq where
 kind : Nat
 dup : Bool
 qos : Nat
 retain : Bool
 id : Nat
 topic : List UInt8
 payload : List UInt8
 level : Nat
 clean : Bool
 keep : Nat
 client : List UInt8
 will : Bool
 wt : List UInt8
 wp : List UInt8
 wq : Nat
 wr : Bool
 hu : Bool
 hp : Bool
 user : List UInt8
 pass : List UInt8
 present : Bool
 code : Nat
 codes : List UInt8
 deriving DecidableEq
def zq (kind : Nat) : Pq := ⟨kind,false,0,false,0,[],[],0,false,0,[],false,[],[],0,false,false,false,[],[],false,0,[]⟩
def wrd : List UInt8 → Option Nat
 | a :: b :: _ => some (256 * a.toNat + b.toNat)
 | _ => none
def getD (l : List UInt8) : Option (List UInt8 × Nat) :=
 match wrd l with
 | some n => if n ≤ l.length - 2 then some ((l.drop 2).take n,2 + n) else none
 | none => none
def firstB (c : Nat) : Bool :=
 if c / 16 = 0 ∨ c / 16 = 15 then false else if c / 16 = 3 then decide (c % 16 / 2 % 4 < 3) else if c / 16 = 6 ∨ c / 16 = 8 ∨ c / 16 = 10 then decide (c % 16 = 2) else decide (c % 16 = 0)
def oneL : List UInt8 → Nat × List UInt8 × Bool
 | [] => (0,[],true)
 | b :: l => (b.toNat,l,false)
def wordL (l : List UInt8) : Nat × List UInt8 × Bool := match wrd l with | some n => (n,l.drop 2,false) | none => (0,l,true)
def dataL (l : List UInt8) : List UInt8 × List UInt8 × Bool := match getD l with | some (d,u) => (d,l.drop u,false) | none => ([],l,true)
def textL (val : List UInt8 → Bool) (l : List UInt8) : List UInt8 × List UInt8 × Bool := match getD l with | some (d,u) => (if val d then (d,l.drop u,false) else ([],l,true)) | none => ([],l,true)
theorem wrd_len {l : List UInt8} {n : Nat} (h : wrd l = some n) : 2 ≤ l.length ∧ n < 65536 := by
 match l,h with
 | a :: b :: r,h =>
  simp only [wrd,Option.some.injEq] at h
  have := a.toNat_lt
  have := b.toNat_lt
  exact ⟨by simp only [List.length_cons]; omega,by omega⟩
theorem getD_len {l d : List UInt8} {u : Nat} (h : getD l = some (d,u)) : u ≤ l.length ∧ d.length + 2 = u ∧ d.length ≤ l.length := by
 unfold getD at h
 split at h
 · rename_i n hw
   have := (wrd_len hw).1
   split at h
   · simp only [Option.some.injEq,Prod.mk.injEq] at h
     obtain ⟨rfl,rfl⟩ := h
     rw [List.length_take,List.length_drop]
     omega
   · cases h
 · cases h
theorem oneL_lt (l : List UInt8) : (oneL l).1 < 256 := by
 cases l with
 | nil => exact (by decide)
 | cons b t => exact b.toNat_lt
theorem oneL_len (l : List UInt8) : (oneL l).2.1.length ≤ l.length := by
 cases l with
 | nil => exact Nat.le_refl _
 | cons b t => exact Nat.le_succ _
theorem wordL_len (l : List UInt8) : (wordL l).2.1.length ≤ l.length ∧ (wordL l).1 < 65536 := by
 unfold wordL
 cases h : wrd l with
 | none => exact ⟨Nat.le_refl _,by show 0 < 65536; omega⟩
 | some n => exact ⟨by show (l.drop 2).length ≤ _; rw [List.length_drop]; omega,(wrd_len h).2⟩
theorem dataL_len (l : List UInt8) : (dataL l).2.1.length ≤ l.length ∧ (dataL l).1.length ≤ l.length := by
 unfold dataL
 cases h : getD l with
 | none => exact ⟨Nat.le_refl _,Nat.zero_le _⟩
 | some du => exact ⟨by show (l.drop du.2).length ≤ _; rw [List.length_drop]; omega,(getD_len (d := du.1) (u := du.2) h).2.2⟩
theorem textL_len (val : List UInt8 → Bool) (l : List UInt8) : (textL val l).2.1.length ≤ l.length ∧ (textL val l).1.length ≤ l.length := by
 unfold textL
 cases h : getD l with
 | none => exact ⟨Nat.le_refl _,Nat.zero_le _⟩
 | some du =>
  have := getD_len (d := du.1) (u := du.2) h
  show (if val du.1 then _ else _ : List UInt8 × List UInt8 × Bool).2.1.length ≤ _ ∧ (if val du.1 then _ else _ : List UInt8 × List UInt8 × Bool).1.length ≤ _
  split
  · exact ⟨by show (l.drop du.2).length ≤ _; rw [List.length_drop]; omega,this.2.2⟩
  · exact ⟨Nat.le_refl _,Nat.zero_le _⟩
def bitB (m c : Nat) : Bool := decide (c / m % 2 = 1)
def MQTT : List UInt8 := [77,81,84,84]
abbrev CS := List UInt8 × Bool × Pq
def connA (val : List UInt8 → Bool) (s : CS) : CS :=
 let a := textL val s.1
 let b := oneL a.2.1
 let c := oneL b.2.1
 (c.2.1,(if s.2.1 || a.2.2 || b.2.2 || c.2.2 then true else if a.1 = MQTT then bitB 1 c.1 else true),{ s.2.2 with level := b.1,clean := bitB 2 c.1,will := bitB 4 c.1,wq := c.1 / 8 % 4,wr := bitB 32 c.1,hp := bitB 64 c.1,hu := bitB 128 c.1 })
def connB2 (val : List UInt8 → Bool) (s : CS) : CS :=
 let d := wordL s.1
 let e := textL val d.2.1
 (e.2.1,s.2.1 || d.2.2 || e.2.2,{ s.2.2 with keep := d.1,client := e.1 })
def connC (val : List UInt8 → Bool) (s : CS) : CS :=
 if s.2.2.will then
  let a := textL val s.1
  let b := dataL a.2.1
  (b.2.1,s.2.1 || a.2.2 || b.2.2,{ s.2.2 with wt := a.1,wp := b.1 })
 else s
def connU (val : List UInt8 → Bool) (s : CS) : CS :=
 if s.2.2.hu then
  let a := textL val s.1
  (a.2.1,s.2.1 || a.2.2,{ s.2.2 with user := a.1 })
 else s
def connP (s : CS) : CS :=
 if s.2.2.hp then
  let a := dataL s.1
  (a.2.1,s.2.1 || a.2.2,{ s.2.2 with pass := a.1 })
 else s
def connS (val : List UInt8 → Bool) (s : CS) : CS := connP (connU val (connC val (connB2 val (connA val s))))
def subL (val : List UInt8 → Bool) (kind : Nat) : Nat → List UInt8 → Bool → List Sb × List UInt8 × Bool
 | 0,l,bad => ([],l,bad)
 | n + 1,l,bad =>
  if l = [] ∨ bad = true then ([],l,bad) else
   let a := textL val l
   let b := if kind = 8 then oneL a.2.1 else (0,a.2.1,false)
   let t := subL val kind n b.2.1 (bad || a.2.2 || b.2.2)
   ((a.1,b.1) :: t.1,t.2)
theorem textL_cut {val : List UInt8 → Bool} {l : List UInt8} (h : (textL val l).2.2 = false) : (textL val l).2.1.length + 2 ≤ l.length := by
 unfold textL at h ⊢
 cases hg : getD l with
 | none => rw [hg] at h; cases h
 | some du =>
  obtain ⟨h1,h2,_⟩ := getD_len (d := du.1) (u := du.2) hg
  rw [hg] at h
  show (if val du.1 then _ else _ : List UInt8 × List UInt8 × Bool).2.1.length + 2 ≤ _
  have h : (if val du.1 then (du.1,l.drop du.2,false) else ([],l,true) : List UInt8 × List UInt8 × Bool).2.2 = false := h
  split
  · show (l.drop du.2).length + 2 ≤ _
    rw [List.length_drop]; omega
  · rename_i hv
    rw [if_neg hv] at h; cases h
def listS (val : List UInt8 → Bool) (s : CS) : CS × List Sb :=
 if s.2.2.kind = 9 then (([],s.2.1,{ s.2.2 with codes := s.1 }),[])
 else if s.2.2.kind = 8 ∨ s.2.2.kind = 10 then (((subL val s.2.2.kind (s.1.length + 1) s.1 s.2.1).2.1,(subL val s.2.2.kind (s.1.length + 1) s.1 s.2.1).2.2,s.2.2),(subL val s.2.2.kind (s.1.length + 1) s.1 s.2.1).1)
 else (s,[])
def ackS (s : CS) : CS :=
 let a := oneL s.1
 let b := oneL a.2.1
 (b.2.1,(if s.2.1 || a.2.2 then true else decide (1 < a.1)) || b.2.2,{ s.2.2 with present := decide (a.1 = 1),code := b.1 })
def pubS (val : List UInt8 → Bool) (fl : Nat) (s : CS) : CS :=
 let a := textL val s.1
 let b := if 0 < fl / 2 % 4 then wordL a.2.1 else (s.2.2.id,a.2.1,false)
 ([],s.2.1 || a.2.2 || b.2.2,{ s.2.2 with dup := bitB 8 fl,qos := fl / 2 % 4,retain := bitB 1 fl,topic := a.1,id := b.1,payload := b.2.1 })
def allS (val : List UInt8 → Bool) (fl : Nat) (s : CS) : CS × List Sb :=
 if s.2.2.kind = 1 then (connS val s,[])
 else if s.2.2.kind = 2 then (ackS s,[])
 else if s.2.2.kind = 3 then (pubS val fl s,[])
 else if s.2.2.kind = 12 ∨ s.2.2.kind = 13 ∨ s.2.2.kind = 14 then (s,[])
 else listS val ((wordL s.1).2.1,s.2.1 || (wordL s.1).2.2,{ s.2.2 with id := (wordL s.1).1 })
def rlF (l : List UInt8) : Nat → Nat → Nat → Nat → Nat × Nat × Nat
 | 0,_,_,_ => (0,0,4)
 | f + 1,scale,n,used => match l[used]? with
  | none => (0,0,2)
  | some b => if b.toNat < 128 then (n + b.toNat % 128 * scale,used + 1,0) else rlF l f (scale * 128) (n + b.toNat % 128 * scale) (used + 1)
theorem rlF_used (l : List UInt8) : ∀ f scale n used,(rlF l f scale n used).2.2 = 0 → (rlF l f scale n used).2.1 ≤ l.length
 | 0,_,_,_ => fun h => by cases h
 | f + 1,scale,n,used => fun h => by
  unfold rlF at h ⊢
  cases hb : l[used]? with
  | none => rw [hb] at h; cases h
  | some b =>
   rw [hb] at h
   simp only at h ⊢
   have := (List.getElem?_eq_some_iff.1 hb).1
   split
   · exact this
   · rename_i hc
     rw [if_neg hc] at h
     exact rlF_used l f _ _ _ h
def proto : List UInt8 := [0,4,77,81,84,84]
def lv7 (K : Nat) (rest : List UInt8) : Prop := K = 1 ∧ 6 < rest.length ∧ rest.take 6 = proto ∧ rest[6]? ≠ some 4
instance (K : Nat) (rest : List UInt8) : Decidable (lv7 K rest) := by unfold lv7; infer_instance
def optV : Option Nat → Value
 | none => .int .i64 (-1)
 | some n => .int .i64 (n : Int)
def idO (p : Pq) : Option Nat := if p.id = 0 then none else some 2
def wz (p : Pq) : Bool := bif p.wt == [] then bif p.wp == [] then bif (p.wq : Int) == 0 then p.wr == false else false else false else false
def wilO (nm : List UInt8 → Bool) (p : Pq) (n : Nat) : Option Nat :=
 if p.will then (if nm p.wt then (if 65535 < p.wp.length then none else if 2 < p.wq then none else some (n + (4 + p.wt.length + p.wp.length))) else none) else (if wz p then some n else none)
def usrO (p : Pq) (n : Nat) : Option Nat :=
 if p.hu then some (n + (2 + p.user.length)) else if p.user = [] then (if p.hp then none else some n) else none
def pasO (p : Pq) (n : Nat) : Option Nat :=
 if p.hp then some (n + (2 + p.pass.length)) else if p.pass = [] then some n else none
def conO (val nm : List UInt8 → Bool) (p : Pq) : Option Nat :=
 if p.level = 4 then
  if val p.client then
   match wilO nm p (12 + p.client.length) with
   | none => none
   | some n => match usrO p n with
    | none => none
    | some n => match pasO p n with
     | none => none
     | some n => if val p.user then (if 65535 < p.pass.length then none else some n) else none
  else none
 else none
def pubO (nm : List UInt8 → Bool) (p : Pq) : Option Nat :=
 if nm p.topic then
  if 2 < p.qos then none
  else if 0 < p.qos ∧ 0 < p.id then some (2 + p.topic.length + p.payload.length + 2)
  else if 0 < p.qos ∨ 0 < p.id ∨ p.dup = true then none
  else some (2 + p.topic.length + p.payload.length)
 else none
def moreN (kind : Nat) : Nat := if kind = 10 then 0 else 1
def mostN (kind : Nat) : Nat := if kind = 10 then 0 else 2
def suL (fi : List UInt8 → Bool) (most more : Nat) : List Sb → Nat → Option Nat
 | [],n => some n
 | s :: l,n => if fi s.1 then (if most < s.2 then none else suL fi most more l (n + (2 + s.1.length + more))) else none
def subO (fi : List UInt8 → Bool) (p : Pq) (es : List Sb) : Option Nat :=
 match idO p with
 | none => none
 | some n => if es = [] then none else suL fi (mostN p.kind) (moreN p.kind) es n
def okc (c : UInt8) : Bool := decide (c.toNat ≤ 2 ∨ c.toNat = 128)
def codO (p : Pq) : Option Nat :=
 match idO p with
 | none => none
 | some n => if p.codes = [] then none else if p.codes.all okc then some (n + p.codes.length) else none
def restO (val nm fi : List UInt8 → Bool) (p : Pq) (es : List Sb) : Option Nat :=
 if p.kind = 1 then conO val nm p
 else if p.kind = 2 then (if p.code ≤ 5 then (if p.code = 0 then some 2 else if p.present = true then none else some 2) else none)
 else if p.kind = 3 then pubO nm p
 else if p.kind = 4 ∨ p.kind = 5 ∨ p.kind = 6 ∨ p.kind = 7 ∨ p.kind = 11 then idO p
 else if p.kind = 8 ∨ p.kind = 10 then subO fi p es
 else if p.kind = 9 then codO p
 else if p.kind = 12 ∨ p.kind = 13 ∨ p.kind = 14 then some 0
 else none
def bz (p : Pq) : Pq :=
 if p.kind = 1 then { zq 0 with level := p.level,clean := p.clean,keep := p.keep,client := p.client,will := p.will,wt := p.wt,wp := p.wp,wq := p.wq,wr := p.wr,hu := p.hu,hp := p.hp,user := p.user,pass := p.pass }
 else if p.kind = 2 then { zq 0 with present := p.present,code := p.code }
 else if p.kind = 3 then { zq 0 with dup := p.dup,qos := p.qos,retain := p.retain,id := p.id,topic := p.topic,payload := p.payload }
 else if p.kind = 9 then { zq 0 with id := p.id,codes := p.codes }
 else if p.kind = 12 ∨ p.kind = 13 ∨ p.kind = 14 then zq 0
 else { zq 0 with id := p.id }
def bareB (p : Pq) (es : List Sb) : Bool := if es ≠ [] ∧ p.kind ≠ 8 ∧ p.kind ≠ 10 then false else decide (p = { bz p with kind := p.kind })
def rstO (val nm fi : List UInt8 → Bool) (p : Pq) (es : List Sb) : Option Nat :=
 match restO val nm fi p es with
 | none => none
 | some n => if 268435455 < n then none else if bareB p es then some n else none
def decP (val nm fi : List UInt8 → Bool) (l : List UInt8) : Option (Pq × List Sb × Nat) :=
 match l with
 | [] => none
 | c :: t =>
  if firstB c.toNat = true then
   if (rlF t 4 1 0 0).2.2 = 0 then
    if (c :: t).length - ((rlF t 4 1 0 0).2.1 + 1) < (rlF t 4 1 0 0).1 then none
    else
     let rest := ((c :: t).drop ((rlF t 4 1 0 0).2.1 + 1)).take (rlF t 4 1 0 0).1
     let n := (rlF t 4 1 0 0).2.1 + 1 + (rlF t 4 1 0 0).1
     if lv7 (c.toNat / 16) rest then some ({ zq 1 with level := (rest[6]?.getD 0).toNat },[],n)
     else
      let a := allS val (c.toNat % 16) (rest,false,zq (c.toNat / 16))
      if a.1.2.1 = true ∨ a.1.1 ≠ [] then none else if (rstO val nm fi a.1.2.2 a.2).isSome then some (a.1.2.2,a.2,n) else none
   else none
  else none
def fieldB (s : List UInt8) : List UInt8 := UInt8.ofNat (s.length / 256) :: UInt8.ofNat (s.length % 256) :: s
def wordB (n : Nat) : List UInt8 := [UInt8.ofNat (n / 256),UInt8.ofNat (n % 256)]
theorem fieldB_len (s : List UInt8) : (fieldB s).length = 2 + s.length := by simp only [fieldB,List.length_cons]; omega
theorem u8n {n : Nat} (h : n < 256) : (UInt8.ofNat n).toNat = n := by rw [UInt8.toNat_ofNat',Nat.mod_eq_of_lt h]
def subB (kind : Nat) (s : Sb) : List UInt8 := fieldB s.1 ++ (if kind = 8 then [UInt8.ofNat s.2] else [])
def subsB (kind : Nat) (l : List Sb) : List UInt8 := (l.map (subB kind)).flatten
theorem subsB_cons (kind : Nat) (s : Sb) (l : List Sb) : subsB kind (s :: l) = subB kind s ++ subsB kind l := by simp [subsB]
def flagsN (p : Pq) : Nat := if p.kind = 3 then (if p.dup then 8 else 0) + 2 * p.qos + (if p.retain then 1 else 0) else if p.kind = 6 ∨ p.kind = 8 ∨ p.kind = 10 then 2 else 0
def cfN (p : Pq) : Nat := (if p.hu then 128 else 0) + (if p.hp then 64 else 0) + (if p.wr then 32 else 0) + 8 * p.wq + (if p.will then 4 else 0) + (if p.clean then 2 else 0)
def connB (p : Pq) : List UInt8 := fieldB MQTT ++ [UInt8.ofNat p.level,UInt8.ofNat (cfN p)] ++ wordB p.keep ++ fieldB p.client ++ (if p.will then fieldB p.wt ++ fieldB p.wp else []) ++ (if p.hu then fieldB p.user else []) ++ (if p.hp then fieldB p.pass else [])
def restB (p : Pq) (l : List Sb) : List UInt8 :=
 if p.kind = 1 then connB p
 else if p.kind = 2 then [UInt8.ofNat (if p.present then 1 else 0),UInt8.ofNat p.code]
 else (if p.kind = 3 then fieldB p.topic else []) ++ (if 0 < p.id then wordB p.id else []) ++ subsB p.kind l ++ p.codes ++ p.payload
def lenB (n : Nat) : List UInt8 :=
 if n < 128 then [UInt8.ofNat n]
 else if n < 16384 then [UInt8.ofNat (n % 128 + 128),UInt8.ofNat (n / 128)]
 else if n < 2097152 then [UInt8.ofNat (n % 128 + 128),UInt8.ofNat (n / 128 % 128 + 128),UInt8.ofNat (n / 16384)]
 else [UInt8.ofNat (n % 128 + 128),UInt8.ofNat (n / 128 % 128 + 128),UInt8.ofNat (n / 16384 % 128 + 128),UInt8.ofNat (n / 2097152)]
def encB (p : Pq) (l : List Sb) : List UInt8 := UInt8.ofNat (16 * p.kind + flagsN p) :: (lenB (restB p l).length ++ restB p l)
end Go.Proofs.YtohapjojkjjflaaDoor.Wc

namespace Go.Proofs.YtohapjojkjjflaaDoor.Wc
open Go Go.AM
theorem getD_field {s : List UInt8} (r : List UInt8) (h : s.length ≤ 65535) : getD (fieldB s ++ r) = some (s,2 + s.length) := by
 have hw : wrd (fieldB s ++ r) = some s.length := by
  show some (256 * (UInt8.ofNat (s.length / 256)).toNat + (UInt8.ofNat (s.length % 256)).toNat) = _
  rw [u8n (by omega),u8n (by omega)]
  congr 1; omega
 unfold getD
 rw [hw]
 have hl : (fieldB s ++ r).length = 2 + s.length + r.length := by rw [List.length_append,fieldB_len]
 simp only
 rw [if_pos (by omega)]
 have hd : (fieldB s ++ r).drop 2 = s ++ r := rfl
 rw [hd,List.take_left]
theorem drop_field (s r : List UInt8) : (fieldB s ++ r).drop (2 + s.length) = r := by
 rw [List.drop_append,fieldB_len,List.drop_eq_nil_of_le (by rw [fieldB_len]; exact Nat.le_refl _),Nat.sub_self]; rfl
theorem text_field {val : List UInt8 → Bool} {s : List UInt8} (r : List UInt8) (h : s.length ≤ 65535) (hv : val s = true) : textL val (fieldB s ++ r) = (s,r,false) := by
 unfold textL
 rw [getD_field r h]
 simp only [hv,if_true,drop_field]
theorem data_field {s : List UInt8} (r : List UInt8) (h : s.length ≤ 65535) : dataL (fieldB s ++ r) = (s,r,false) := by
 unfold dataL
 rw [getD_field r h]
 simp only [drop_field]
theorem word_word {n : Nat} (r : List UInt8) (h : n < 65536) : wordL (wordB n ++ r) = (n,r,false) := by
 have hw : wrd (wordB n ++ r) = some n := by
  show some (256 * (UInt8.ofNat (n / 256)).toNat + (UInt8.ofNat (n % 256)).toNat) = _
  rw [u8n (by omega),u8n (by omega)]
  congr 1; omega
 unfold wordL
 rw [hw]
 rfl
theorem cf_bits (hu hp wr wl cl : Bool) {q : Nat} (hq : q ≤ 2) : let c := (if hu then 128 else 0) + (if hp then 64 else 0) + (if wr then 32 else 0) + 8 * q + (if wl then 4 else 0) + (if cl then 2 else 0)
 bitB 1 c = false ∧ bitB 2 c = cl ∧ bitB 4 c = wl ∧ c / 8 % 4 = q ∧ bitB 32 c = wr ∧ bitB 64 c = hp ∧ bitB 128 c = hu ∧ c < 256 := by
 have h3 : q = 0 ∨ q = 1 ∨ q = 2 := by omega
 rcases h3 with rfl | rfl | rfl <;> cases hu <;> cases hp <;> cases wr <;> cases wl <;> cases cl <;> decide
theorem fl_bits (d r : Bool) {q : Nat} (hq : q ≤ 2) : let c := (if d then 8 else 0) + 2 * q + (if r then 1 else 0)
 bitB 8 c = d ∧ c / 2 % 4 = q ∧ bitB 1 c = r ∧ c < 16 := by
 have h3 : q = 0 ∨ q = 1 ∨ q = 2 := by omega
 rcases h3 with rfl | rfl | rfl <;> cases d <;> cases r <;> decide
structure Vl (val nm fi : List UInt8 → Bool) : Prop where
 len : ∀ s,val s = true → s.length ≤ 65535
 nm : ∀ s,nm s = true → val s = true
 fi : ∀ s,fi s = true → val s = true
 mq : val MQTT = true
structure Rg (p : Pq) (es : List Sb) : Prop where
 kind : p.kind < 256
 qos : p.qos < 256
 id : p.id < 65536
 level : p.level < 256
 keep : p.keep < 65536
 wq : p.wq < 256
 code : p.code < 256
 es : ∀ s ∈ es,s.2 < 256
def mkC (clean : Bool) (keep : Nat) (client : List UInt8) (will : Bool) (wt wp : List UInt8) (wq : Nat) (wr hu hp : Bool) (user pass : List UInt8) : Pq :=
 ⟨1,false,0,false,0,[],[],4,clean,keep,client,will,wt,wp,wq,wr,hu,hp,user,pass,false,0,[]⟩
section
variable {val nm fi : List UInt8 → Bool} (vl : Vl val nm fi)
include vl
theorem dec_conn {clean : Bool} {keep : Nat} {client : List UInt8} {will : Bool} {wt wp : List UInt8} {wq : Nat} {wr hu hp : Bool} {user pass : List UInt8} (hk : keep < 65536) (hc : val client = true)
 (h1 : will = true → val wt = true ∧ wp.length ≤ 65535 ∧ wq ≤ 2) (h2 : will = false → wt = [] ∧ wp = [] ∧ wq = 0 ∧ wr = false) (u1 : hu = true → val user = true) (u2 : hu = false → user = []) (p1 : hp = true → pass.length ≤ 65535) (p2 : hp = false → pass = []) :
 connS val (connB (mkC clean keep client will wt wp wq wr hu hp user pass),false,zq 1) = ([],false,mkC clean keep client will wt wp wq wr hu hp user pass) := by
 have hq : wq ≤ 2 := by
  cases will with
  | true => exact (h1 rfl).2.2
  | false => rw [(h2 rfl).2.2.1]; omega
 obtain ⟨c1,c2,c4,c8,c32,c64,c128,hlt⟩ := cf_bits hu hp wr will clean hq
 obtain ⟨cf,hcf⟩ : ∃ cf,cf = cfN (mkC clean keep client will wt wp wq wr hu hp user pass) := ⟨_,rfl⟩
 have hcf' : (if hu then 128 else 0) + (if hp then 64 else 0) + (if wr then 32 else 0) + 8 * wq + (if will then 4 else 0) + (if clean then 2 else 0) = cf := by rw [hcf]; rfl
 simp only [hcf'] at c1 c2 c4 c8 c32 c64 c128 hlt
 obtain ⟨t3,ht3⟩ : ∃ t3,t3 = (if hp then fieldB pass else []) := ⟨_,rfl⟩
 obtain ⟨t2,ht2⟩ : ∃ t2,t2 = (if hu then fieldB user else []) := ⟨_,rfl⟩
 obtain ⟨tail,htail⟩ : ∃ tail,tail = (if will then fieldB wt ++ fieldB wp else []) ++ (t2 ++ t3) := ⟨_,rfl⟩
 have hcB : connB (mkC clean keep client will wt wp wq wr hu hp user pass) = fieldB MQTT ++ (4 :: UInt8.ofNat cf :: (wordB keep ++ (fieldB client ++ tail))) := by
  rw [hcf,htail,ht2,ht3]
  unfold connB
  simp only [mkC,List.append_assoc]
  rfl
 rw [hcB]
 have t0 := text_field (val := val) (4 :: UInt8.ofNat cf :: (wordB keep ++ (fieldB client ++ tail))) (vl.len _ vl.mq) vl.mq
 have eA : connA val (fieldB MQTT ++ (4 :: UInt8.ofNat cf :: (wordB keep ++ (fieldB client ++ tail))),false,zq 1) = (wordB keep ++ (fieldB client ++ tail),false,{ zq 1 with level := 4,clean := clean,will := will,wq := wq,wr := wr,hp := hp,hu := hu }) := by
  unfold connA
  simp only [t0,oneL,u8n hlt,c1,c2,c4,c8,c32,c64,c128,Bool.or_false,Bool.false_eq_true,if_false,if_true]
  rfl
 have t1 := text_field (val := val) tail (vl.len _ hc) hc
 have w1 := word_word (fieldB client ++ tail) hk
 have eB : connB2 val (wordB keep ++ (fieldB client ++ tail),false,{ zq 1 with level := 4,clean := clean,will := will,wq := wq,wr := wr,hp := hp,hu := hu }) = (tail,false,{ zq 1 with level := 4,clean := clean,will := will,wq := wq,wr := wr,hp := hp,hu := hu,keep := keep,client := client }) := by
  unfold connB2
  simp only [w1,t1,Bool.or_false]
 have eC : connC val (tail,false,{ zq 1 with level := 4,clean := clean,will := will,wq := wq,wr := wr,hp := hp,hu := hu,keep := keep,client := client }) = (t2 ++ t3,false,{ zq 1 with level := 4,clean := clean,will := will,wq := wq,wr := wr,hp := hp,hu := hu,keep := keep,client := client,wt := wt,wp := wp }) := by
  rw [htail]
  cases will with
  | true =>
   obtain ⟨hw,hp',_⟩ := h1 rfl
   have e2 := text_field (val := val) (fieldB wp ++ (t2 ++ t3)) (vl.len _ hw) hw
   have e3 := data_field (s := wp) (t2 ++ t3) hp'
   rw [if_pos rfl,List.append_assoc]
   unfold connC
   simp only [e2,e3,if_true,Bool.or_false]
  | false =>
   obtain ⟨rfl,rfl,rfl,rfl⟩ := h2 rfl
   rfl
 have eU : connU val (t2 ++ t3,false,{ zq 1 with level := 4,clean := clean,will := will,wq := wq,wr := wr,hp := hp,hu := hu,keep := keep,client := client,wt := wt,wp := wp }) = (t3,false,{ zq 1 with level := 4,clean := clean,will := will,wq := wq,wr := wr,hp := hp,hu := hu,keep := keep,client := client,wt := wt,wp := wp,user := user }) := by
  rw [ht2]
  cases hu with
  | true =>
   have e2 := text_field (val := val) t3 (vl.len _ (u1 rfl)) (u1 rfl)
   rw [if_pos rfl]
   unfold connU
   simp only [e2,if_true,Bool.or_false]
  | false => rw [u2 rfl]; rfl
 have eP : connP (t3,false,{ zq 1 with level := 4,clean := clean,will := will,wq := wq,wr := wr,hp := hp,hu := hu,keep := keep,client := client,wt := wt,wp := wp,user := user }) = ([],false,{ zq 1 with level := 4,clean := clean,will := will,wq := wq,wr := wr,hp := hp,hu := hu,keep := keep,client := client,wt := wt,wp := wp,user := user,pass := pass }) := by
  rw [ht3]
  cases hp with
  | true =>
   have e2 := data_field (s := pass) [] (p1 rfl)
   rw [List.append_nil] at e2
   rw [if_pos rfl]
   unfold connP
   simp only [e2,if_true,Bool.or_false]
  | false => rw [p2 rfl]; rfl
 unfold connS
 rw [eA,eB,eC,eU,eP]
 rfl
theorem subB_ne (kind : Nat) (s : Sb) (r : List UInt8) : subB kind s ++ r ≠ [] := by
 have _ := vl
 intro c
 have := congrArg List.length c
 unfold subB at this
 rw [List.length_append,List.length_append,fieldB_len] at this
 simp at this
theorem dec_subs {kind : Nat} (hk : kind = 8 ∨ kind = 10) : ∀ (n : Nat) (l : List Sb),l.length < n → (∀ s ∈ l,fi s.1 = true ∧ s.2 ≤ mostN kind) → subL val kind n (subsB kind l) false = (l,[],false)
 | 0,l,h,_ => absurd h (Nat.not_lt_zero _)
 | n + 1,[],_,_ => rfl
 | n + 1,s :: l,h,hs => by
  obtain ⟨s1,s2⟩ := hs s (List.mem_cons_self ..)
  have v1 := vl.fi _ s1
  have ih := dec_subs hk n l (by rw [List.length_cons] at h; omega) (fun s h => hs s (List.mem_cons_of_mem _ h))
  rw [subsB_cons]
  obtain ⟨r,hr⟩ : ∃ r,r = subsB kind l := ⟨_,rfl⟩
  rw [← hr] at ih ⊢
  have ne : ¬ (subB kind s ++ r = [] ∨ false = true) := by
   intro c
   rcases c with c | c
   · exact subB_ne vl _ _ _ c
   · cases c
  have e : subL val kind (n + 1) (subB kind s ++ r) false = (let a := textL val (subB kind s ++ r)
   let b := if kind = 8 then oneL a.2.1 else (0,a.2.1,false)
   let t := subL val kind n b.2.1 (false || a.2.2 || b.2.2)
   ((a.1,b.1) :: t.1,t.2)) := if_neg ne
  rw [e]
  rcases hk with rfl | rfl
  · have e1 : subB 8 s ++ r = fieldB s.1 ++ (UInt8.ofNat s.2 :: r) := by unfold subB; simp
    have hq : s.2 < 256 := by have : mostN 8 = 2 := rfl; omega
    rw [e1]
    simp only [text_field (val := val) (UInt8.ofNat s.2 :: r) (vl.len _ v1) v1,if_true,oneL,Bool.or_false,ih,u8n hq]
  · have e1 : subB 10 s ++ r = fieldB s.1 ++ r := by unfold subB; simp
    have hq : s.2 = 0 := by have : mostN 10 = 0 := rfl; omega
    rw [e1]
    simp only [text_field (val := val) r (vl.len _ v1) v1,show ¬ (10 : Nat) = 8 by omega,if_false,Bool.or_false,ih]
    rw [← hq]
omit vl in
theorem suL_some {most more : Nat} : ∀ (l : List Sb) (n m : Nat),suL fi most more l n = some m → (∀ s ∈ l,fi s.1 = true ∧ s.2 ≤ most) ∧ m = n + (l.map fun s => 2 + s.1.length + more).sum
 | [],n,m,e => by cases e; exact ⟨fun s hs => (by cases hs),rfl⟩
 | s :: l,n,m,e => by
  have e : (if fi s.1 then (if most < s.2 then none else suL fi most more l (n + (2 + s.1.length + more))) else none) = some m := e
  split at e
  · rename_i h1
    split at e
    · cases e
    · rename_i h2
      obtain ⟨a,b⟩ := suL_some l _ m e
      refine ⟨fun x hx => ?_,?_⟩
      · rcases List.mem_cons.1 hx with rfl | hx
        · exact ⟨h1,by omega⟩
        · exact a x hx
      · rw [b]; simp only [List.map_cons,List.sum_cons]; omega
  · cases e
omit vl in
theorem subsB_len {kind : Nat} (hk : kind = 8 ∨ kind = 10) : ∀ l : List Sb,(subsB kind l).length = (l.map fun s => 2 + s.1.length + moreN kind).sum
 | [] => rfl
 | s :: l => by
  rw [subsB_cons,List.length_append,subsB_len hk l]
  simp only [List.map_cons,List.sum_cons]
  congr 1
  unfold subB
  rw [List.length_append,fieldB_len]
  rcases hk with rfl | rfl <;> rfl
omit vl in
theorem subsB_len2 (kind : Nat) : ∀ l : List Sb,l.length ≤ (subsB kind l).length
 | [] => Nat.zero_le _
 | s :: l => by
  have ih := subsB_len2 kind l
  rw [subsB_cons,List.length_append,List.length_cons]
  unfold subB
  rw [List.length_append,fieldB_len]
  omega
end
def Rd1 (val : List UInt8 → Bool) (p : Pq) (es : List Sb) (n : Nat) : Prop :=
 flagsN p < 16 ∧ p.kind < 16 ∧ firstB (16 * p.kind + flagsN p) = true ∧ (restB p es).length = n ∧ allS val (flagsN p) (restB p es,false,zq p.kind) = (([],false,p),es) ∧ ¬ lv7 p.kind (restB p es)
section
variable {val nm fi : List UInt8 → Bool} (vl : Vl val nm fi)
include vl
theorem rd_conn {p : Pq} {es : List Sb} {n : Nat} (rg : Rg p es) (k : p.kind = 1) (hp : p = { bz p with kind := p.kind }) (he : es = []) (e : conO val nm p = some n) : Rd1 val p es n := by
 obtain ⟨kind,dup,qos,retain,id,topic,payload,level,clean,keep,client,will,wt,wp,wq,wr,hu,hpw,user,pass,present,code,codes⟩ := p
 simp only at k
 subst k; subst he
 simp only [bz,if_true,zq,Pq.mk.injEq,true_and,and_true] at hp
 obtain ⟨rfl,rfl,rfl,rfl,rfl,rfl,rfl,rfl,rfl⟩ := hp
 have hk : keep < 65536 := rg.keep
 unfold conO at e
 simp only at e
 split at e
 case isFalse => cases e
 rename_i hl
 subst hl
 split at e
 case isFalse => cases e
 rename_i hc
 split at e
 case h_1 => cases e
 rename_i n1 e1
 split at e
 case h_1 => cases e
 rename_i n2 e2
 split at e
 case h_1 => cases e
 rename_i n3 e3
 split at e
 case isFalse => cases e
 rename_i hv
 split at e
 · cases e
 rename_i hpl
 simp only [Option.some.injEq] at e
 have hw1 : will = true → val wt = true ∧ wp.length ≤ 65535 ∧ wq ≤ 2 ∧ n1 = 12 + client.length + (4 + wt.length + wp.length) := by
  intro c
  subst c
  unfold wilO at e1
  simp only [if_true] at e1
  split at e1
  · rename_i hnm
    split at e1
    · cases e1
    · split at e1
      · cases e1
      · simp only [Option.some.injEq] at e1
        exact ⟨vl.nm _ hnm,by omega,by omega,by omega⟩
  · cases e1
 have hw2 : will = false → (wt = [] ∧ wp = [] ∧ wq = 0 ∧ wr = false) ∧ n1 = 12 + client.length := by
  intro c
  subst c
  unfold wilO at e1
  simp only [Bool.false_eq_true,if_false] at e1
  split at e1
  · rename_i hz
    simp only [Option.some.injEq] at e1
    unfold wz at hz
    simp only at hz
    cases a1 : wt == [] with
    | false => rw [a1] at hz; cases hz
    | true =>
     cases a2 : wp == [] with
     | false => rw [a1,a2] at hz; cases hz
     | true =>
      cases a3 : (wq : Int) == 0 with
      | false => rw [a1,a2,a3] at hz; cases hz
      | true =>
       rw [a1,a2,a3] at hz
       have hz : (wr == false) = true := hz
       have b3 : (wq : Int) = 0 := eq_of_beq a3
       exact ⟨⟨eq_of_beq a1,eq_of_beq a2,by omega,eq_of_beq hz⟩,by omega⟩
  · cases e1
 have hu1 : hu = true → n2 = n1 + (2 + user.length) := by
  intro c; subst c
  unfold usrO at e2
  simp only [if_true,Option.some.injEq] at e2
  omega
 have hu2 : hu = false → user = [] ∧ n2 = n1 := by
  intro c; subst c
  unfold usrO at e2
  simp only [Bool.false_eq_true,if_false] at e2
  split at e2
  · rename_i h
    split at e2
    · cases e2
    · simp only [Option.some.injEq] at e2
      exact ⟨h,by omega⟩
  · cases e2
 have hp1 : hpw = true → n3 = n2 + (2 + pass.length) := by
  intro c; subst c
  unfold pasO at e3
  simp only [if_true,Option.some.injEq] at e3
  omega
 have hp2 : hpw = false → pass = [] ∧ n3 = n2 := by
  intro c; subst c
  unfold pasO at e3
  simp only [Bool.false_eq_true,if_false] at e3
  split at e3
  · rename_i h
    simp only [Option.some.injEq] at e3
    exact ⟨h,by omega⟩
  · cases e3
 have ew := dec_conn vl (clean := clean) (wr := wr) (hu := hu) (hp := hpw) (user := user) (pass := pass) hk hc (fun c => ⟨(hw1 c).1,(hw1 c).2.1,(hw1 c).2.2.1⟩) (fun c => (hw2 c).1) (fun _ => hv) (fun c => (hu2 c).1) (fun _ => by omega) (fun c => (hp2 c).1)
 refine ⟨(by show 0 < 16; omega),(by show 1 < 16; omega),(by show firstB (16 * 1 + 0) = true; decide),?_,?_,?_⟩
 · show (connB (mkC clean keep client will wt wp wq wr hu hpw user pass)).length = n
   show (fieldB MQTT ++ [UInt8.ofNat 4,UInt8.ofNat (cfN (mkC clean keep client will wt wp wq wr hu hpw user pass))] ++ wordB keep ++ fieldB client ++ (if will = true then fieldB wt ++ fieldB wp else []) ++ (if hu = true then fieldB user else []) ++ (if hpw = true then fieldB pass else [])).length = n
   rw [List.length_append,List.length_append,List.length_append,List.length_append,List.length_append,List.length_append]
   simp only [fieldB_len,wordB,List.length_cons,List.length_nil,show MQTT.length = 4 from rfl]
   have l1 : (if will = true then fieldB wt ++ fieldB wp else []).length = n1 - (12 + client.length) ∧ 12 + client.length ≤ n1 := by
    cases will with
    | true => have := (hw1 rfl).2.2.2; rw [if_pos rfl,List.length_append,fieldB_len,fieldB_len]; omega
    | false => have := (hw2 rfl).2; rw [if_neg (by decide)]; simp only [List.length_nil]; omega
   have l2 : (if hu = true then fieldB user else []).length = n2 - n1 ∧ n1 ≤ n2 := by
    cases hu with
    | true => have := hu1 rfl; rw [if_pos rfl,fieldB_len]; omega
    | false => have := (hu2 rfl).2; rw [if_neg (by decide)]; simp only [List.length_nil]; omega
   have l3 : (if hpw = true then fieldB pass else []).length = n3 - n2 ∧ n2 ≤ n3 := by
    cases hpw with
    | true => have := hp1 rfl; rw [if_pos rfl,fieldB_len]; omega
    | false => have := (hp2 rfl).2; rw [if_neg (by decide)]; simp only [List.length_nil]; omega
   omega
 · show ((connS val (connB (mkC clean keep client will wt wp wq wr hu hpw user pass),false,zq 1),[]) : CS × List Sb) = _
   rw [ew]; rfl
 · intro c
   refine c.2.2.2 ?_
   show (connB (mkC clean keep client will wt wp wq wr hu hpw user pass))[6]? = some 4
   rfl
theorem idO_some {p : Pq} {n : Nat} (e : idO p = some n) : 0 < p.id ∧ n = 2 := by
 have _ := vl
 unfold idO at e
 split at e
 · cases e
 · simp only [Option.some.injEq] at e
   exact ⟨by omega,e.symm⟩
theorem rd_pub {p : Pq} {es : List Sb} {n : Nat} (rg : Rg p es) (k : p.kind = 3) (hp : p = { bz p with kind := p.kind }) (he : es = []) (e : pubO nm p = some n) : Rd1 val p es n := by
 obtain ⟨kind,dup,qos,retain,id,topic,payload,level,clean,keep,client,will,wt,wp,wq,wr,hu,hpw,user,pass,present,code,codes⟩ := p
 simp only at k
 subst k; subst he
 simp only [bz,show ¬ (3 : Nat) = 1 by omega,show ¬ (3 : Nat) = 2 by omega,if_false,if_true,zq,Pq.mk.injEq,true_and,and_true] at hp
 obtain ⟨rfl,rfl,rfl,rfl,rfl,rfl,rfl,rfl,rfl,rfl,rfl,rfl,rfl,rfl,rfl,rfl⟩ := hp
 have hid : id < 65536 := rg.id
 unfold pubO at e
 simp only at e
 split at e
 case isFalse => cases e
 rename_i hnm
 have hv := vl.nm _ hnm
 split at e
 · cases e
 rename_i hq
 have hq : qos ≤ 2 := by omega
 obtain ⟨f8,f2,f1,f16⟩ := fl_bits dup retain hq
 obtain ⟨fl,hfl⟩ : ∃ fl,fl = (if dup then 8 else 0) + 2 * qos + (if retain then 1 else 0) := ⟨_,rfl⟩
 simp only [← hfl] at f8 f2 f1 f16
 have hF : firstB (16 * 3 + fl) = true := by
  unfold firstB
  rw [if_neg (by omega),if_pos (by omega)]
  exact decide_eq_true (by omega)
 split at e
 · rename_i hq2
   simp only [Option.some.injEq] at e
   have t1 := text_field (val := val) (wordB id ++ payload) (vl.len _ hv) hv
   have w1 := word_word payload hid
   have hrB : restB ⟨3,dup,qos,retain,id,topic,payload,0,false,0,[],false,[],[],0,false,false,false,[],[],false,0,[]⟩ [] = fieldB topic ++ (wordB id ++ payload) := by
    unfold restB
    simp only [show ¬ (3 : Nat) = 1 by omega,show ¬ (3 : Nat) = 2 by omega,if_false,if_true,if_pos hq2.2]
    simp [subsB,List.append_assoc]
   refine ⟨?_,(by show 3 < 16; omega),?_,?_,?_,fun c => by cases c.1⟩
   · show (if dup then 8 else 0) + 2 * qos + (if retain then 1 else 0) < 16; omega
   · show firstB (16 * 3 + ((if dup then 8 else 0) + 2 * qos + (if retain then 1 else 0))) = true; rw [← hfl]; exact hF
   · rw [hrB,List.length_append,List.length_append,fieldB_len]; simp only [wordB,List.length_cons,List.length_nil]; omega
   · rw [hrB]
     show ((pubS val ((if dup then 8 else 0) + 2 * qos + (if retain then 1 else 0)) (fieldB topic ++ (wordB id ++ payload),false,zq 3),[]) : CS × List Sb) = _
     rw [← hfl]
     unfold pubS
     simp only [t1,w1,f8,f2,f1,if_pos hq2.1,Bool.or_false]
     rfl
 · rename_i hq2
   split at e
   · cases e
   rename_i hq3
   simp only [Option.some.injEq] at e
   have hq0 : qos = 0 := by omega
   have hi0 : id = 0 := by omega
   subst hq0; subst hi0
   have t1 := text_field (val := val) payload (vl.len _ hv) hv
   have hrB : restB ⟨3,dup,0,retain,0,topic,payload,0,false,0,[],false,[],[],0,false,false,false,[],[],false,0,[]⟩ [] = fieldB topic ++ payload := by
    unfold restB
    simp only [show ¬ (3 : Nat) = 1 by omega,show ¬ (3 : Nat) = 2 by omega,if_false,if_true,Nat.lt_irrefl]
    simp [subsB,List.append_assoc]
   refine ⟨?_,(by show 3 < 16; omega),?_,?_,?_,fun c => by cases c.1⟩
   · show (if dup then 8 else 0) + 2 * 0 + (if retain then 1 else 0) < 16; omega
   · show firstB (16 * 3 + ((if dup then 8 else 0) + 2 * 0 + (if retain then 1 else 0))) = true; rw [← hfl]; exact hF
   · rw [hrB,List.length_append,fieldB_len]; omega
   · rw [hrB]
     show ((pubS val ((if dup then 8 else 0) + 2 * 0 + (if retain then 1 else 0)) (fieldB topic ++ payload,false,zq 3),[]) : CS × List Sb) = _
     rw [← hfl]
     unfold pubS
     simp only [t1,f8,f2,f1,Nat.lt_irrefl,if_false,Bool.or_false]
     rfl
end
end Go.Proofs.YtohapjojkjjflaaDoor.Wc

namespace Go.Proofs.YtohapjojkjjflaaDoor.Wc
open Go Go.AM
section
variable {val nm fi : List UInt8 → Bool} (vl : Vl val nm fi)
include vl
theorem rd_ack {p : Pq} {es : List Sb} {n : Nat} (k : p.kind = 2) (hp : p = { bz p with kind := p.kind }) (he : es = []) (e : (if p.code ≤ 5 then (if p.code = 0 then some 2 else if p.present = true then none else some 2) else none : Option Nat) = some n) : Rd1 val p es n := by
 have _ := vl
 obtain ⟨kind,dup,qos,retain,id,topic,payload,level,clean,keep,client,will,wt,wp,wq,wr,hu,hpw,user,pass,present,code,codes⟩ := p
 simp only at k
 subst k; subst he
 simp only [bz,show ¬ (2 : Nat) = 1 by omega,if_false,if_true,zq,Pq.mk.injEq,true_and,and_true] at hp
 obtain ⟨rfl,rfl,rfl,rfl,rfl,rfl,rfl,rfl,rfl,rfl,rfl,rfl,rfl,rfl,rfl,rfl,rfl,rfl,rfl,rfl⟩ := hp
 simp only at e
 have hc : code ≤ 5 ∧ n = 2 := by
  split at e
  · rename_i h
    split at e
    · simp only [Option.some.injEq] at e; exact ⟨h,e.symm⟩
    · split at e
      · cases e
      · simp only [Option.some.injEq] at e; exact ⟨h,e.symm⟩
  · cases e
 obtain ⟨hc,rfl⟩ := hc
 refine ⟨(by show 0 < 16; omega),(by show 2 < 16; omega),(by show firstB (16 * 2 + 0) = true; decide),rfl,?_,fun c => by cases c.1⟩
 show ((ackS ([UInt8.ofNat (if present then 1 else 0),UInt8.ofNat code],false,zq 2),[]) : CS × List Sb) = _
 have hcc : code < 256 := by omega
 unfold ackS
 cases present with
 | true => simp only [oneL,u8n hcc,Bool.or_false,if_true]; rfl
 | false => simp only [oneL,u8n hcc,Bool.or_false,Bool.false_eq_true,if_false]; rfl
theorem rd_id {p : Pq} {es : List Sb} {n : Nat} (rg : Rg p es) (k : p.kind = 4 ∨ p.kind = 5 ∨ p.kind = 6 ∨ p.kind = 7 ∨ p.kind = 11) (hp : p = { bz p with kind := p.kind }) (he : es = []) (e : idO p = some n) : Rd1 val p es n := by
 obtain ⟨h0,rfl⟩ := idO_some vl e
 obtain ⟨kind,dup,qos,retain,id,topic,payload,level,clean,keep,client,will,wt,wp,wq,wr,hu,hpw,user,pass,present,code,codes⟩ := p
 have hid : id < 65536 := rg.id
 simp only at k h0
 subst he
 have hb : bz ⟨kind,dup,qos,retain,id,topic,payload,level,clean,keep,client,will,wt,wp,wq,wr,hu,hpw,user,pass,present,code,codes⟩ = { zq 0 with id := id } := by
  unfold bz
  simp only
  rw [if_neg (by omega),if_neg (by omega),if_neg (by omega),if_neg (by omega),if_neg (by omega)]
 rw [hb] at hp
 simp only [zq,Pq.mk.injEq,true_and,and_true] at hp
 obtain ⟨rfl,rfl,rfl,rfl,rfl,rfl,rfl,rfl,rfl,rfl,rfl,rfl,rfl,rfl,rfl,rfl,rfl,rfl,rfl,rfl,rfl⟩ := hp
 have hrB : restB ⟨kind,false,0,false,id,[],[],0,false,0,[],false,[],[],0,false,false,false,[],[],false,0,[]⟩ [] = wordB id := by
  unfold restB
  simp only
  rw [if_neg (by omega),if_neg (by omega),if_neg (by omega),if_pos h0]
  simp [subsB]
 have w1 := word_word [] hid
 rw [List.append_nil] at w1
 refine ⟨?_,(by show kind < 16; omega),?_,by rw [hrB]; rfl,?_,fun c => by have : kind = 1 := c.1; omega⟩
 · rcases k with rfl | rfl | rfl | rfl | rfl <;> exact Nat.le_of_ble_eq_true rfl
 · rcases k with rfl | rfl | rfl | rfl | rfl
   · show firstB (16 * 4 + 0) = true; decide
   · show firstB (16 * 5 + 0) = true; decide
   · show firstB (16 * 6 + 2) = true; decide
   · show firstB (16 * 7 + 0) = true; decide
   · show firstB (16 * 11 + 0) = true; decide
 · rw [hrB]
   have hz : zq kind = ⟨kind,false,0,false,0,[],[],0,false,0,[],false,[],[],0,false,false,false,[],[],false,0,[]⟩ := rfl
   unfold allS
   simp only [hz]
   rw [if_neg (by omega),if_neg (by omega),if_neg (by omega),if_neg (by omega),w1]
   unfold listS
   simp only
   rw [if_neg (by omega),if_neg (by omega)]
   rfl
theorem rd_subs {p : Pq} {es : List Sb} {n : Nat} (rg : Rg p es) (k : p.kind = 8 ∨ p.kind = 10) (hp : p = { bz p with kind := p.kind }) (e : subO fi p es = some n) : Rd1 val p es n := by
 unfold subO at e
 split at e
 · cases e
 rename_i n1 e1
 obtain ⟨h0,rfl⟩ := idO_some vl e1
 split at e
 · cases e
 obtain ⟨hs,hn⟩ := suL_some es 2 n e
 obtain ⟨kind,dup,qos,retain,id,topic,payload,level,clean,keep,client,will,wt,wp,wq,wr,hu,hpw,user,pass,present,code,codes⟩ := p
 have hid : id < 65536 := rg.id
 simp only at k h0 hs hn
 have hb : bz ⟨kind,dup,qos,retain,id,topic,payload,level,clean,keep,client,will,wt,wp,wq,wr,hu,hpw,user,pass,present,code,codes⟩ = { zq 0 with id := id } := by
  unfold bz
  simp only
  rw [if_neg (by omega),if_neg (by omega),if_neg (by omega),if_neg (by omega),if_neg (by omega)]
 rw [hb] at hp
 simp only [zq,Pq.mk.injEq,true_and,and_true] at hp
 obtain ⟨rfl,rfl,rfl,rfl,rfl,rfl,rfl,rfl,rfl,rfl,rfl,rfl,rfl,rfl,rfl,rfl,rfl,rfl,rfl,rfl,rfl⟩ := hp
 have hrB : restB ⟨kind,false,0,false,id,[],[],0,false,0,[],false,[],[],0,false,false,false,[],[],false,0,[]⟩ es = wordB id ++ subsB kind es := by
  unfold restB
  simp only
  rw [if_neg (by omega),if_neg (by omega),if_neg (by omega),if_pos h0]
  simp
 have w1 := word_word (subsB kind es) hid
 have ds := dec_subs vl k ((subsB kind es).length + 1) es (Nat.lt_succ_of_le (subsB_len2 kind es)) hs
 refine ⟨?_,(by show kind < 16; omega),?_,?_,?_,fun c => by have : kind = 1 := c.1; omega⟩
 · rcases k with rfl | rfl <;> exact Nat.le_of_ble_eq_true rfl
 · rcases k with rfl | rfl
   · show firstB (16 * 8 + 2) = true; decide
   · show firstB (16 * 10 + 2) = true; decide
 · rw [hrB,List.length_append,subsB_len k,hn]; rfl
 · rw [hrB]
   have hz : zq kind = ⟨kind,false,0,false,0,[],[],0,false,0,[],false,[],[],0,false,false,false,[],[],false,0,[]⟩ := rfl
   unfold allS
   simp only [hz]
   rw [if_neg (by omega),if_neg (by omega),if_neg (by omega),if_neg (by omega),w1]
   unfold listS
   simp only [Bool.or_false]
   rw [if_neg (by omega),if_pos k,ds]
theorem rd_codes {p : Pq} {es : List Sb} {n : Nat} (rg : Rg p es) (k : p.kind = 9) (hp : p = { bz p with kind := p.kind }) (he : es = []) (e : codO p = some n) : Rd1 val p es n := by
 unfold codO at e
 split at e
 · cases e
 rename_i n1 e1
 obtain ⟨h0,rfl⟩ := idO_some vl e1
 split at e
 · cases e
 split at e
 case isFalse => cases e
 simp only [Option.some.injEq] at e
 obtain ⟨kind,dup,qos,retain,id,topic,payload,level,clean,keep,client,will,wt,wp,wq,wr,hu,hpw,user,pass,present,code,codes⟩ := p
 have hid : id < 65536 := rg.id
 simp only at k h0 e
 subst k; subst he
 have hb : bz ⟨9,dup,qos,retain,id,topic,payload,level,clean,keep,client,will,wt,wp,wq,wr,hu,hpw,user,pass,present,code,codes⟩ = { zq 0 with id := id,codes := codes } := rfl
 rw [hb] at hp
 simp only [zq,Pq.mk.injEq,true_and,and_true] at hp
 obtain ⟨rfl,rfl,rfl,rfl,rfl,rfl,rfl,rfl,rfl,rfl,rfl,rfl,rfl,rfl,rfl,rfl,rfl,rfl,rfl,rfl⟩ := hp
 have hrB : restB ⟨9,false,0,false,id,[],[],0,false,0,[],false,[],[],0,false,false,false,[],[],false,0,codes⟩ [] = wordB id ++ codes := by
  unfold restB
  simp only
  rw [if_neg (by omega),if_neg (by omega),if_neg (by omega),if_pos h0]
  simp [subsB]
 have w1 := word_word codes hid
 refine ⟨(by show 0 < 16; omega),(by show 9 < 16; omega),(by show firstB (16 * 9 + 0) = true; decide),?_,?_,fun c => by cases c.1⟩
 · rw [hrB,List.length_append]; simp only [wordB,List.length_cons,List.length_nil]; omega
 · rw [hrB]
   show listS val ((wordL (wordB id ++ codes)).2.1,false || (wordL (wordB id ++ codes)).2.2,{ zq 9 with id := (wordL (wordB id ++ codes)).1 }) = _
   rw [w1]; rfl
theorem rd_none {p : Pq} {es : List Sb} {n : Nat} (k : p.kind = 12 ∨ p.kind = 13 ∨ p.kind = 14) (hp : p = { bz p with kind := p.kind }) (he : es = []) (e : some 0 = some n) : Rd1 val p es n := by
 have _ := vl
 simp only [Option.some.injEq] at e
 subst e; subst he
 have hb : bz p = zq 0 := by
  unfold bz
  rw [if_neg (by omega),if_neg (by omega),if_neg (by omega),if_neg (by omega),if_pos k]
 rw [hb] at hp
 rw [hp]
 rcases k with k | k | k <;> rw [k] <;> exact ⟨by decide,by decide,by decide,rfl,rfl,fun c => by cases c.1⟩
theorem rd_all {p : Pq} {es : List Sb} {n : Nat} (rg : Rg p es) (e : rstO val nm fi p es = some n) : Rd1 val p es n ∧ n ≤ 268435455 := by
 unfold rstO at e
 split at e
 · cases e
 rename_i m em
 split at e
 · cases e
 rename_i hm
 split at e
 case isFalse => cases e
 rename_i hb
 simp only [Option.some.injEq] at e
 subst e
 refine ⟨?_,by omega⟩
 unfold bareB at hb
 split at hb
 · cases hb
 rename_i hes
 have hp := of_decide_eq_true hb
 have he : p.kind ≠ 8 → p.kind ≠ 10 → es = [] := fun a b => Classical.byContradiction fun c => hes ⟨c,a,b⟩
 unfold restO at em
 split at em
 · rename_i k; exact rd_conn vl rg k hp (he (by omega) (by omega)) em
 split at em
 · rename_i k; exact rd_ack vl k hp (he (by omega) (by omega)) em
 split at em
 · rename_i k; exact rd_pub vl rg k hp (he (by omega) (by omega)) em
 split at em
 · rename_i k; exact rd_id vl rg k hp (he (by omega) (by omega)) em
 split at em
 · rename_i k; exact rd_subs vl rg k hp em
 split at em
 · rename_i k; exact rd_codes vl rg k hp (he (by omega) (by omega)) em
 split at em
 · rename_i k; exact rd_none vl k hp (he (by omega) (by omega)) em
 · cases em
end
theorem len_cases {n : Nat} (h : n ≤ 268435455) (r : List UInt8) : rlF (lenB n ++ r) 4 1 0 0 = (n,(lenB n).length,0) := by
 unfold lenB
 split
 · rename_i h1
   have a : (UInt8.ofNat n).toNat = n := u8n (by omega)
   simp only [List.cons_append,List.nil_append,rlF,List.getElem?_cons_zero,a,if_pos h1,List.length_cons,List.length_nil]
   rw [Nat.mod_eq_of_lt h1]; simp
 split
 · rename_i h1 h2
   have a : (UInt8.ofNat (n % 128 + 128)).toNat = n % 128 + 128 := u8n (by omega)
   have b : (UInt8.ofNat (n / 128)).toNat = n / 128 := u8n (by omega)
   simp only [List.cons_append,List.nil_append,rlF,List.getElem?_cons_zero,List.getElem?_cons_succ,a,b,if_neg (show ¬ n % 128 + 128 < 128 by omega),if_pos (show n / 128 < 128 by omega),List.length_cons,List.length_nil,Nat.zero_add]
   rw [show (n % 128 + 128) % 128 * 1 + n / 128 % 128 * (1 * 128) = n by omega]
 split
 · rename_i h1 h2 h3
   have a : (UInt8.ofNat (n % 128 + 128)).toNat = n % 128 + 128 := u8n (by omega)
   have b : (UInt8.ofNat (n / 128 % 128 + 128)).toNat = n / 128 % 128 + 128 := u8n (by omega)
   have c : (UInt8.ofNat (n / 16384)).toNat = n / 16384 := u8n (by omega)
   simp only [List.cons_append,List.nil_append,rlF,List.getElem?_cons_zero,List.getElem?_cons_succ,a,b,c,if_neg (show ¬ n % 128 + 128 < 128 by omega),if_neg (show ¬ n / 128 % 128 + 128 < 128 by omega),if_pos (show n / 16384 < 128 by omega),List.length_cons,List.length_nil,Nat.zero_add]
   rw [show (n % 128 + 128) % 128 * 1 + (n / 128 % 128 + 128) % 128 * (1 * 128) + n / 16384 % 128 * (1 * 128 * 128) = n by omega]
 · rename_i h1 h2 h3
   have a : (UInt8.ofNat (n % 128 + 128)).toNat = n % 128 + 128 := u8n (by omega)
   have b : (UInt8.ofNat (n / 128 % 128 + 128)).toNat = n / 128 % 128 + 128 := u8n (by omega)
   have c : (UInt8.ofNat (n / 16384 % 128 + 128)).toNat = n / 16384 % 128 + 128 := u8n (by omega)
   have d : (UInt8.ofNat (n / 2097152)).toNat = n / 2097152 := u8n (by omega)
   simp only [List.cons_append,List.nil_append,rlF,List.getElem?_cons_zero,List.getElem?_cons_succ,a,b,c,d,if_neg (show ¬ n % 128 + 128 < 128 by omega),if_neg (show ¬ n / 128 % 128 + 128 < 128 by omega),if_neg (show ¬ n / 16384 % 128 + 128 < 128 by omega),if_pos (show n / 2097152 < 128 by omega),List.length_cons,List.length_nil,Nat.zero_add]
   rw [show (n % 128 + 128) % 128 * 1 + (n / 128 % 128 + 128) % 128 * (1 * 128) + (n / 16384 % 128 + 128) % 128 * (1 * 128 * 128) + n / 2097152 % 128 * (1 * 128 * 128 * 128) = n by omega]
theorem dec_enc {val nm fi : List UInt8 → Bool} (vl : Vl val nm fi) {p : Pq} {es : List Sb} {n : Nat} (rg : Rg p es) (e : rstO val nm fi p es = some n) (r : List UInt8) :
 decP val nm fi (encB p es ++ r) = some (p,es,(encB p es).length) := by
 obtain ⟨⟨f16,k16,hF,hl,ha,hv⟩,hn⟩ := rd_all vl rg e
 have hc : (UInt8.ofNat (16 * p.kind + flagsN p)).toNat = 16 * p.kind + flagsN p := u8n (by omega)
 have hq := len_cases hn (restB p es ++ r)
 have hs : encB p es ++ r = UInt8.ofNat (16 * p.kind + flagsN p) :: (lenB n ++ (restB p es ++ r)) := by
  unfold encB
  rw [hl,List.cons_append,List.append_assoc]
 have hlen : (encB p es).length = (lenB n).length + 1 + n := by
  unfold encB
  rw [hl,List.length_cons,List.length_append,hl]; omega
 rw [hs,hlen]
 unfold decP
 simp only [hc,hF,if_true,hq]
 have d1 : (16 * p.kind + flagsN p) / 16 = p.kind := by omega
 have d2 : (16 * p.kind + flagsN p) % 16 = flagsN p := by omega
 rw [if_neg (by simp only [List.length_cons,List.length_append,hl]; omega)]
 have dr : List.drop ((lenB n).length + 1) (UInt8.ofNat (16 * p.kind + flagsN p) :: (lenB n ++ (restB p es ++ r))) = restB p es ++ r := by
  rw [List.drop_succ_cons,List.drop_left]
 have tk : List.take n (restB p es ++ r) = restB p es := by rw [← hl,List.take_left]
 rw [dr,tk,d1,d2,if_neg hv,ha]
 simp only [e,Option.isSome_some,if_true,ne_eq,not_true_eq_false,or_self,Bool.false_eq_true,if_false]
def cutL (dec : List UInt8 → Option (Pq × List Sb × Nat)) : Nat → List UInt8 → List (Pq × List Sb) × Nat
 | 0,_ => ([],0)
 | f + 1,l => match dec l with
  | none => ([],0)
  | some (p,es,n) => let t := cutL dec f (l.drop n); ((p,es) :: t.1,n + t.2)
def allB (l : List (Pq × List Sb)) : List UInt8 := (l.map fun x => encB x.1 x.2).flatten
theorem encB_pos (p : Pq) (es : List Sb) : 0 < (encB p es).length := by unfold encB; rw [List.length_cons]; omega
theorem allB_cons (x : Pq × List Sb) (l : List (Pq × List Sb)) : allB (x :: l) = encB x.1 x.2 ++ allB l := by simp [allB]
theorem decP_pos {val nm fi : List UInt8 → Bool} {l : List UInt8} {p : Pq} {es : List Sb} {n : Nat} (e : decP val nm fi l = some (p,es,n)) : 0 < n ∧ n ≤ l.length := by
 unfold decP at e
 split at e
 · cases e
 rename_i c t
 split at e
 case isFalse => cases e
 split at e
 case isFalse => cases e
 rename_i h0
 split at e
 · cases e
 rename_i hlt
 have hu := rlF_used t 4 1 0 0 h0
 have : n = (rlF t 4 1 0 0).2.1 + 1 + (rlF t 4 1 0 0).1 := by
  simp only at e
  split at e
  · simp only [Option.some.injEq,Prod.mk.injEq] at e; exact e.2.2.symm
  · split at e
    · cases e
    · split at e
      · simp only [Option.some.injEq,Prod.mk.injEq] at e; exact e.2.2.symm
      · cases e
 simp only [List.length_cons] at hlt ⊢
 omega
section
variable {dec : List UInt8 → Option (Pq × List Sb × Nat)} (pos : ∀ l p es n,dec l = some (p,es,n) → 0 < n ∧ n ≤ l.length)
include pos
theorem cut_le : ∀ (f : Nat) (l : List UInt8),(cutL dec f l).2 ≤ l.length
 | 0,_ => Nat.zero_le _
 | f + 1,l => by
  unfold cutL
  cases h : dec l with
  | none => exact Nat.zero_le _
  | some x =>
   obtain ⟨p,es,n⟩ := x
   have := pos l p es n h
   have ih := cut_le f (l.drop n)
   rw [List.length_drop] at ih
   show n + (cutL dec f (l.drop n)).2 ≤ _
   omega
theorem cut_fuel : ∀ (f g : Nat) (l : List UInt8),l.length < f → l.length < g → cutL dec f l = cutL dec g l
 | 0,_,_,h,_ => absurd h (Nat.not_lt_zero _)
 | _ + 1,0,_,_,h => absurd h (Nat.not_lt_zero _)
 | f + 1,g + 1,l,hf,hg => by
  unfold cutL
  cases h : dec l with
  | none => rfl
  | some x =>
   obtain ⟨p,es,n⟩ := x
   have := pos l p es n h
   have ih := cut_fuel f g (l.drop n) (by rw [List.length_drop]; omega) (by rw [List.length_drop]; omega)
   simp only [ih]
theorem cut_end : ∀ (f : Nat) (l : List UInt8),l.length < f → dec (l.drop (cutL dec f l).2) = none
 | 0,_,h => absurd h (Nat.not_lt_zero _)
 | f + 1,l,hf => by
  unfold cutL
  cases h : dec l with
  | none => exact h
  | some x =>
   obtain ⟨p,es,n⟩ := x
   have := pos l p es n h
   have ih := cut_end f (l.drop n) (by rw [List.length_drop]; omega)
   show dec (l.drop (n + (cutL dec f (l.drop n)).2)) = none
   rw [← List.drop_drop]
   exact ih
theorem cut_all {ps : List (Pq × List Sb)} (en : ∀ p es r,(p,es) ∈ ps → dec (encB p es ++ r) = some (p,es,(encB p es).length)) (b : List UInt8) : ∀ (f : Nat),(allB ps ++ b).length < f → cutL dec f (allB ps ++ b) = (ps ++ (cutL dec f b).1,(allB ps).length + (cutL dec f b).2) := by
 induction ps with
 | nil => intro f _; simp [allB]
 | cons x l ih =>
  obtain ⟨p,es⟩ := x
  intro f hf
  cases f with
  | zero => exact absurd hf (Nat.not_lt_zero _)
  | succ f =>
   have hcn : allB ((p,es) :: l) = encB p es ++ allB l := allB_cons _ _
   rw [hcn,List.append_assoc] at hf ⊢
   have e := en p es (allB l ++ b) (List.mem_cons_self ..)
   have hp := encB_pos p es
   have hlen : (allB l ++ b).length < f := by rw [List.length_append] at hf; omega
   have ih := ih (fun p es r h => en p es r (List.mem_cons_of_mem _ h)) f hlen
   have hb : b.length < f := by rw [List.length_append] at hlen; omega
   have eb := cut_fuel pos (f + 1) f b (by omega) hb
   rw [eb]
   have un : cutL dec (f + 1) (encB p es ++ (allB l ++ b)) = ((p,es) :: (cutL dec f ((encB p es ++ (allB l ++ b)).drop (encB p es).length)).1,(encB p es).length + (cutL dec f ((encB p es ++ (allB l ++ b)).drop (encB p es).length)).2) := by
    conv => lhs; unfold cutL
    rw [e]
   rw [un]
   simp only [List.drop_left,ih,List.length_append,List.cons_append,Nat.add_assoc]
end
end Go.Proofs.YtohapjojkjjflaaDoor.Wc
