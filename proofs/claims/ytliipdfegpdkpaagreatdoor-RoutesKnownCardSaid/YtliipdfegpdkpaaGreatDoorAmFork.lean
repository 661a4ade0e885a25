/-
  An abstract machine for the model: a function that goes over a map of some entries, in whatever order: all orders are run, and must come to the same; and code whose iterators are forgotten when it has returned.
-/
import Derived.Test.YtliipdfegpdkpaaGreatDoorAmSeg
namespace Go.AM
open Go Go.RowKit

abbrev OL := List (Ex × T Value × H)

/-! A heap of which new names are forgotten. -/
theorem Step.weaken {NG : Nat} {μ μ' : Mu} {h h1 hf : H} {w w' : World} (s : Step NG μ h w μ' h1 w') (hsub : ∀ id b, hf.get id = some b → h1.get id = some b) (hold : ∀ id, id < h.next → hf.get id = h1.get id) (hn : h1.next ≤ hf.next) : Step NG μ h w μ' hf w' where
  wf := s.wf
  le := s.le
  old := s.old
  out := fun id hid => s.out id (Nat.le_trans hn hid)
  next := Nat.le_trans s.next hn
  rh := ⟨Nat.le_trans s.rh.ng hn, fun id b hb => Nat.lt_of_lt_of_le (s.rh.wf id b (hsub id b hb)) hn, fun id b l hb hl => s.rh.br id b l (hsub id b hb) hl,
    fun id b l id' b' l' hb ho hl hb' hl' hne => s.rh.inj id b l id' b' l' (hsub id b hb) ho hl (hsub id' b' hb') hl' hne, s.rh.bd, s.rh.gl⟩
  size := s.size
  os := s.os
  tape := s.tape
  output := s.output
  frame := s.frame
  src := fun id k l hk ho hl => s.src id k l (hsub id k hk) ho hl
  unm := fun id k hk hm => by rw [hold id (s.wf id k hk)]; exact s.unm id k hk hm
  dead := fun id hid hg => by rw [hold id hid]; exact s.dead id hid hg
  ro := fun id k hk ho => s.ro id k (hsub id k hk) ho

/-- Only a number was drawn. -/
theorem Step.drawn {NG : Nat} {μ : Mu} {h : H} {w : World} (r : RH NG μ h w) (n : Nat) : Step NG μ h w μ h { w with drawn := n } where
  wf := r.wf
  le := fun _ _ h => h
  old := fun _ _ => rfl
  out := fun _ _ => rfl
  next := Nat.le_refl _
  rh := ⟨r.ng, r.wf, r.br, r.inj, r.bd, r.gl⟩
  size := Nat.le_refl _
  os := rfl
  tape := rfl
  output := rfl
  frame := fun _ _ _ => rfl
  src := fun id k l hk _ hl => .inr ⟨id, k, l, hk, ‹_›, hl, rfl⟩
  unm := fun _ _ h _ => h
  dead := fun _ _ h => h
  ro := fun _ _ h _ => h

/-- All steps over a map of old entries. -/
def A.nextMM (x : Value) (h : H) : Option (List (Value × H)) :=
  match x with
  | .pointer (some ⟨id, 0, none⟩) => match h.get id with
    | some (.miter (some m) since seen last) => match h.get m with
      | some (.map es clock) =>
        bif !seen.isEmpty && !es.isEmpty && es.all (fun e => Nat.ble last e.born) then none else
          (match es.filter fun e => !A.bornIn seen e with
           | [] => none
           | e :: r => bif (e :: r).all (fun e => Nat.blt e.born since) then some ((e :: r).map fun e => (.tuple ⟨[.bool true, e.key, e.val]⟩, h.put id (.miter (some m) since (seen ++ [e.born]) clock))) else none)
      | _ => none
    | _ => none
  | _ => none

section
variable {P : Program} {NG nt : Nat} {C : CF} {μ : Mu} {h : H} {w : World}

theorem choose_run {n : Nat} (hn : 0 < n) (w : World) : ∃ k d, k < n ∧ (choose (.mapNext n)).run P w = .ok k { w with drawn := d } := by
  by_cases h1 : n ≤ 1
  · refine ⟨0, w.drawn, hn, ?_⟩
    simp [choose, Sem.run, Question.forced, h1]
  · refine ⟨(Question.mapNext n).cut (w.tape w.drawn (.mapNext n)), w.drawn + 1, Nat.mod_lt _ hn, ?_⟩
    simp [choose, Sem.run, Question.forced, h1]

theorem filter_all {α : Type} {p : α → Bool} {l : List α} (h : l.all p = true) : l.filter p = l := List.filter_eq_self.2 (List.all_eq_true.1 h)

theorem EsR.get {es : List Ent} {cl : List MapEntry} (r : EsR μ es cl) {i : Nat} {c : MapEntry} (hc : cl[i]? = some c) : ∃ e, es[i]? = some e ∧ plain e.key = true ∧ ER μ e c := by
  have hlt : i < es.length := by
    have := (List.getElem?_eq_some_iff.1 hc).1
    have := r.1
    omega
  have he := List.getElem?_eq_getElem hlt
  obtain ⟨hp, c', hc', hr⟩ := r.2 i _ he
  rw [hc] at hc'
  obtain rfl := Option.some.inj hc'
  exact ⟨_, he, hp, hr⟩

theorem nextMM_sound (r : RH NG μ h w) {x cx : Value} {l : List (Value × H)} (hv : A.nextMM x h = some l) (rx : VR μ x cx) (ty : TypeId) :
    ∃ o ∈ l, ∃ cv w', (Instr.next cx false ty).run P w = .ok cv w' ∧ Step NG μ h w μ o.2 w' ∧ VR μ o.1 cv := by
  unfold A.nextMM at hv
  split at hv
  · rename_i id
    obtain ⟨l0, hl, _⟩ := rx.ptr_inv
    split at hv
    · rename_i m since seen last hg
      obtain ⟨h0, m', hm, hb⟩ := r.br _ _ _ hg hl
      obtain ⟨bm, rfl⟩ : ∃ bm, m' = some bm := by cases m' with
        | none => exact hm.elim
        | some b => exact ⟨b, rfl⟩
      obtain ⟨lm, hlm, rfl⟩ := hm
      rw [rx.iter_inv hl h0]
      have hlt : l0.blk < w.heap.size := (Array.getElem?_eq_some_iff.1 hb).1
      have hgo : (getObj l0.blk).run P w = .ok (.mapIter (some lm.blk) since ⟨seen⟩ last) w := by simp only [getObj, Sem.run, hb]
      split at hv
      · rename_i es clock hgm
        obtain ⟨⟨cl⟩, hbm, hes⟩ := r.map hgm hlm
        have hes : EsR μ es cl := hes
        have hgm' : (getObj lm.blk).run P w = .ok (.map ⟨cl⟩ clock) w := by simp only [getObj, Sem.run, hbm]
        have hall : ((⟨cl⟩ : Array MapEntry).all fun e => decide (e.born ≥ last)) = es.all fun e => Nat.ble last e.born := by
          rw [show (⟨cl⟩ : Array MapEntry) = cl.toArray from rfl, List.all_toArray]
          exact hes.all fun e c hb => by rw [hb, Bool.eq_iff_iff, decide_eq_true_eq, ble_iff]
        have hemp : (⟨cl⟩ : Array MapEntry).isEmpty = es.isEmpty := by rw [← hes.isEmpty]; cases cl <;> rfl
        have hemp2 : (⟨seen⟩ : Array Nat).isEmpty = seen.isEmpty := by cases seen <;> rfl
        have hleft : (⟨cl⟩ : Array MapEntry).filter (fun e => !(⟨seen⟩ : Array Nat).contains e.born) = ⟨cl.filter fun e => !(⟨seen⟩ : Array Nat).contains e.born⟩ := by
          rw [show (⟨cl⟩ : Array MapEntry) = cl.toArray from rfl, List.filter_toArray]
        have hfl := hes.filter (q := fun c => !(⟨seen⟩ : Array Nat).contains c.born) (p := fun e => !A.bornIn seen e) fun e c hb => bornIn_eq seen e c hb
        cases hcnd : (!seen.isEmpty && !es.isEmpty && es.all fun e => Nat.ble last e.born) with
        | true => rw [hcnd] at hv; simp at hv
        | false =>
          rw [hcnd] at hv
          simp only [cond_false] at hv
          split at hv
          · simp at hv
          · rename_i e0 es1 hone
            obtain ⟨hold1, hv⟩ := cond_some hv
            rw [hone] at hfl
            obtain ⟨L, hL⟩ : ∃ L, L = cl.filter fun e => !(⟨seen⟩ : Array Nat).contains e.born := ⟨_, rfl⟩
            rw [← hL] at hfl hleft
            obtain ⟨ES, hES⟩ : ∃ ES, ES = e0 :: es1 := ⟨_, rfl⟩
            rw [← hES] at hfl hold1 hv
            have hlen : 0 < L.length := by
              have := hfl.1
              rw [this, hES]
              simp
            have hold2 : L.all (fun c => decide (c.born < since)) = true := by
              rw [hfl.all (p := fun e => Nat.blt e.born since) fun e c hb => by rw [hb, Bool.eq_iff_iff, decide_eq_true_eq, blt_iff]]
              exact hold1
            have hnew0 : L.filter (fun c => decide (c.born ≥ since)) = [] := by
              rw [List.filter_eq_nil_iff]
              intro c hc
              have := List.all_eq_true.1 hold2 c hc
              simp only [decide_eq_true_eq] at this
              simp only [decide_eq_true_eq]
              omega
            have hold : (⟨L⟩ : Array MapEntry).filter (fun e => decide (e.born < since)) = ⟨L⟩ := by
              rw [show (⟨L⟩ : Array MapEntry) = L.toArray from rfl, List.filter_toArray, filter_all hold2]
            have hnew : (⟨L⟩ : Array MapEntry).filter (fun e => decide (e.born ≥ since)) = #[] := by
              rw [show (⟨L⟩ : Array MapEntry) = L.toArray from rfl, List.filter_toArray, hnew0]
            have hne : (⟨L⟩ : Array MapEntry).isEmpty = false := by
              cases L with
              | nil => simp at hlen
              | cons c L => rfl
            obtain ⟨k, d, hk, hch⟩ := choose_run (P := P) hlen w
            have hkL : L[k]? = some L[k] := List.getElem?_eq_getElem hk
            obtain ⟨e, he, hp, hr⟩ := hfl.get hkL
            obtain ⟨c, hc⟩ : ∃ c, c = L[k] := ⟨_, rfl⟩
            rw [← hc] at hkL hr
            simp only [Option.some.injEq] at hv
            subst hv
            have hmem : e ∈ ES := List.mem_of_getElem? he
            refine ⟨_, List.mem_map.2 ⟨e, hmem, rfl⟩, .tuple #[.bool true, c.key, c.val], setObj { w with drawn := d } l0.blk (.mapIter (some lm.blk) since ⟨seen ++ [e.born]⟩ clock), ?_, ?_, ?_⟩
            · have hpush : (⟨seen⟩ : Array Nat).push c.born = ⟨seen ++ [e.born]⟩ := by rw [hr.2.1]; apply Array.ext'; simp
              have hso : ∀ o, (Go.setObj l0.blk o).run P { w with drawn := d } = .ok () (setObj { w with drawn := d } l0.blk o) := fun o => by simp [Go.setObj, Sem.run, hb, setObj]
              have hcand : ((if (⟨L⟩ : Array MapEntry).isEmpty then #[none] else #[]) ++ ((⟨L⟩ : Array MapEntry) ++ #[]).map some : Array (Option MapEntry)) = (⟨L⟩ : Array MapEntry).map some := by
                rw [hne]; simp
              have hsz : ((⟨L⟩ : Array MapEntry).map some).size = L.length := by simp
              have hget : ((⟨L⟩ : Array MapEntry).map some)[k]? = some (some c) := by
                rw [Array.getElem?_map]
                show ((⟨L⟩ : Array MapEntry)[k]?).map some = _
                have : (⟨L⟩ : Array MapEntry)[k]? = L[k]? := by simp
                rw [this, hkL]; rfl
              simp only [Instr.next, Sem.run_bind, hgo, Result.andThen_ok, hgm', hemp, hemp2, hall, hcnd, hleft, hold, hnew, Bool.false_eq_true, if_false, Sem.run_pure]
              rw [hcand, hsz, hch]
              simp only [Result.andThen_ok, hget, Sem.run_bind, hpush, hso, Sem.run_pure]
            · exact (Step.drawn r d).trans (Step.write (Step.drawn r d).rh hg rfl rfl hl ⟨h0, some lm.blk, ⟨lm, hlm, rfl⟩, setObj_same hlt⟩)
            · refine .tuple [.bool true, e.key, e.val] [.bool true, c.key, c.val] rfl fun i a b ha hb => ?_
              match i with
              | 0 => simp at ha hb; subst ha; subst hb; exact .bool true
              | 1 => simp at ha hb; subst ha; subst hb; rw [hr.1]; exact VR.of_plain _ _ hp
              | 2 => simp at ha hb; subst ha; subst hb; exact hr.2.2
              | n + 3 => simp at ha
      · simp at hv
    · simp at hv
  · simp at hv
end

/-! Code of which all outcomes are told. N: no name is given out from N on. -/
def CodesN (P : Program) (NG nt : Nat) (c : Code) (fr : T Value) (h : H) (N : Nat) (l : OL) : Prop :=
  (∀ o ∈ l, o.2.2.next ≤ N) ∧ ∀ (μ : Mu) (a : Act) (w : World), RH NG μ h w → Fresh μ h.next N → FR nt μ fr a →
    c.wpIn (Fr none) 0 P (fun e a' w' => ∃ o ∈ l, ExR o.1 e ∧ StepTo NG nt μ h w a o.2.1 o.2.2 a' w') a w

def bindM (f : T Value → H → Option OL) : OL → Option OL
  | [] => some []
  | (.normal, fr, h) :: r => match f fr h with
    | some l => (match bindM f r with | some l2 => some (l ++ l2) | none => none)
    | none => none
  | (.exit j, fr, h) :: r => match bindM f r with | some l2 => some ((.exit j, fr, h) :: l2) | none => none
  | (.ret, fr, h) :: r => match bindM f r with | some l2 => some ((.ret, fr, h) :: l2) | none => none

def unblk (id : Nat) (o : Ex × T Value × H) : Ex × T Value × H :=
  match o with
  | (.exit j, p) => bif Nat.beq j id then (.normal, p) else (.exit j, p)
  | o => o

def loopM (f : T Value → H → Option OL) : Nat → T Value → H → Option OL
  | 0, _, _ => none
  | n + 1, fr, h => match f fr h with | some l => bindM (loopM f n) l | none => none

def eachM (f : Value → H → Option (Ex × T Value × H)) : List (Value × H) → Option OL
  | [] => some []
  | (v, h) :: r => match f v h, eachM f r with | some o, some l => some (o :: l) | _, _ => none

def forkN (P : Program) (C : CF) (NG nt : Nat) (ops : Array Oper) (draw : Bool) (fr : T Value) (h : H) : Option OL :=
  bif dstOK nt ops && !draw then
  (match ops.toList with
   | ⟨dst, .next x false, ty, pos, after, none⟩ :: rest => (match evalA NG fr h x with
     | some v => (match A.nextMM v h with
       | some l => eachM (fun v h => runOps P C NG ops rest (putA fr dst (some v)) h fun fr h => some (.normal, fr, h)) l
       | none => none)
     | none => none)
   | _ => none)
  else none

def leN (N : Nat) (l : OL) : Bool := l.all fun o => Nat.ble o.2.2.next N
def okN (N : Nat) (r : Option OL) : Option OL := match r with | some l => bif leN N l then some l else none | none => none
def oneM (r : Option (Ex × T Value × H)) : Option OL := match r with | some o => some [o] | none => none
def orM (r : Option (Ex × T Value × H)) (x : Option OL) : Option OL := match r with | some o => some [o] | none => x

/-- leaf: what runs code of one outcome. -/
def execM (leaf : Code → T Value → H → Option (Ex × T Value × H)) (P : Program) (C : CF) (L NG nt N : Nat) : Code → T Value → H → Option OL
  | .seq a b, fr, h => match execM leaf P C L NG nt N a fr h with | some l => bindM (execM leaf P C L NG nt N b) l | none => none
  | .cond c a b, fr, h => match evalA NG fr h c with
    | some (.bool true) => execM leaf P C L NG nt N a fr h
    | some (.bool false) => execM leaf P C L NG nt N b fr h
    | _ => none
  | .block id b, fr, h => match execM leaf P C L NG nt N b fr h with | some l => some (l.map (unblk id)) | none => none
  | .loop b, fr, h => loopM (execM leaf P C L NG nt N b) L fr h
  | .region id ops draw, fr, h => okN N (orM (leaf (.region id ops draw) fr h) (forkN P C NG nt ops draw fr h))
  | c, fr, h => okN N (oneM (leaf c fr h))

section
variable {P : Program} {NG nt N : Nat} {C : CF}

theorem leN_mem {l : OL} (h : leN N l = true) : ∀ o ∈ l, o.2.2.next ≤ N := fun o ho => ble_iff.1 (List.all_eq_true.1 h o ho)

theorem CodesN.one {c : Code} {fr : T Value} {h : H} {ex : Ex} {fr' : T Value} {h' : H} (x : Codes P NG nt c fr h ex fr' h') (hN : h'.next ≤ N) : CodesN P NG nt c fr h N [(ex, fr', h')] :=
  ⟨fun o ho => by simp only [List.mem_singleton] at ho; subst ho; exact hN, fun μ a w rh hf f => wpIn_mono (x.2 μ a w rh (fun id e1 e2 => hf id e1 (Nat.lt_of_lt_of_le e2 hN)) f none (.inl rfl)) fun _ _ _ r => ⟨_, List.mem_singleton.2 rfl, r⟩⟩

/-- What comes behind each normal outcome. -/
def Behind (N : Nat) (R : T Value → H → OL → Prop) (l l2 : OL) : Prop :=
  (∀ o ∈ l, o.1 ≠ .normal → o ∈ l2) ∧ (∀ o ∈ l2, o.2.2.next ≤ N) ∧ ∀ o ∈ l, o.1 = .normal → ∃ lo, R o.2.1 o.2.2 lo ∧ ∀ x ∈ lo, x ∈ l2

theorem bindM_sound {f : T Value → H → Option OL} {R : T Value → H → OL → Prop} (hf : ∀ fr h l, f fr h = some l → R fr h l ∧ ∀ o ∈ l, o.2.2.next ≤ N) : ∀ (l l2 : OL), (∀ o ∈ l, o.2.2.next ≤ N) → bindM f l = some l2 → Behind N R l l2
  | [], l2, _, h => by
    simp only [bindM, Option.some.injEq] at h
    subst h
    exact ⟨fun o ho => by simp at ho, fun o ho => by simp at ho, fun o ho => by simp at ho⟩
  | (ex, fr, h0) :: r, l2, hN, h => by
    have hN' : ∀ o ∈ r, o.2.2.next ≤ N := fun o ho => hN o (List.mem_cons_of_mem _ ho)
    have other : ∀ l3, bindM f r = some l3 → l2 = (ex, fr, h0) :: l3 → ex ≠ .normal → Behind N R ((ex, fr, h0) :: r) l2 := by
      intro l3 h3 e3 hne
      obtain ⟨a1, a2, a3⟩ := bindM_sound hf r l3 hN' h3
      subst e3
      refine ⟨fun o ho hn => ?_, fun o ho => ?_, fun o ho hn => ?_⟩
      · rcases List.mem_cons.1 ho with rfl | ho
        · exact List.mem_cons_self
        · exact List.mem_cons_of_mem _ (a1 o ho hn)
      · rcases List.mem_cons.1 ho with rfl | ho
        · exact hN _ List.mem_cons_self
        · exact a2 o ho
      · rcases List.mem_cons.1 ho with rfl | ho
        · exact absurd hn hne
        · obtain ⟨lo, e2, e3⟩ := a3 o ho hn
          exact ⟨lo, e2, fun x hx => List.mem_cons_of_mem _ (e3 x hx)⟩
    cases ex with
    | normal =>
      simp only [bindM] at h
      split at h
      · rename_i lo hlo
        split at h
        · rename_i l3 h3
          simp only [Option.some.injEq] at h
          subst h
          obtain ⟨a1, a2, a3⟩ := bindM_sound hf r l3 hN' h3
          obtain ⟨c1, c2⟩ := hf fr h0 lo hlo
          refine ⟨fun o ho hn => ?_, fun o ho => ?_, fun o ho hn => ?_⟩
          · rcases List.mem_cons.1 ho with rfl | ho
            · exact absurd rfl hn
            · exact List.mem_append_right _ (a1 o ho hn)
          · rcases List.mem_append.1 ho with ho | ho
            · exact c2 o ho
            · exact a2 o ho
          · rcases List.mem_cons.1 ho with rfl | ho
            · exact ⟨lo, c1, fun x hx => List.mem_append_left _ hx⟩
            · obtain ⟨lo, e2, e3⟩ := a3 o ho hn
              exact ⟨lo, e2, fun x hx => List.mem_append_right _ (e3 x hx)⟩
        · simp at h
      · simp at h
    | exit j =>
      simp only [bindM] at h
      split at h
      · rename_i l3 h3
        simp only [Option.some.injEq] at h
        exact other l3 h3 h.symm (by simp)
      · simp at h
    | ret =>
      simp only [bindM] at h
      split at h
      · rename_i l3 h3
        simp only [Option.some.injEq] at h
        exact other l3 h3 h.symm (by simp)
      · simp at h

theorem fresh_second {μ μ1 : Mu} {h h1 : H} {w w1 : World} {N : Nat} (hf : Fresh μ h.next N) (s : Step NG μ h w μ1 h1 w1) : Fresh μ1 h1.next N := fun id h1' h2' => by
  rw [s.out id h1']; exact hf id (Nat.le_trans s.next h1') h2'

theorem ExR.nor {ex : Ex} (h : ExR ex .normal) : ex = .normal := by cases ex <;> first | rfl | exact h.elim
theorem ExR.not {ex : Ex} {e : Exit} (h : ExR ex e) (hn : e ≠ .normal) : ex ≠ .normal := fun he => by subst he; cases e <;> first | exact hn rfl | exact h.elim

/-- Rounds. -/
def RoundsN (P : Program) (NG nt N : Nat) (b : Code) (n : Nat) (fr : T Value) (h : H) (l : OL) : Prop :=
  (∀ o ∈ l, o.2.2.next ≤ N) ∧ ∀ (μ : Mu) (a : Act) (w : World), RH NG μ h w → Fresh μ h.next N → FR nt μ fr a →
    Code.roundsIn (Fr none) 0 P b (fun e a' w' => ∃ o ∈ l, ExR o.1 e ∧ StepTo NG nt μ h w a o.2.1 o.2.2 a' w') n a w

theorem loopM_sound {b : Code} {f : T Value → H → Option OL} (hf : ∀ fr h l, f fr h = some l → CodesN P NG nt b fr h N l) : ∀ (n : Nat) (fr : T Value) (h : H) (l : OL), loopM f n fr h = some l → RoundsN P NG nt N b n fr h l
  | 0, _, _, _, h => by simp [loopM] at h
  | n + 1, fr, h, l, hr => by
    simp only [loopM] at hr
    split at hr
    · rename_i l1 h1
      have c1 := hf fr h l1 h1
      obtain ⟨a1, a2, a3⟩ := bindM_sound (R := RoundsN P NG nt N b n) (fun fr h l hl => by
        have := loopM_sound hf n fr h l hl
        exact ⟨this, this.1⟩) l1 l c1.1 hr
      refine ⟨a2, fun μ a w rh hfr f0 => ?_⟩
      rw [roundsIn_succ]
      refine wpIn_mono (c1.2 μ a w rh hfr f0) fun e a1' w1 ⟨o, ho, he, μ1, st, f1, d1⟩ => ?_
      cases e with
      | normal =>
        obtain ⟨lo, ⟨_, b3⟩, e3⟩ := a3 o ho he.nor
        exact roundsIn_mono (fun e a2 w2 ⟨x, hx, hex, hst⟩ => ⟨x, e3 x hx, hex, hst.trans st d1⟩) n a1' w1 (b3 μ1 a1' w1 st.rh (fresh_second hfr st) f1)
      | _ => exact ⟨o, a1 o ho (he.not (by simp)), he, μ1, st, f1, d1⟩
    · simp at hr

theorem eachM_mem {f : Value → H → Option (Ex × T Value × H)} : ∀ {l : List (Value × H)} {ol : OL}, eachM f l = some ol → ∀ o ∈ l, ∃ x ∈ ol, f o.1 o.2 = some x
  | [], ol, h, o, ho => by simp at ho
  | (v, h0) :: r, ol, h, o, ho => by
    simp only [eachM] at h
    split at h
    · rename_i x l hx hl
      simp only [Option.some.injEq] at h
      subst h
      rcases List.mem_cons.1 ho with rfl | ho
      · exact ⟨x, List.mem_cons_self, hx⟩
      · obtain ⟨y, hy, e⟩ := eachM_mem hl o ho
        exact ⟨y, List.mem_cons_of_mem _ hy, e⟩
    · simp at h

theorem nextMM_next {v : Value} {h : H} {l : List (Value × H)} (hl : A.nextMM v h = some l) : (∀ o ∈ l, o.2.next = h.next) := by
  unfold A.nextMM at hl
  split at hl
  · split at hl
    · rename_i m since seen last _
      split at hl
      · rename_i es clock _
        cases hcnd : (!seen.isEmpty && !es.isEmpty && es.all fun e => Nat.ble last e.born) with
        | true => rw [hcnd] at hl; simp at hl
        | false =>
          rw [hcnd] at hl
          simp only [cond_false] at hl
          split at hl
          · simp at hl
          · obtain ⟨_, hl⟩ := cond_some hl
            simp only [Option.some.injEq] at hl
            subst hl
            intro o ho
            obtain ⟨e, _, rfl⟩ := List.mem_map.1 ho
            rfl
      · simp at hl
    · simp at hl
  · simp at hl

theorem forkN_sound (hzp : zerosPlain P = true) (hC : CallsOK P NG C) {id : Nat} {ops : Array Oper} {draw : Bool} {fr : T Value} {h : H} {l : OL} (hr : forkN P C NG nt ops draw fr h = some l) (hN : ∀ o ∈ l, o.2.2.next ≤ N) : CodesN P NG nt (.region id ops draw) fr h N l := by
  unfold forkN at hr
  obtain ⟨hc, hr2⟩ := cond_some hr
  replace hr := hr2
  clear hr2
  simp only [Bool.and_eq_true, Bool.not_eq_true'] at hc
  obtain ⟨hd, rfl⟩ := hc
  split at hr
  · rename_i dst x ty pos after rest hops
    split at hr
    · rename_i v hv
      split at hr
      · rename_i nl hnl
        have hmem := eachM_mem hr
        have ho : ops[0]? = some ⟨dst, .next x false, ty, pos, after, none⟩ := by
          have : ops.toList[0]? = some ⟨dst, .next x false, ty, pos, after, none⟩ := by rw [hops]; rfl
          simpa using this
        have hsz : ops.size = (ops.size - 1) + 1 := by
          have : 0 < ops.toList.length := by rw [hops]; simp
          simp at this; omega
        have hdrop : ops.toList.drop 1 = rest := by rw [hops]; rfl
        have hdo := dst_lt hd ho
        refine ⟨hN, fun μ a w rh hf f => wpIn_region ?_⟩
        have hrange : List.range ops.size = 0 :: List.range' 1 (ops.size - 1) := by
          rw [List.range_eq_range', hsz, List.range'_succ]; simp
        rw [hrange, wpOpsIn_cons]
        unfold wpOpIn
        have hw : Region.wanted ⟨dst, .next x false, ty, pos, after, none⟩ (yielded ops a.tmps) = true := by simp [Region.wanted]
        simp only [ho, hw, if_true]
        obtain ⟨o, homem, cv, w', hrun, hst, hvr⟩ := nextMM_sound (P := P) rh hnl ((f.ev rh) x v hv) ty
        obtain ⟨xo, hxo, hrx⟩ := hmem o homem
        have hex : (execOp a.eval ⟨dst, .next x false, ty, pos, after, none⟩).run P w = .ok (.value cv) w' := by simp only [execOp, Sem.run_bind, hrun, Result.andThen_ok, Sem.run_pure]
        refine ⟨fun _ _ => trivial, ?_⟩
        show Oper.uponIn (Fr none) 0 P _ a _ _ ((Oper.semAt none a.eval _).run P w)
        rw [semAt_value P hex (fun d => by simp) none]
        obtain ⟨fr1, h1, hk, hle, hs⟩ := runOps_sound hzp hC hd rest 1 _ _ hdrop hrx
        simp only [Option.some.injEq] at hk
        have hon : o.2.next = h.next := nextMM_next hnl o homem
        have hx1 : h1.next ≤ N := by
          have := hN xo hxo
          rw [← hk] at this
          exact this
        refine hs μ (a.put dst cv) w' hst.rh (fun id e1 e2 => hf id (by omega) (Nat.lt_of_lt_of_le e2 hx1)) (f.put hdo (rv := some o.1) hvr) none _ fun a' w'' ⟨μ', st, f', d⟩ => ?_
        refine ⟨xo, hxo, ?_⟩
        rw [← hk]
        exact ⟨trivial, μ', hst.trans st, f', by rw [d, put_defers]; exact Marks.refl _ _ _⟩
      · simp at hr
    · simp at hr
  · simp at hr

theorem okN_some {r : Option OL} {l : OL} (h : okN N r = some l) : r = some l ∧ ∀ o ∈ l, o.2.2.next ≤ N := by
  unfold okN at h
  split at h
  · obtain ⟨h1, h2⟩ := cond_some h
    simp only [Option.some.injEq] at h2
    subst h2
    exact ⟨rfl, leN_mem h1⟩
  · simp at h

theorem execM_sound (hzp : zerosPlain P = true) (hC : CallsOK P NG C) {L : Nat} {leaf : Code → T Value → H → Option (Ex × T Value × H)} (hleaf : ∀ c fr h ex fr' h', leaf c fr h = some (ex, fr', h') → Codes P NG nt c fr h ex fr' h') :
    ∀ (c : Code) (fr : T Value) (h : H) (l : OL), execM leaf P C L NG nt N c fr h = some l → CodesN P NG nt c fr h N l := by
  have lf : ∀ (c : Code) (fr : T Value) (h : H) (l : OL), okN N (oneM (leaf c fr h)) = some l → CodesN P NG nt c fr h N l := fun c fr h l hr => by
    obtain ⟨hr, hN⟩ := okN_some hr
    unfold oneM at hr
    split at hr
    · rename_i o ho
      simp only [Option.some.injEq] at hr
      subst hr
      exact .one (hleaf _ _ _ _ _ _ ho) (hN _ (List.mem_singleton.2 rfl))
    · simp at hr
  intro c
  induction c with
  | seq x y ihx ihy =>
    intro fr h l hr
    simp only [execM] at hr
    split at hr
    · rename_i l1 h1
      have c1 := ihx fr h l1 h1
      obtain ⟨a1, a2, a3⟩ := bindM_sound (R := fun fr h l => CodesN P NG nt y fr h N l) (fun fr h l hl => ⟨ihy fr h l hl, (ihy fr h l hl).1⟩) l1 l c1.1 hr
      refine ⟨a2, fun μ a w rh hf f => wpIn_seq (wpIn_mono (c1.2 μ a w rh hf f) fun e a1' w1 ⟨o, ho, he, μ1, st, f1, d1⟩ => ?_)⟩
      cases e with
      | normal =>
        obtain ⟨lo, c2, e3⟩ := a3 o ho he.nor
        exact wpIn_mono (c2.2 μ1 a1' w1 st.rh (fresh_second hf st) f1) fun e a2 w2 ⟨x, hx, hex, hst⟩ => ⟨x, e3 x hx, hex, hst.trans st d1⟩
      | _ => exact ⟨o, a1 o ho (he.not (by simp)), he, μ1, st, f1, d1⟩
    · simp at hr
  | cond c x y ihx ihy =>
    intro fr h l hr
    simp only [execM] at hr
    split at hr
    · rename_i hc
      have c1 := ihx fr h l hr
      exact ⟨c1.1, fun μ a w rh hf f => wpIn_cond_true ((f.ev rh c _ hc).bool_inv) (c1.2 μ a w rh hf f)⟩
    · rename_i hc
      have c1 := ihy fr h l hr
      exact ⟨c1.1, fun μ a w rh hf f => wpIn_cond_false ((f.ev rh c _ hc).bool_inv) (c1.2 μ a w rh hf f)⟩
    · simp at hr
  | block id b ih =>
    intro fr h l hr
    simp only [execM] at hr
    split at hr
    · rename_i l1 h1
      simp only [Option.some.injEq] at hr
      subst hr
      have c1 := ih fr h l1 h1
      refine ⟨fun o ho => ?_, fun μ a w rh hf f => wpIn_block (wpIn_mono (c1.2 μ a w rh hf f) fun e a1 w1 ⟨o, ho, he, hst⟩ => ?_)⟩
      · obtain ⟨o', ho', rfl⟩ := List.mem_map.1 ho
        have : (unblk id o').2 = o'.2 := by
          obtain ⟨ex, p⟩ := o'
          cases ex <;> simp only [unblk]
          rename_i j
          cases Nat.beq j id <;> rfl
        rw [this]
        exact c1.1 o' ho'
      · have hm : unblk id o ∈ l1.map (unblk id) := List.mem_map.2 ⟨o, ho, rfl⟩
        obtain ⟨ex, fr', h'⟩ := o
        cases ex with
        | normal => cases e <;> first | exact ⟨_, hm, trivial, hst⟩ | exact he.elim
        | ret => cases e <;> first | exact ⟨_, hm, trivial, hst⟩ | exact he.elim
        | exit j =>
          cases e with
          | exit k =>
            have hjk : j = k := he
            subst hjk
            cases hj : Nat.beq j id with
            | true =>
              have e2 := beq_iff.1 hj
              simp only [unblk, hj, cond_true] at hm
              simp only [Exit.inBlock, e2, if_true]
              exact ⟨_, hm, trivial, hst⟩
            | false =>
              have hne : j ≠ id := fun e => by rw [beq_iff.2 e] at hj; simp at hj
              simp only [unblk, hj, cond_false] at hm
              simp only [Exit.inBlock, hne, if_false]
              exact ⟨_, hm, rfl, hst⟩
          | _ => exact he.elim
    · simp at hr
  | loop b ih =>
    intro fr h l hr
    simp only [execM] at hr
    have c1 := loopM_sound ih L fr h l hr
    exact ⟨c1.1, fun μ a w rh hf f => wpIn_loop_rounds L (c1.2 μ a w rh hf f)⟩
  | region id ops draw =>
    intro fr h l hr
    simp only [execM] at hr
    obtain ⟨hr, hN⟩ := okN_some hr
    unfold orM at hr
    split at hr
    · rename_i o ho
      simp only [Option.some.injEq] at hr
      subst hr
      exact .one (hleaf _ _ _ _ _ _ ho) (hN _ (List.mem_singleton.2 rfl))
    · exact forkN_sound hzp hC hr hN
  | _ => intro fr h l hr; exact lf _ fr h l hr
end
end Go.AM
