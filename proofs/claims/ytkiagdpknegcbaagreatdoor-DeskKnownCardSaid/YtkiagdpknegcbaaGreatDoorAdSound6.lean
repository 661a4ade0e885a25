/-
  An abstract machine for the model: plain operations; one operation whole.
-/
import Derived.Test.YtkiagdpknegcbaaGreatDoorAdSound5
import Derived.Laws.Strings
import Derived.Laws.StructEq
import Derived.Laws.Small
namespace Go.AM
open Go

variable (P : Program) {NG : Nat} {μ : Mu} {h : H} {w : World}

theorem ev_bind {α β : Type} (P : Program) : ∀ (s : Sem α) (f : α → Sem β) (b : β), ev P (s >>= f) = some b → ∃ a, ev P s = some a ∧ ev P (f a) = some b := by
  intro s
  induction s with
  | pure a => intro f b h; exact ⟨a, rfl, h⟩
  | program k ih => intro f b h; exact ih P f b h
  | mark m k ih => intro f b h; exact ih f b h
  | _ => intro f b h; simp [ev, Bind.bind, Sem.bind] at h

theorem eqGuard_any {op : BinOp} {t : TypeId} {x y : Operand} {a b : Value} {w : World} (hg : (eqGuard op t (.tmp 0) (.tmp 0) a b).run P w = .ok () w) :
    (eqGuard op t x y a b).run P w = .ok () w := by
  by_cases hni : a = .nilIface ∧ b = .nilIface
  · obtain ⟨rfl, rfl⟩ := hni
    cases op <;> cases x <;> cases y <;> first | exact hg | rfl
  · cases a <;> cases b <;> first | exact hg | exact absurd ⟨rfl, rfl⟩ hni

theorem binOld_sound {op : BinOp} {t : TypeId} {x y : Operand} {a b v ca cb : Value} (hv : A.binOld P op t a b = some v) (ra : VR μ a ca) (rb : VR μ b cb) :
    ∃ cv, (do eqGuard op t x y ca cb; binOp op t ca cb : Sem Value).run P w = .ok cv w ∧ VR μ v cv := by
  unfold A.binOld at hv
  cases hp : (plain a && plain b) with
  | true =>
    rw [hp] at hv
    simp only [cond_true] at hv
    simp only [Bool.and_eq_true] at hp
    rw [ra.eq_of_plain hp.1, rb.eq_of_plain hp.2]
    split at hv
    · rename_i u hu
      obtain ⟨hpu, hv⟩ := cond_some hv
      simp only [Option.some.injEq] at hv; subst hv
      obtain ⟨_, e1, e2⟩ := ev_bind P _ _ _ hu
      have r1 := eqGuard_any P (x := x) (y := y) (ev_run P _ _ e1 w)
      have r2 := ev_run P _ _ e2 w
      exact ⟨u, by simp only [Sem.run_bind, r1, Result.andThen_ok, r2], VR.of_plain μ u hpu⟩
    · simp at hv
  | false =>
    rw [hp] at hv
    simp only [cond_false] at hv
    have guard0 : ∀ (x : Bool), A.eqNil P t a b = some x → (eqGuard op t (.tmp 0) (.tmp 0) ca cb).run P w = .ok () w := by
      intro x he
      unfold A.eqNil at he
      split at he
      · cases ra <;> cases rb <;> cases op <;> rfl
      · cases ra <;> cases rb <;> cases op <;> rfl
      · cases ra <;> cases rb <;> cases op <;> rfl
      · cases ra <;> cases rb <;> cases op <;> rfl
      · cases ra <;> cases rb <;> cases op <;> rfl
      · simp at he
    have bin0 : ∀ (x : Bool), A.eqNil P t a b = some x → (binOp .eql t ca cb).run P w = .ok (.bool x) w ∧ (binOp .neq t ca cb).run P w = .ok (.bool (!x)) w := by
      intro x he
      have hq := eqNil_sound P he ra rb w
      have e1 : binOp .eql t ca cb = (do pure (.bool (← Op.equal t ca cb)) : Sem Value) ∧ binOp .neq t ca cb = (do pure (.bool (!(← Op.equal t ca cb))) : Sem Value) := by
        unfold A.eqNil at he
        split at he
        · cases ra <;> cases rb <;> exact ⟨rfl, rfl⟩
        · cases ra <;> cases rb <;> exact ⟨rfl, rfl⟩
        · cases ra <;> cases rb <;> exact ⟨rfl, rfl⟩
        · cases ra <;> cases rb <;> exact ⟨rfl, rfl⟩
        · cases ra <;> cases rb <;> exact ⟨rfl, rfl⟩
        · simp at he
      rw [e1.1, e1.2]
      simp [hq]
    cases op with
    | eql =>
      simp only at hv
      obtain ⟨x, he, rfl⟩ := Option.map_eq_some_iff.1 hv
      exact ⟨.bool x, by simp only [Sem.run_bind, eqGuard_any P (guard0 x he), Result.andThen_ok, (bin0 x he).1], .bool x⟩
    | neq =>
      simp only at hv
      obtain ⟨x, he, rfl⟩ := Option.map_eq_some_iff.1 hv
      exact ⟨.bool (!x), by simp only [Sem.run_bind, eqGuard_any P (guard0 x he), Result.andThen_ok, (bin0 x he).2], .bool (!x)⟩
    | _ => simp at hv

theorem eqFs_sound {rec : TypeId → Value → Value → Option Bool} {d : Nat} (hrec : ∀ t a b ca cb r, VR μ a ca → VR μ b cb → rec t a b = some r → ∀ w, (Op.equalIn d t ca cb).run P w = .ok r w) {xs ys cxs cys : List Value}
    (lx : LR μ xs cxs) (ly : LR μ ys cys) (hx : ∀ a ∈ xs, cellish a = true) (hy : ∀ a ∈ ys, cellish a = true) : ∀ (fs : List Field) (r : Bool), A.eqFs P rec (.agg ⟨xs⟩) (.agg ⟨ys⟩) fs = some r → ∀ w, (Op.eqFields d ⟨cxs⟩ ⟨cys⟩ fs).run P w = .ok r w := by
  intro fs
  induction fs with
  | nil => intro r h w; simp only [A.eqFs, Option.some.injEq] at h; subst h; rfl
  | cons f fs ih =>
    intro r h w
    simp only [A.eqFs] at h
    simp only [Op.eqFields]
    cases hn : (f.name == "_") with
    | true =>
      rw [hn] at h
      simp only [cond_true] at h
      rw [if_neg (by simpa using hn)]
      exact ih r h w
    | false =>
      rw [hn] at h
      simp only [cond_false] at h
      rw [if_pos (by simpa using hn)]
      split at h
      · rename_i g n hg hsz
        split at h
        · rename_i a b ha hb
          obtain ⟨ca, e1, v1⟩ := part_sound P (w := w) hg hsz ha lx hx
          obtain ⟨cb, e2, v2⟩ := part_sound P (w := w) hg hsz hb ly hy
          split at h
          · rename_i q hq
            have e3 := hrec _ _ _ _ _ _ v1 v2 hq w
            simp only [Sem.run_bind, e1, e2, e3, Result.andThen_ok]
            cases q with
            | true => simp only [cond_true] at h; simpa using ih r h w
            | false => simp only [cond_false, Option.some.injEq] at h; subst h; simp
          · simp at h
        · simp at h
      · simp at h

theorem eqV_sound : ∀ (d D : Nat), d ≤ D → ∀ (t : TypeId) (a b ca cb : Value) (r : Bool), VR μ a ca → VR μ b cb → A.eqV P d t a b = some r → ∀ w, (Op.equalIn D t ca cb).run P w = .ok r w := by
  intro d
  induction d with
  | zero => intro D _ t a b ca cb r _ _ h; simp [A.eqV] at h
  | succ d ih =>
    intro D hD t a b ca cb r ra rb h w
    obtain ⟨D, rfl⟩ : ∃ D', D = D' + 1 := ⟨D - 1, by omega⟩
    simp only [A.eqV] at h
    split at h
    · rename_i hu
      split at h
      · simp only [Option.some.injEq] at h; subst h; rw [ra.bool_inv, rb.bool_inv]; exact run_equalIn_bool' w D t _ _ hu
      · simp at h
    · rename_i hu
      split at h
      · obtain ⟨hk, h2⟩ := cond_some h
        clear h
        replace hk := eq_of_beq hk; subst hk
        simp only [Option.some.injEq] at h2; subst h2; rw [ra.int_inv, rb.int_inv]; exact run_equalIn_int w D t _ _ _ _ hu
      · simp at h
    · rename_i hu
      split at h
      · simp only [Option.some.injEq] at h; subst h
        rw [ra.string_inv, rb.string_inv, run_equalIn_string w D t _ _ hu, Go.ByteArray.toList_eq, Go.ByteArray.toList_eq]
      · simp at h
    · split at h
      · exact eqNil_in P h ra rb w D
      · simp at h
    · rename_i fs hu
      split at h
      · rename_i x y
        obtain ⟨xs⟩ := x; obtain ⟨ys⟩ := y
        cases hs : P.stoodInHeld t with
        | true => rw [hs] at h; simp at h
        | false =>
          rw [hs] at h
          simp only [cond_false] at h
          have hf : P.fieldsOf t = fs := by simp [Program.fieldsOf, hu]
          obtain ⟨cxs, rfl, lx, hx⟩ := ra.agg_inv
          obtain ⟨cys, rfl, ly, hy⟩ := rb.agg_inv
          rw [run_equalIn_struct w D t _ _ (by rw [hf]; exact hu) hs, hf]
          exact eqFs_sound P (fun t a b ca cb r p q hq w => ih D (by omega) t a b ca cb r p q hq w) lx ly hx hy fs.toList r h w
      · simp at h
    · simp at h

theorem guard_int {op : BinOp} {t : TypeId} {x y : Operand} {k j : IntKind} {a b : Int} : (eqGuard op t x y (.int k a) (.int j b)).run P w = .ok () w := by
  cases op <;> rfl
theorem guard_str {op : BinOp} {t : TypeId} {x y : Operand} {a b : ByteArray} : (eqGuard op t x y (.string a) (.string b)).run P w = .ok () w := by
  cases op <;> rfl

theorem bin_sound {op : BinOp} {t : TypeId} {x y : Operand} {a b v ca cb : Value} (hv : A.bin P op t a b = some v) (ra : VR μ a ca) (rb : VR μ b cb) :
    ∃ cv, (do eqGuard op t x y ca cb; binOp op t ca cb : Sem Value).run P w = .ok cv w ∧ VR μ v cv := by
  unfold A.bin at hv
  split at hv
  · rename_i x' y'
    unfold A.eqA at hv
    obtain ⟨xs⟩ := x'; obtain ⟨ys⟩ := y'
    have ra' := ra; have rb' := rb
    obtain ⟨cxs, rfl, lx, hx⟩ := ra.agg_inv
    obtain ⟨cys, rfl, ly, hy⟩ := rb.agg_inv
    cases hg : P.eqGuardType P.depth t with
    | true => rw [hg] at hv; simp at hv
    | false =>
      rw [hg] at hv
      simp only [cond_false] at hv
      simp only [Sem.run_bind, run_eqGuard_agg w _ _ _ _ _ _ hg, Result.andThen_ok]
      split at hv
      · split at hv
        · rename_i q hq
          simp only [Option.some.injEq] at hv; subst hv
          rw [run_eql_struct, eqV_sound P 20 10000 (by omega) t _ _ _ _ _ ra' rb' hq w]
          exact ⟨_, rfl, .bool _⟩
        · simp at hv
      · split at hv
        · rename_i q hq
          simp only [Option.some.injEq] at hv; subst hv
          rw [run_neq_struct, eqV_sound P 20 10000 (by omega) t _ _ _ _ _ ra' rb' hq w]
          exact ⟨_, rfl, .bool _⟩
        · simp at hv
      · simp at hv
  · rename_i x' y'
    have e1 := ra.bool_inv; have e2 := rb.bool_inv
    subst e1; subst e2
    have hg : (eqGuard op t x y (.bool x') (.bool y')).run P w = .ok () w := by cases op <;> rfl
    simp only [Sem.run_bind, hg, Result.andThen_ok]
    split at hv
    · split at hv
      · rename_i hu
        simp only [Option.some.injEq] at hv; subst hv
        refine ⟨_, ?_, .bool _⟩
        have := run_equal_bool w t x' y' hu
        simp only [binOp, Sem.run_bind, this, Result.andThen_ok]; rfl
      · simp at hv
    · split at hv
      · rename_i hu
        simp only [Option.some.injEq] at hv; subst hv
        refine ⟨_, ?_, .bool _⟩
        have := run_equal_bool w t x' y' hu
        simp only [binOp, Sem.run_bind, this, Result.andThen_ok]; rfl
      · simp at hv
    · simp at hv
  · rename_i k m j n
    have e1 := ra.int_inv; have e2 := rb.int_inv
    subst e1; subst e2
    simp only [Sem.run_bind, guard_int P, Result.andThen_ok]
    have shift : ∀ u, A.shI op k m n = some u → (Op.shift op k m j n).run P w = .ok u w ∧ plain u = true := by
      intro u hu
      unfold A.shI at hu
      unfold Op.shift
      by_cases hn : n < 0
      · simp [hn] at hu
      · simp only [hn, decide_false, cond_false] at hu
        simp only [hn, if_false]
        cases op <;> simp only [Option.some.injEq, reduceCtorEq] at hu <;> subst hu <;> exact ⟨rfl, rfl⟩
    have norm : ∀ u, A.binI op k m n = some u → (op ≠ .shl) → (op ≠ .shr) → (binOp op t (.int k m) (.int k n)).run P w = .ok u w ∧ plain u = true := by
      intro u hu h1 h2
      unfold A.binI at hu
      cases op <;> simp only [Option.some.injEq, reduceCtorEq] at hu
      all_goals first | exact absurd rfl h1 | exact absurd rfl h2 | skip
      all_goals first
        | (subst hu; refine ⟨?_, rfl⟩; simp only [binOp, ne_eq, not_true_eq_false, if_false, Op.intArith, Op.intBits, Op.intCmp]; rfl)
        | (by_cases hn : n = 0
           · subst hn; simp at hu
           · have hn' : (n == 0) = false := by simpa using hn
             rw [hn'] at hu
             simp only [cond_false, Option.some.injEq] at hu
             subst hu
             refine ⟨?_, rfl⟩
             simp only [binOp, ne_eq, not_true_eq_false, if_false, Op.intDiv, hn]; rfl)
    by_cases hs1 : op = .shl
    · subst hs1
      obtain ⟨q1, q2⟩ := shift v hv
      exact ⟨v, q1, VR.of_plain μ v q2⟩
    · by_cases hs2 : op = .shr
      · subst hs2
        obtain ⟨q1, q2⟩ := shift v hv
        exact ⟨v, q1, VR.of_plain μ v q2⟩
      · have hv' : (bif k == j then A.binI op k m n else none) = some v := by
          cases op <;> first | exact hv | exact absurd rfl hs1 | exact absurd rfl hs2
        cases hkj : k == j with
        | false => rw [hkj] at hv'; simp at hv'
        | true =>
          rw [hkj] at hv'
          have hkj := eq_of_beq hkj
          subst hkj
          obtain ⟨q1, q2⟩ := norm v hv' hs1 hs2
          exact ⟨v, q1, VR.of_plain μ v q2⟩
  · rename_i m n
    have e1 := ra.string_inv; have e2 := rb.string_inv
    subst e1; subst e2
    simp only [Sem.run_bind, guard_str P, Result.andThen_ok]
    have hb : binOp op t (.string m) (.string n) = Op.stringOp op m n := by cases op <;> rfl
    rw [hb]
    have key : (Op.stringOp op m n).run P w = .ok v w ∧ plain v = true := by
      unfold A.binS at hv
      unfold Op.stringOp
      simp only [Go.ByteArray.toList_eq]
      cases op <;> simp only [Option.some.injEq, reduceCtorEq] at hv
      all_goals first
        | (subst hv; exact ⟨rfl, rfl⟩)
        | skip
      obtain ⟨hle, hv⟩ := cond_some hv
      have hle := ble_iff.1 hle
      simp only [Option.some.injEq] at hv
      subst hv
      refine ⟨?_, rfl⟩
      have hmax : IntKind.i64.max = 9223372036854775807 := by decide
      simp only [hmax]
      rw [if_neg (by omega)]
      have : (m ++ n : ByteArray) = ⟨⟨m.data.toList ++ n.data.toList⟩⟩ := by
        apply bytes_ext
        simp [ByteArray.data_append]
      rw [this]; rfl
    exact ⟨v, key.1, VR.of_plain μ v key.2⟩
  · exact binOld_sound P hv ra rb

theorem un_sound {op : UnOp} {a v ca : Value} (hv : A.un P op a = some v) (ra : VR μ a ca) : ∃ cv, (Op.unary op ca).run P w = .ok cv w ∧ VR μ v cv := by
  unfold A.un at hv
  split at hv
  · have e1 := ra.bool_inv; subst e1
    simp only [Option.some.injEq] at hv; subst hv
    exact ⟨_, rfl, .bool _⟩
  obtain ⟨hp, hv⟩ := cond_some hv
  rw [ra.eq_of_plain hp]
  split at hv
  · rename_i u hu
    obtain ⟨hpu, hv⟩ := cond_some hv
    simp only [Option.some.injEq] at hv; subst hv
    exact ⟨u, ev_run P _ _ hu w, VR.of_plain μ u hpu⟩
  · simp at hv

theorem conv_sound {s d : TypeId} {a v ca : Value} (hv : A.conv P s d a = some v) (ra : VR μ a ca) : ∃ cv, (convert s d ca).run P w = .ok cv w ∧ VR μ v cv := by
  unfold A.conv at hv
  split at hv
  · rename_i hs hd
    have e1 := ra.int_inv; subst e1
    simp only [Option.some.injEq] at hv; subst hv
    refine ⟨_, ?_, .int _ _⟩
    simp only [convert, Sem.run_bind, run_underlying hs, run_underlying hd, Result.andThen_ok]
    rfl
  obtain ⟨hp, hv⟩ := cond_some hv
  rw [ra.eq_of_plain hp]
  split at hv
  · rename_i u hu
    obtain ⟨hpu, hv⟩ := cond_some hv
    simp only [Option.some.injEq] at hv; subst hv
    exact ⟨u, ev_run P _ _ hu w, VR.of_plain μ u hpu⟩
  · simp at hv

theorem LR.eq_of_plain {vs cs : List Value} (r : LR μ vs cs) (hp : plainL vs = true) : cs = vs := by
  apply List.ext_getElem?
  intro i
  cases hi : vs[i]? with
  | none => rw [List.getElem?_eq_none_iff] at hi ⊢; rw [← r.1]; exact hi
  | some b =>
    obtain ⟨b', hb', hr'⟩ := r.get hi
    rw [hb', hr'.eq_of_plain (plainL_get vs hp i b hi)]

theorem pureB_sound {b : Builtin} {argTypes : Array TypeId} {type : TypeId} {consts : Array Bool} {vs cs : List Value} {v : Value} (hv : A.pureB P b argTypes type vs = some v) (r : LR μ vs cs) :
    ∃ cv, (builtin b argTypes type consts ⟨cs⟩).run P w = .ok (.value cv) w ∧ VR μ v cv := by
  unfold A.pureB at hv
  obtain ⟨hp, hv⟩ := cond_some hv
  rw [r.eq_of_plain hp]
  split at hv
  · rename_i u hu
    obtain ⟨hpu, hv⟩ := cond_some hv
    simp only [Option.some.injEq] at hv; subst hv
    refine ⟨u, ?_, VR.of_plain μ u hpu⟩
    cases b <;> simp only at hu <;> first
      | (simp at hu; done)
      | (simp only [builtin, Sem.run_bind, ev_run P _ _ hu w, Result.andThen_ok, Sem.run_pure])
  · simp at hv

end Go.AM
