/-
  MailRow: what holds behind a command that was put.
-/
import Derived.Test.YtdjhkdogpbiglaaMailR2
namespace Go.Proofs.Ytdjhkdogpbiglaa.MailD
open Go Go.AM Go.Proofs.Ytdjhkdogpbiglaa.MailF4

theorem ext_but {S : Nat → Prop} {h0 a b : H} (x : Ext h0 a) (y : ExtBut S a b) (hs : ∀ n, S n → h0.next ≤ n) : Ext h0 b :=
  ⟨Nat.le_trans x.next y.next, fun i hi => by rw [y.get i (Nat.lt_of_lt_of_le hi x.next) (fun e => by have := hs i e; omega)]; exact x.get i hi⟩

theorem Rel.mem {R : Value → Nat → Prop} {c : Value} : ∀ {cs : List Value} {ks : List Nat}, Rel R cs ks → c ∈ cs → ∃ k, R c k
  | [], _, _, hc => by simp at hc
  | c' :: cs, [], h, _ => h.elim
  | c' :: cs, k :: ks, h, hc => by
    rcases List.mem_cons.1 hc with rfl | hc
    · exact ⟨k, h.1⟩
    · exact Rel.mem h.2 hc

theorem At.extBut {S : Nat → Prop} {h h' : H} {na kd : Nat} {F T Lx : Int} {cv : Value} (a : At h na kd F T Lx cv) (x : ExtBut S h h') (hs : ¬ S na) : At h' na kd F T Lx cv := ⟨by rw [x.get na a.l hs]; exact a.g, Nat.lt_of_lt_of_le a.l x.next⟩

theorem mtch_self {f t l : Nat} : mtch ⟨false, f, t, l⟩ (f : Int) (t : Int) (l : Int) = true := by simp [mtch]

section
variable {h0 h : H} {g B F : Nat} {bs : List Value} {os : List Nat} {s : St} {w m : Nat} {put : List PA} {x8 : Value} {n : Nat}

theorem Iv.putA (v : Iv h0 h g B F bs os s w m put x8 n) (hn : n ≤ 300) {h1 h' : H} {bs' : List Value} {os' : List Nat} {c : Value} {f t l : Nat} (hf : f < w) (ht : t < w) (hl : 1 ≤ l) (hl' : l ≤ 7) (x1 : Ext h h1) (r' : GridR h' g B F bs' os' (putS s f t l c)) (y : ExtBut (· ∈ os) h1 h') (ho' : ∀ q ∈ os', q ∈ os ∨ h1.next ≤ q)
    (cm : Cmd1 h1 c (put.length : Int)) (sc : ∀ i, sid c = some i → h.next ≤ i) {na kd : Nat} {Fr To Lx : Int} {cv : Value} (a : At h na kd Fr To Lx cv) (na0 : na ∉ os) (na8 : sid x8 ≠ some na) :
    ∃ t5 h3 v' h4, A.buildSlice 5 1 Z31L [(0, 5, .agg ⟨[.int .u8 0, .int .i64 (f : Int), .int .i64 (t : Int), .int .i64 (l : Int), .slice none 0 0]⟩)] h' = some (t5, h3) ∧ A.append 5 56 x8 t5 h3 = some (v', h4) ∧
      Iv h0 h4 g B F bs' os' (putS s f t l c) w m (put ++ [⟨false, f, t, l⟩]) v' (n + 1) ∧ At h4 na kd Fr To Lx cv ∧ na ∉ os' ∧ sid v' ≠ some na := by
  have xh := v.x
  have hb := buildSlice_one (n := 5) (zs := Z31L) (v := .agg ⟨[.int .u8 0, .int .i64 (f : Int), .int .i64 (t : Int), .int .i64 (l : Int), .slice none 0 0]⟩) (vs := [.int .u8 0, .int .i64 (f : Int), .int .i64 (t : Int), .int .i64 (l : Int), .slice none 0 0]) h' rfl rfl rfl
  have sx := slice_one (h := h') (n := 5) (vs := [.int .u8 0, .int .i64 (f : Int), .int .i64 (t : Int), .int .i64 (l : Int), .slice none 0 0]) rfl
  obtain ⟨h3, hh3⟩ : ∃ h3, h3 = h'.push (.cells [.int .u8 0, .int .i64 (f : Int), .int .i64 (t : Int), .int .i64 (l : Int), .slice none 0 0] (some 5)) := ⟨_, rfl⟩
  rw [← hh3] at hb sx
  have x3 : Ext h' h3 := hh3 ▸ Ext.push h' _
  have n3 : h3.next = h'.next + 1 := by rw [hh3]; rfl
  have nx1 := x1.next
  have ny := y.next
  have s8 : ∀ q, sid x8 = some q → q < h.next := v.vv.slice.sid_lt
  have vv1 : Vec 5 h1 x8 (put.map PA.cells) := v.vv.ext x1
  have vv' : Vec 5 h' x8 (put.map PA.cells) := vv1.extBut y fun q hq => (v.vo q hq).1
  have hpl : put.length ≤ 300 := Nat.le_trans v.np hn
  obtain ⟨h4, ea, v4, n4, y4⟩ := append_vec (bs := 56) (vv'.ext x3) sx (by simp) (by omega) (by simp; omega) (by simp; omega)
  generalize hv' : Value.slice (some ⟨h3.next, 0, none⟩) ((put.map PA.cells).length + [[Value.int .u8 0, .int .i64 (f : Int), .int .i64 (t : Int), .int .i64 (l : Int), .slice none 0 0]].length) (2 * ((put.map PA.cells).length + [[Value.int .u8 0, .int .i64 (f : Int), .int .i64 (t : Int), .int .i64 (l : Int), .slice none 0 0]].length)) = v' at ea v4
  have hsv : sid v' = some h3.next := by rw [← hv']; rfl
  have hmap : put.map PA.cells ++ [[.int .u8 0, .int .i64 (f : Int), .int .i64 (t : Int), .int .i64 (l : Int), .slice none 0 0]] = (put ++ [PA.mk false f t l]).map PA.cells := by rw [List.map_append]; rfl
  rw [hmap] at v4
  have hso : ∀ q ∈ os', ¬ sid x8 = some q := fun q hq e => by
    rcases ho' q hq with e1 | e1
    · exact (v.vo q e).1 e1
    · have := s8 q e; omega
  have nav : na < h.next := a.l
  refine ⟨_, h3, v', h4, hb, ea, ?_, ((a.ext x1).extBut y na0).ext x3 |>.extBut y4 na8, fun e => ?_, fun e => by rw [hsv] at e; have := Option.some.inj e; omega⟩
  · have keepC : ∀ (cc : Value) (k : Nat), Cmd1 h cc ((k : Nat) : Int) → (∀ q, sid cc = some q → q ∉ os ∧ sid x8 ≠ some q) → Cmd1 h4 cc ((k : Nat) : Int) := fun cc k hc hq =>
      (((hc.extBut (S := fun _ => False) x1.but (by simp)).extBut y fun q e => (hq q e).1).extBut (S := fun _ => False) x3.but (by simp)).extBut y4 fun q e => (hq q e).2
    have newC : Cmd1 h4 c (put.length : Int) := ((cm.extBut y fun q e h => by have := v.gr.on q h; have := sc q e; omega).extBut (S := fun _ => False) x3.but (by simp)).extBut y4 fun q e h => by have := s8 q h; have := sc q e; omega
    refine ⟨(r'.ext x3).extBut y4 hso, v.sw, v.sm, v4, fun q hq => ?_, fun a' ha' => ?_, fun f' t' l' hf2 ht2 hl2 hl2' => ?_, fun f' t' l' hf2 ht2 hl2 hl2' cc hcc q hq => ?_, ?_, fun i => ?_, by rw [List.length_append, List.length_singleton]; have := v.np; omega, ?_, fun q hq => ?_⟩
    · rw [hsv] at hq
      have := Option.some.inj hq
      have hx := xh.next
      exact ⟨fun e => by have := r'.on q e; omega, by omega⟩
    · rcases List.mem_append.1 ha' with ha' | ha'
      · exact v.pv a' ha'
      · rw [List.mem_singleton.1 ha']; exact ⟨hf, ht, hl, hl'⟩
    · have hold := v.bc f' t' l' hf2 ht2 hl2 hl2'
      have hold' : Rel (fun c k => Cmd1 h4 c ((k : Nat) : Int)) (s.bx (pl w f' t' l')) (nums (fun a => mtch a (f' : Int) (t' : Int) (l' : Int)) put put.length) :=
        hold.mono fun cc hcc k hk => keepC cc k hk (v.bo f' t' l' hf2 ht2 hl2 hl2' cc hcc)
      rw [List.length_append, List.length_singleton, nums_append]
      show Rel _ (if pl w f' t' l' = pl s.w f t l then s.bx (pl s.w f t l) ++ [c] else s.bx (pl w f' t' l')) _
      rw [v.sw]
      by_cases e : pl w f' t' l' = pl w f t l
      · obtain ⟨e1, e2, e3⟩ := pl_inj ht2 hl2 hl2' ht hl hl' e
        subst e1 e2 e3
        rw [if_pos rfl, mtch_self, if_pos rfl]
        exact hold'.snoc newC
      · rw [if_neg e]
        have hm : mtch ⟨false, f, t, l⟩ (f' : Int) (t' : Int) (l' : Int) = false := by
          cases hq : mtch ⟨false, f, t, l⟩ (f' : Int) (t' : Int) (l' : Int) with
          | false => rfl
          | true =>
            simp only [mtch, Bool.and_eq_true, decide_eq_true_eq] at hq
            obtain ⟨⟨⟨_, q1⟩, q2⟩, q3⟩ := hq
            exact absurd (by rw [show f' = f by omega, show t' = t by omega, show l' = l by omega]) e
        rw [hm, if_neg (by simp), List.append_nil]
        exact hold'
    · have hcc' : cc ∈ (if pl w f' t' l' = pl s.w f t l then s.bx (pl s.w f t l) ++ [c] else s.bx (pl w f' t' l')) := hcc
      rw [v.sw] at hcc'
      have old : ∀ f'' t'' l'', f'' < w → t'' < w → 1 ≤ l'' → l'' ≤ 7 → cc ∈ s.bx (pl w f'' t'' l'') → q ∉ os' ∧ sid v' ≠ some q := fun f'' t'' l'' a1 a2 a3 a4 hin => by
        have hb := v.bo f'' t'' l'' a1 a2 a3 a4 cc hin q hq
        obtain ⟨kk, hk⟩ := (v.bc f'' t'' l'' a1 a2 a3 a4).mem hin
        have hlt := hk.sid_lt q hq
        refine ⟨fun e => ?_, fun e => by rw [hsv] at e; have := Option.some.inj e; omega⟩
        rcases ho' q e with e1 | e1
        · exact hb.1 e1
        · omega
      split at hcc'
      · rcases List.mem_append.1 hcc' with hin | hin
        · exact old f t l hf ht hl hl' hin
        · obtain rfl := List.mem_singleton.1 hin
          have h1' := cm.sid_lt q hq
          have h2' := sc q hq
          refine ⟨fun e => ?_, fun e => by rw [hsv] at e; have := Option.some.inj e; omega⟩
          rcases ho' q e with e1 | e1
          · have := v.gr.on q e1; omega
          · omega
      · exact old f' t' l' hf2 ht2 hl2 hl2' hcc'
    · show s.cnt + 1 = _
      rw [List.length_append, List.length_singleton, nums_append, v.cn]
      simp
    · have hb := v.fb i
      have hfu : (putS s f t l c).fu i = s.fu i ∨ (putS s f t l c).fu i = s.fu i + 1 := by
        unfold putS
        by_cases hc : (s.bx (pl s.w f t l)).length + 1 = s.m
        · simp only [hc, if_true]
          by_cases hi : i = f * 7 + l - 1
          · right; subst hi; simp
          · left; simp [hi]
        · left; simp only [hc, if_false]
      rcases hfu with e | e <;> rw [e] <;> omega
    · exact ext_but (ext_but ((xh.trans x1)) y v.ob |>.trans x3) y4 fun q hq => (v.vo q hq).2
    · have hx := xh.next
      rcases ho' q hq with e1 | e1
      · exact v.ob q e1
      · omega
  · rcases ho' na e with e1 | e1
    · exact na0 e1
    · omega
end
end Go.Proofs.Ytdjhkdogpbiglaa.MailD
