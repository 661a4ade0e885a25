/-
  MailRow: the law, awake known.
-/
import Derived.Test.YtdjhkdogpbiglaaMailR6
namespace Go.Proofs.Ytdjhkdogpbiglaa.MailD
open Go Go.AM Go.Proofs.Ytdjhkdogpbiglaa.MailF4

/-- All rounds. -/
theorem main4 (k L : Nat) (hL : 400 ≤ L) {β : Type} (kr : Value → H → Option β) (kx : Value → Value → H → Option β) {h0 : H} {g B F w m : Nat} {x2 : Value} {l : List (List Value)} (sl : SliceE 5 h0 x2 l) (hl : l.length ≤ 300) (hc : ∀ x ∈ l, ActC h0 x) :
    ∀ (d i r : Nat) (h : H) (bs : List Value) (os : List Nat) (s : St) (put : List PA) (x8 : Value), i + d = l.length → d < r → Iv h0 h g B F bs os s w m put x8 i →
      ∃ h' put' x8' bs' os' s', Iv h0 h' g B F bs' os' s' w m put' x8' l.length ∧
        p4arrrrrlrbw (callB Try.prog 0 [9] (k + 20)) L kr kx r (.int .i64 (i : Int)) (.int .i64 (m : Int)) (.int .i64 (w : Int)) x2 x8 (ptrV g) h = kx x8' (ptrV g) h' := by
  have hlen : A.lenS x2 = some (.int .i64 (l.length : Int)) := sl.len.1
  intro d
  induction d with
  | zero =>
    intro i r h bs os s put x8 hi hr v
    obtain ⟨r, rfl⟩ : ∃ q, r = q + 1 := ⟨r - 1, by omega⟩
    obtain rfl : i = l.length := by omega
    have hd : decide ((l.length : Int) < (l.length : Int)) = false := by rw [decide_eq_false_iff_not]; omega
    refine ⟨h, put, x8, bs, os, s, v, ?_⟩
    simp only [p4arrrrrlrbw, p4arrrrrlrbo, p4arrrrrlrbol, hlen, bnd_some, bin_lss, hd, toBK_bool, cond_false]
  | succ d ih =>
    intro i r h bs os s put x8 hi hr v
    obtain ⟨r, rfl⟩ : ∃ q, r = q + 1 := ⟨r - 1, by omega⟩
    have hd : decide ((i : Int) < (l.length : Int)) = true := by rw [decide_eq_true_iff]; omega
    have hil : i < l.length := by omega
    have hwr : IntKind.i64.wrap ((i : Int) + 1) = ((i + 1 : Nat) : Int) := wrap_succ (by omega)
    obtain ⟨h1, put1, x81, bs1, os1, s1, v1, e⟩ := step4 k L hL (fun x9 x1 x0 x2 x8 x7 h => p4arrrrrlrborr (callB Try.prog 0 [9] (k + 20)) L x9 x1 x0 x2 x8 x7 h (fun x9 x1 x0 x2 x8 x7 h => p4arrrrrlrbw (callB Try.prog 0 [9] (k + 20)) L kr kx r x9 x1 x0 x2 x8 x7 h)) kr v (by omega) sl hil (hc _ (List.getElem_mem hil))
    obtain ⟨h', put', x8', bs', os', s', v', e'⟩ := ih (i + 1) r h1 bs1 os1 s1 put1 x81 (by omega) (by omega) v1
    refine ⟨h', put', x8', bs', os', s', v', ?_⟩
    simp only [p4arrrrrlrbw, p4arrrrrlrbo, p4arrrrrlrbol, hlen, bnd_some, bin_lss, hd, toBK_bool, cond_true, p4arrrrrlrbor]
    rw [e]
    simp only [p4arrrrrlrborr, bin_add, bnd_some, hwr]
    exact e'

theorem law4 (k : Nat) {h0 : H} {w m : Int} {x2 : Value} {l : List (List Value)} (sl : SliceE 5 h0 x2 l) (hc : ∀ x ∈ l, ActC h0 x) : ∃ h', callB Try.prog 0 [9] (k + 500) 4 [.int .i64 w, .int .i64 m, x2] h0 = some (.bool true, h') := by
  rw [F4eq [9] rfl]
  have aw : ∀ h, callB Try.prog 0 [9] (k + 499) 9 [] h = some (.bool true, h) := fun h => by kernel_rfl
  obtain ⟨b, h1, e8, x1, hb⟩ := T8 (k + 197) sl hc
  have e8' : callB Try.prog 0 [9] (k + 499) 8 [x2] h0 = some (.bool b, h1) := e8
  cases b with
  | true =>
    refine ⟨h1, ?_⟩
    simp only [F4, p4a, p4al, p4ar, p4arl, e8', bnd2_some, toBK_bool, cond_true, aw]
  | false =>
    have hl := hb rfl
    by_cases hok : 1 ≤ w ∧ w ≤ 64 ∧ 1 ≤ m ∧ m ≤ 64
    · obtain ⟨wn, rfl⟩ : ∃ wn : Nat, w = wn := ⟨w.toNat, by omega⟩
      obtain ⟨mn, rfl⟩ : ∃ mn : Nat, m = mn := ⟨m.toNat, by omega⟩
      obtain ⟨h2, g, B, F, bs, os, e10, r2, x2', ho⟩ := T10 (k + 498) h1 (w := wn) (m := mn) (by omega) (by omega)
      have hnil : ∀ (P : PA → Bool), nums P [] ([] : List PA).length = [] := fun P => rfl
      have v : Iv h0 h2 g B F bs os (newS wn mn) wn mn [] (.slice none 0 0) 0 := by
        refine ⟨r2, rfl, rfl, Vec.nil 5 h2, fun q hq => by simp [sid] at hq, fun a ha => by simp at ha, fun f t l _ _ _ _ => trivial, fun f t l _ _ _ _ c hc => by simp [newS] at hc, rfl, fun i => ⟨by simp [newS], by simp [newS]⟩, Nat.le_refl _, x1.trans x2', fun q hq => ?_⟩
        have := ho q hq
        have := x1.next
        omega
      obtain ⟨h3, put, x8, bs3, os3, s3, v3, e3⟩ := main4 (k + 479) (k + 499) (by omega) (fun x6 h => some (x6, h)) (fun x8 x7 h => p4arrrrrr (callB Try.prog 0 [9] (k + 499)) (k + 499) x8 x7 h (fun x6 h => some (x6, h))) sl hl hc l.length 0 (k + 499) h2 bs os (newS wn mn) [] (.slice none 0 0) (by omega) (by omega) v
      have e3' : p4arrrrrlrbw (callB Try.prog 0 [9] (k + 499)) (k + 499) (fun x6 h => some (x6, h)) (fun x8 x7 h => p4arrrrrr (callB Try.prog 0 [9] (k + 499)) (k + 499) x8 x7 h (fun x6 h => some (x6, h))) (k + 499) (.int .i64 0) (.int .i64 (mn : Int)) (.int .i64 (wn : Int)) x2 (.slice none 0 0) (ptrV g) h2 = p4arrrrrr (callB Try.prog 0 [9] (k + 499)) (k + 499) x8 (ptrV g) h3 (fun x6 h => some (x6, h)) := e3
      have hle := left4 (callB Try.prog 0 [9] (k + 499)) (k + 499) (fun x7 x18 h => p4arrrrrrrr (callB Try.prog 0 [9] (k + 499)) (k + 499) x7 x18 h (fun x6 h => some (x6, h))) v3.vv.slice (by have := v3.np; omega) (ptrV g) put.length 0 (k + 499) (by omega) (by have := v3.np; omega)
      have hle' : p4arrrrrrrlrbw (callB Try.prog 0 [9] (k + 499)) (k + 499) (fun x7 x18 h => p4arrrrrrrr (callB Try.prog 0 [9] (k + 499)) (k + 499) x7 x18 h (fun x6 h => some (x6, h))) (k + 499) (.int .i64 0) x8 (ptrV g) (.int .i64 0) h3 = _ := hle
      have e25 := T25 (k + 498) v3.gr
      have e27 := T27 (k + 497) v3.gr
      have hne : A.bin Try.prog .eql 25 (ptrV g) (.pointer none) = some (.bool false) := bin_ptr_nil Try.underlying25 _
      have heqb : ∀ a : Bool, A.bin Try.prog .eql 4 (.bool a) (.bool a) = some (.bool true) := fun a => by rw [bin_bool_eql Try.underlying4]; simp
      rw [v3.cn] at e25 e27
      refine ⟨h3, ?_⟩
      simp only [F4, p4a, p4al, p4ar, p4arl, e8', bnd2_some, toBK_bool, cond_false, p4arr, p4arrl, e10, p4arrr, p4arrrl, hne, bnd_some, p4arrrr, p4arrrrl, p4arrrrr, p4arrrrrl, p4arrrrrll, p4arrrrrlr, p4arrrrrlrb]
      rw [e3']
      simp only [p4arrrrrr, p4arrrrrrl, p4arrrrrrr, p4arrrrrrrl, p4arrrrrrrll, p4arrrrrrrlr, p4arrrrrrrlrb]
      rw [hle']
      simp only [p4arrrrrrrr, e25, bnd2_some, bin_eql, decide_true, bnd_some, toBK_bool, cond_true, e27, heqb, aw]
    · have e10 := T10n (k + 498) h1 hok
      have hne : A.bin Try.prog .eql 25 (.pointer none) (.pointer none) = some (.bool true) := by kernel_rfl
      refine ⟨h1, ?_⟩
      simp only [F4, p4a, p4al, p4ar, p4arl, e8', bnd2_some, toBK_bool, cond_false, p4arr, p4arrl, e10, p4arrr, p4arrrl, hne, bnd_some, cond_true, bin_lss, bin_gtr, aw]
      by_cases c1 : w < 1
      · simp [c1]
      by_cases c2 : 64 < w
      · simp [c1, c2]
      by_cases c3 : m < 1
      · simp [c1, c2, c3]
      have c4 : 64 < m := by omega
      simp [c1, c2, c3, c4]
end Go.Proofs.Ytdjhkdogpbiglaa.MailD
