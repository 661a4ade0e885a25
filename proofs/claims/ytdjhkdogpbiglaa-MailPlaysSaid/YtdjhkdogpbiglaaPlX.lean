import Derived.Test.YtdjhkdogpbiglaaPlDc
import Derived.Test.YtdjhkdogpbiglaaPlE
import Derived.Test.YtdjhkdogpbiglaaPlG
namespace Go.Proofs.Ytdjhkdogpbiglaa.MailD
open Go Go.AM
/-- A mailbox of the document's: its place, its block, its row. -/
structure DB where
  f : Nat
  t : Nat
  l : Nat
  b : Nat
  v : Value
  es : List Value
def DB.cells (d : DB) : List Value := [.int .i64 (d.f : Int), .int .i64 (d.t : Int), .int .i64 (d.l : Int), d.v]
abbrev Key := Nat × Nat × Nat
def DB.key (d : DB) : Key := (d.f, d.t, d.l)
/-- All that is new is of a colour. -/
def recol (n c : Nat) (col : Nat → Nat) : Nat → Nat := fun i => if n ≤ i then c else col i
theorem recol_old {n c : Nat} {col : Nat → Nat} : ∀ i, i < n → recol n c col i = col i := fun i hi => if_neg (by omega)
theorem recol_new {n c : Nat} {col : Nat → Nat} {i : Nat} (hi : n ≤ i) : recol n c col i = c := if_pos hi
structure DocR (h : H) (col : Nat → Nat) (r w m : Nat) (rv : Value) (ds : List DB) : Prop where
  hr : h.get r = some (.cells [.int .i64 (w : Int), .int .i64 (m : Int), rv] (some 0))
  row : Vec 1 h rv (ds.map fun d => [ptrV d.b])
  hb : ∀ d ∈ ds, h.get d.b = some (.cells d.cells (some 0)) ∧ d.b < h.next
  ls : ∀ d ∈ ds, Vec 1 h d.v (d.es.map fun x => [x])
  cr : col r = 2 ∧ r < h.next
  crow : ∀ q, sid rv = some q → col q = 2
  cb : ∀ d ∈ ds, col d.b = 2
  cl : ∀ d ∈ ds, ∀ q, sid d.v = some q → col q = 1
  n1 : ∀ d ∈ ds, d.b ≠ r
  n2 : ∀ q, sid rv = some q → q ≠ r ∧ ∀ d ∈ ds, q ≠ d.b
  nb : ∀ d ∈ ds, ∀ e ∈ ds, d.b = e.b → d = e
  nk : (ds.map DB.key).Nodup
  ok : ∀ d ∈ ds, d.f < w ∧ d.t < w ∧ 1 ≤ d.l ∧ d.l ≤ 7
  sm : ∀ d ∈ ds, d.es.length ≤ m
  hw : w ≤ 64
  hm : 1 ≤ m ∧ m ≤ 64
section
variable {h : H} {col : Nat → Nat} {r w m : Nat} {rv : Value} {ds : List DB}
theorem DocR.but {S : Nat → Prop} {h' : H} {col' : Nat → Nat} (i : DocR h col r w m rv ds) (x : ExtBut S h h') (hs : ∀ j, j < h.next → S j → col j ≠ 1 ∧ col j ≠ 2) (hc : ∀ j, j < h.next → col' j = col j) : DocR h' col' r w m rv ds := by
  have h2 : ∀ j, j < h.next → col j = 2 → h'.get j = h.get j := fun j hj hcj => x.get j hj fun hS => (hs j hj hS).2 hcj
  refine { i with hr := ?_, row := ?_, hb := ?_, ls := ?_, cr := ?_, crow := ?_, cb := ?_, cl := ?_ }
  · rw [h2 r i.cr.2 i.cr.1]; exact i.hr
  · exact i.row.extBut x fun q hq hS => (hs q (i.row.slice.sid_lt q hq) hS).2 (i.crow q hq)
  · exact fun d hd => ⟨by rw [h2 d.b (i.hb d hd).2 (i.cb d hd)]; exact (i.hb d hd).1, Nat.lt_of_lt_of_le (i.hb d hd).2 x.next⟩
  · exact fun d hd => (i.ls d hd).extBut x fun q hq hS => (hs q ((i.ls d hd).slice.sid_lt q hq) hS).1 (i.cl d hd q hq)
  · exact ⟨by rw [hc r i.cr.2]; exact i.cr.1, Nat.lt_of_lt_of_le i.cr.2 x.next⟩
  · exact fun q hq => by rw [hc q (i.row.slice.sid_lt q hq)]; exact i.crow q hq
  · exact fun d hd => by rw [hc d.b (i.hb d hd).2]; exact i.cb d hd
  · exact fun d hd q hq => by rw [hc q ((i.ls d hd).slice.sid_lt q hq)]; exact i.cl d hd q hq
theorem DocR.load (i : DocR h col r w m rv ds) : A.load false 1 (.pointer (some ⟨r, 0, none⟩)) h = some (.int .i64 (w : Int)) ∧ A.load false 1 (.pointer (some ⟨r, 1, none⟩)) h = some (.int .i64 (m : Int)) ∧ A.load false 1 (.pointer (some ⟨r, 2, none⟩)) h = some rv ∧ A.lenS rv = some (.int .i64 (ds.length : Int)) := by
  refine ⟨?_, ?_, ?_, ?_⟩
  · rw [load1_eq, i.hr]; rfl
  · rw [load1_eq, i.hr]; rfl
  · rw [load1_eq, i.hr]; rfl
  · have := i.row.slice.len.1; rwa [List.length_map] at this
theorem slice1_at {v : Value} {es : List Value} (s : SliceE 1 h v (es.map fun x => [x])) {j : Nat} {x : Value} (hx : es[j]? = some x) : ∃ q o, A.idxS 1 v (.int .i64 (j : Int)) = some (.pointer (some ⟨q, o, none⟩)) ∧ A.load false 1 (.pointer (some ⟨q, o, none⟩)) h = some x := by
  obtain ⟨id, off, cells, own, ix, _, hg, _, _, hc⟩ := s.at (i := j) (e := [x]) (by rw [List.getElem?_map, hx]; rfl) .i64
  refine ⟨id, off, ix, ?_⟩
  rw [load1_eq, hg]
  have := hc 0 (by omega)
  simpa using this
theorem DocR.at (i : DocR h col r w m rv ds) {j : Nat} {d : DB} (hd : ds[j]? = some d) : ∃ q o, A.idxS 1 rv (.int .i64 (j : Int)) = some (.pointer (some ⟨q, o, none⟩)) ∧ A.load false 1 (.pointer (some ⟨q, o, none⟩)) h = some (ptrV d.b) := by
  have e : (ds.map fun d => [ptrV d.b]) = ((ds.map fun d => ptrV d.b).map fun x => [x]) := by rw [List.map_map]; rfl
  have s := i.row.slice
  rw [e] at s
  exact slice1_at s (by rw [List.getElem?_map, hd]; rfl)
theorem DocR.box (i : DocR h col r w m rv ds) {d : DB} (hd : d ∈ ds) : A.load false 1 (.pointer (some ⟨d.b, 0, none⟩)) h = some (.int .i64 (d.f : Int)) ∧ A.load false 1 (.pointer (some ⟨d.b, 1, none⟩)) h = some (.int .i64 (d.t : Int)) ∧ A.load false 1 (.pointer (some ⟨d.b, 2, none⟩)) h = some (.int .i64 (d.l : Int)) ∧ A.load false 1 (.pointer (some ⟨d.b, 3, none⟩)) h = some d.v ∧ A.lenS d.v = some (.int .i64 (d.es.length : Int)) := by
  have hg := (i.hb d hd).1
  refine ⟨?_, ?_, ?_, ?_, ?_⟩
  · rw [load1_eq, hg]; rfl
  · rw [load1_eq, hg]; rfl
  · rw [load1_eq, hg]; rfl
  · rw [load1_eq, hg]; rfl
  · have := (i.ls d hd).slice.len.1; rwa [List.length_map] at this
theorem drop_cons {α : Type} {l : List α} {i : Nat} {x : α} (hx : l[i]? = some x) : l.drop i = x :: l.drop (i + 1) := by
  obtain ⟨hi, rfl⟩ := List.getElem?_eq_some_iff.1 hx
  exact List.drop_eq_getElem_cons hi
theorem lp36 (i : DocR h col r w m rv ds) (hn : ds.length ≤ 100000) (C : CF) (L : Nat) {β : Type} (kr : Value → H → Option β) (kx : Value → Value → Value → Value → H → Option β) (f t l : Nat) :
    ∀ (d j q : Nat), j + d = ds.length → d < q → MailD3.p36arrlrbw C L kr kx q (.int .i64 (j : Int)) (.int .i64 (f : Int)) (.int .i64 (t : Int)) (.int .i64 (l : Int)) (ptrV r) h =
      (match (ds.drop j).find? (fun d => decide (d.key = (f, t, l))) with | some d => kr (ptrV d.b) h | none => kx (.int .i64 (f : Int)) (.int .i64 (t : Int)) (.int .i64 (l : Int)) (ptrV r) h) := by
  obtain ⟨_, _, lr, ln⟩ := i.load
  intro d
  induction d with
  | zero =>
    intro j q hj hq
    obtain ⟨q, rfl⟩ : ∃ p, q = p + 1 := ⟨q - 1, by omega⟩
    have hc : decide ((j : Int) < (ds.length : Int)) = false := by rw [decide_eq_false_iff_not]; omega
    have hd : ds.drop j = [] := List.drop_eq_nil_of_le (by omega)
    simp only [MailD3.p36arrlrbw, MailD3.p36arrlrbo, MailD3.p36arrlrbol, nilCheck_eq, bnd_some, fieldAddr_eq, Nat.zero_add, lr, ln, bin_lss, hc, toBK_bool, cond_false, hd, List.find?_nil]
  | succ d ih =>
    intro j q hj hq
    obtain ⟨q, rfl⟩ : ∃ p, q = p + 1 := ⟨q - 1, by omega⟩
    have hc : decide ((j : Int) < (ds.length : Int)) = true := by rw [decide_eq_true_iff]; omega
    have hjl : j < ds.length := by omega
    have hx : ds[j]? = some ds[j] := List.getElem?_eq_getElem hjl
    obtain ⟨x, hxx⟩ : ∃ x, x = ds[j] := ⟨_, rfl⟩
    rw [← hxx] at hx
    have hm : x ∈ ds := List.mem_of_getElem? hx
    obtain ⟨a, o, ix, ld⟩ := i.at hx
    obtain ⟨b0, b1, b2, _, _⟩ := i.box hm
    have wr : IntKind.i64.wrap ((j : Int) + 1) = ((j + 1 : Nat) : Int) := wrap_succ (by omega)
    have e := ih (j + 1) q (by omega) (by omega)
    rw [drop_cons hx, List.find?_cons]
    simp only [MailD3.p36arrlrbw, MailD3.p36arrlrbo, MailD3.p36arrlrbol, nilCheck_eq, bnd_some, fieldAddr_eq, Nat.zero_add, lr, ln, bin_lss, hc, toBK_bool, cond_true, MailD3.p36arrlrbor, MailD3.p36arrlrborl, MailD3.p36arrlrborlb, MailD3.p36arrlrborlbl, ix, ld, MailD3.p36arrlrborlbr, MailD3.p36arrlrborlbrl, b0, bin_eql]
    by_cases h1 : x.f = f
    · have d1 : decide ((x.f : Int) = (f : Int)) = true := by rw [decide_eq_true_iff]; omega
      simp only [d1, cond_true, b1, bnd_some, bin_eql, toBK_bool]
      by_cases h2 : x.t = t
      · have d2 : decide ((x.t : Int) = (t : Int)) = true := by rw [decide_eq_true_iff]; omega
        simp only [d2, cond_true, b2, bnd_some, bin_eql, toBK_bool]
        by_cases h3 : x.l = l
        · have d3 : decide ((x.l : Int) = (l : Int)) = true := by rw [decide_eq_true_iff]; omega
          have hk : decide (x.key = (f, t, l)) = true := by rw [decide_eq_true_iff, DB.key, h1, h2, h3]
          simp only [d3, MailD3.p36arrlrborlbrr, condV_bool, cond_true, hk]
        · have d3 : decide ((x.l : Int) = (l : Int)) = false := by rw [decide_eq_false_iff_not]; omega
          have hk : decide (x.key = (f, t, l)) = false := by rw [decide_eq_false_iff_not, DB.key]; simp [h3]
          simp only [d3, MailD3.p36arrlrborlbrr, condV_bool, cond_false, hk, MailD3.p36arrlrborr, bin_add, bnd_some, wr]
          exact e
      · have d2 : decide ((x.t : Int) = (t : Int)) = false := by rw [decide_eq_false_iff_not]; omega
        have hk : decide (x.key = (f, t, l)) = false := by rw [decide_eq_false_iff_not, DB.key]; simp [h2]
        simp only [d2, cond_false, MailD3.p36arrlrborlbrr, condV_bool, hk, MailD3.p36arrlrborr, bin_add, bnd_some, wr]
        exact e
    · have d1 : decide ((x.f : Int) = (f : Int)) = false := by rw [decide_eq_false_iff_not]; omega
      have hk : decide (x.key = (f, t, l)) = false := by rw [decide_eq_false_iff_not, DB.key]; simp [h1]
      simp only [d1, cond_false, MailD3.p36arrlrborlbrr, condV_bool, hk, MailD3.p36arrlrborr, bin_add, bnd_some, wr]
      exact e
end
end Go.Proofs.Ytdjhkdogpbiglaa.MailD

namespace Go.Proofs.Ytdjhkdogpbiglaa.MailD
open Go Go.AM
section
variable {h : H} {col : Nat → Nat} {r w m : Nat} {rv : Value} {ds : List DB}
theorem T36n (k : Nat) (i : DocR h col r w m rv ds) {f t l : Int} (ho : ¬ Ok w f t l) : callB Try.prog 0 [9] (k + 1) 36 [ptrV r, .int .i64 f, .int .i64 t, .int .i64 l] h = some (.pointer none, h) := by
  rw [MailD3.F36eq [9] rfl]
  obtain ⟨lw, _⟩ := i.load
  simp only [MailD3.F36, MailD3.p36a, MailD3.p36al, MailD3.p36ar, MailD3.p36arl, MailD3.p36arll, bin_lss, bnd_some, toBK_bool, nilCheck_eq, fieldAddr_eq, Nat.zero_add, lw, bin_geq, bin_gtr]
  unfold Ok at ho
  by_cases h1 : f < 0
  · simp only [decide_eq_true h1, cond_true, MailD3.p36arlr, condV_bool]
  simp only [decide_eq_false h1, cond_false]
  by_cases h2 : (w : Int) ≤ f
  · simp only [decide_eq_true h2, cond_true, MailD3.p36arlr, condV_bool]
  simp only [decide_eq_false h2, cond_false]
  by_cases h3 : t < 0
  · simp only [decide_eq_true h3, cond_true, MailD3.p36arlr, condV_bool]
  simp only [decide_eq_false h3, cond_false]
  by_cases h4 : (w : Int) ≤ t
  · simp only [decide_eq_true h4, cond_true, MailD3.p36arlr, condV_bool]
  simp only [decide_eq_false h4, cond_false]
  by_cases h5 : l < 1
  · simp only [decide_eq_true h5, cond_true, MailD3.p36arlr, condV_bool]
  simp only [decide_eq_false h5, cond_false]
  have h6 : 7 < l := by omega
  simp only [decide_eq_true h6, cond_true, MailD3.p36arlr, condV_bool]
def newDB (f t l b : Nat) : DB := ⟨f, t, l, b, .slice none 0 0, []⟩
theorem made36 (i : DocR h col r w m rv ds) (hn : ds.length ≤ 1000) (C : CF) (L : Nat) {β : Type} (kr : Value → H → Option β) {f t l : Nat} (hf : f < w) (ht : t < w) (hl : 1 ≤ l) (hl' : l ≤ 7) (hk : ∀ d ∈ ds, d.key ≠ (f, t, l)) :
    ∃ h' rv', MailD3.p36arrr C L (.int .i64 (f : Int)) (.int .i64 (t : Int)) (.int .i64 (l : Int)) (ptrV r) h kr = kr (ptrV h.next) h' ∧ DocR h' (recol h.next 2 col) r w m rv' (ds ++ [newDB f t l h.next]) ∧ ExtBut (fun i => col i = 2) h h' := by
  obtain ⟨_, _, lr, ln⟩ := i.load
  have bd : A.build MailD3.Z60L [(0, 1, .int .i64 (f : Int)), (1, 1, .int .i64 (t : Int)), (2, 1, .int .i64 (l : Int))] = some (.agg ⟨[.int .i64 (f : Int), .int .i64 (t : Int), .int .i64 (l : Int), .slice none 0 0]⟩) := rfl
  obtain ⟨h1, hh1⟩ : ∃ h1, h1 = h.push (.cells [.int .i64 (f : Int), .int .i64 (t : Int), .int .i64 (l : Int), .slice none 0 0] (some 0)) := ⟨_, rfl⟩
  have bx : A.box 4 (.agg ⟨[.int .i64 (f : Int), .int .i64 (t : Int), .int .i64 (l : Int), .slice none 0 0]⟩) h = some (ptrV h.next, h1) := by rw [hh1]; rfl
  have x1 : Ext h h1 := by rw [hh1]; exact Ext.push h _
  have n1 : h1.next = h.next + 1 := by rw [hh1]; rfl
  have g1 : h1.get h.next = some (.cells [.int .i64 (f : Int), .int .i64 (t : Int), .int .i64 (l : Int), .slice none 0 0] (some 0)) := by rw [hh1, H.get_push, if_pos rfl]
  have lr1 : A.load false 1 (.pointer (some ⟨r, 2, none⟩)) h1 = some rv := by
    rw [load1_eq, x1.get r i.cr.2, i.hr]; rfl
  obtain ⟨h2, hh2⟩ : ∃ h2, h2 = h1.push (.cells [ptrV h.next] (some 1)) := ⟨_, rfl⟩
  have bs : A.buildSlice 1 1 MailD3.Z57L [(0, 1, ptrV h.next)] h1 = some (.slice (some ⟨h1.next, 0, none⟩) 1 3, h2) := by
    rw [hh2]; exact buildSlice_one h1 rfl rfl rfl
  have x2 : Ext h1 h2 := by rw [hh2]; exact Ext.push h1 _
  have n2 : h2.next = h.next + 2 := by rw [hh2]; show h1.next + 1 = _; omega
  have v2 : Vec 1 h2 rv (ds.map fun d => [ptrV d.b]) := (i.row.ext x1).ext x2
  have s2 : SliceE 1 h2 (.slice (some ⟨h1.next, 0, none⟩) 1 3) [[ptrV h.next]] := by rw [hh2]; exact slice_one rfl
  obtain ⟨h3, e3, v3, n3, y3⟩ := append_vec (bs := 8) v2 s2 (by simp) (by omega) (by simp only [List.length_map, List.length_singleton]; omega) (by simp only [List.length_map, List.length_singleton]; omega)
  obtain ⟨rv', hrv'⟩ : ∃ v, v = Value.slice (some ⟨h2.next, 0, none⟩) ((ds.map fun d => [ptrV d.b]).length + [[ptrV h.next]].length) (2 * ((ds.map fun d => [ptrV d.b]).length + [[ptrV h.next]].length)) := ⟨_, rfl⟩
  rw [← hrv'] at e3 v3
  have sv' : sid rv' = some h2.next := by rw [hrv']; rfl
  have hnr : ∀ q, sid rv = some q → q < h.next := fun q hq => i.row.slice.sid_lt q hq
  have g3 : ∀ q, q < h2.next → sid rv ≠ some q → h3.get q = h2.get q := fun q hq hs => y3.get q hq hs
  have g3o : ∀ q, q < h.next → sid rv ≠ some q → h3.get q = h.get q := fun q hq hs => by
    rw [g3 q (by omega) hs, x2.get q (by omega), x1.get q hq]
  have gr3 : h3.get r = some (.cells [.int .i64 (w : Int), .int .i64 (m : Int), rv] (some 0)) := by
    rw [g3o r i.cr.2 (fun e => (i.n2 r e).1 rfl)]; exact i.hr
  obtain ⟨h4, hh4⟩ : ∃ h4, h4 = h3.put r (.cells [.int .i64 (w : Int), .int .i64 (m : Int), rv'] (some 0)) := ⟨_, rfl⟩
  have st : A.store 1 (.pointer (some ⟨r, 2, none⟩)) rv' h3 = some h4 := by
    have hc : cellsL rv' = some [rv'] := by rw [hrv']; rfl
    rw [store_eq, gr3, hc, hh4]; rfl
  have n4 : h4.next = h.next + 3 := by rw [hh4]; show h3.next = _; omega
  have g4 : ∀ q, q ≠ r → h4.get q = h3.get q := fun q hq => by rw [hh4, H.get_put, if_neg hq]
  have g4o : ∀ q, q < h.next → q ≠ r → sid rv ≠ some q → h4.get q = h.get q := fun q hq hr hs => by rw [g4 q hr, g3o q hq hs]
  have x4 : ExtBut (fun i => i = r ∨ sid rv = some i) h h4 := ⟨by omega, fun q hq hs => g4o q hq (fun e => hs (.inl e)) (fun e => hs (.inr e))⟩
  have bN : ∀ d ∈ ds ++ [newDB f t l h.next], d ∈ ds ∨ d = newDB f t l h.next := fun d hd => by
    rcases List.mem_append.1 hd with hd | hd
    · exact .inl hd
    · exact .inr (by simpa using hd)
  have hrn := i.cr.2
  refine ⟨h4, rv', ?_, ?_, ⟨x4.next, fun q hq hc => x4.get q hq fun e => hc (by rcases e with rfl | e; exact i.cr.1; exact i.crow q e)⟩⟩
  · simp only [MailD3.p36arrr, bd, bnd_some, bx, bnd2_some, nilCheck_eq, fieldAddr_eq, Nat.zero_add, lr1, bs, e3, st]
  refine ⟨by rw [hh4, H.get_put, if_pos rfl], ?_, fun d hd => ?_, fun d hd => ?_, ⟨by rw [recol_old r hrn]; exact i.cr.1, by omega⟩, fun q hq => ?_, fun d hd => ?_, fun d hd q hq => ?_, fun d hd => ?_, fun q hq => ?_, fun d hd e he hde => ?_, ?_, fun d hd => ?_, fun d hd => ?_, i.hw, i.hm⟩
  · rw [List.map_append]
    exact v3.extBut (S := fun i => i = r) (by rw [hh4]; exact ExtBut.put ⟨Nat.le_refl _, fun _ _ _ => rfl⟩ r _ rfl) fun q hq hqr => by
      rw [sv'] at hq; obtain rfl := Option.some.inj hq; omega
  · rcases bN d hd with hd | rfl
    · obtain ⟨a, b⟩ := i.hb d hd
      exact ⟨by rw [g4o d.b b (i.n1 d hd) (fun e => (i.n2 _ e).2 d hd rfl)]; exact a, by omega⟩
    · refine ⟨?_, by show h.next < h4.next; omega⟩
      show h4.get h.next = _
      rw [g4 _ (by omega), g3 _ (by omega) (fun e => by have := hnr _ e; omega), x2.get _ (by omega)]
      exact g1
  · rcases bN d hd with hd | rfl
    · exact (i.ls d hd).extBut x4 fun q hq e => by
        have c1 := i.cl d hd q hq
        rcases e with rfl | e
        · have := i.cr.1; omega
        · have := i.crow q e; omega
    · exact ⟨by simp [newDB], .inl ⟨rfl, rfl⟩⟩
  · rw [sv'] at hq; obtain rfl := Option.some.inj hq
    exact recol_new (by omega)
  · rcases bN d hd with hd | rfl
    · rw [recol_old _ (i.hb d hd).2]; exact i.cb d hd
    · exact recol_new (Nat.le_refl _)
  · rcases bN d hd with hd | rfl
    · rw [recol_old _ ((i.ls d hd).slice.sid_lt q hq)]; exact i.cl d hd q hq
    · simp [newDB, sid] at hq
  · rcases bN d hd with hd | rfl
    · exact i.n1 d hd
    · show h.next ≠ r; omega
  · rw [sv'] at hq; obtain rfl := Option.some.inj hq
    refine ⟨by omega, fun d hd => ?_⟩
    rcases bN d hd with hd | rfl
    · have := (i.hb d hd).2; omega
    · show h2.next ≠ h.next; omega
  · rcases bN d hd with hd | rfl <;> rcases bN e he with he | rfl
    · exact i.nb d hd e he hde
    · have := (i.hb d hd).2
      have h0 : d.b = h.next := hde
      omega
    · have := (i.hb e he).2
      have h0 : h.next = e.b := hde
      omega
    · rfl
  · rw [List.map_append, List.nodup_append]
    refine ⟨i.nk, by simp, fun a ha b hb => ?_⟩
    obtain ⟨d, hd, rfl⟩ := List.mem_map.1 ha
    have : b = (f, t, l) := by simpa [newDB, DB.key] using hb
    rw [this]
    exact hk d hd
  · rcases bN d hd with hd | rfl
    · exact i.ok d hd
    · exact ⟨hf, ht, hl, hl'⟩
  · rcases bN d hd with hd | rfl
    · exact i.sm d hd
    · exact Nat.zero_le _
/-- The document's Box. -/
theorem T36 (k : Nat) (i : DocR h col r w m rv ds) (hn : ds.length ≤ 1000) {f t l : Nat} (hf : f < w) (ht : t < w) (hl : 1 ≤ l) (hl' : l ≤ 7) :
    (∃ d ∈ ds, d.key = (f, t, l) ∧ callB Try.prog 0 [9] (k + 1002) 36 [ptrV r, .int .i64 (f : Int), .int .i64 (t : Int), .int .i64 (l : Int)] h = some (ptrV d.b, h)) ∨
    ((∀ d ∈ ds, d.key ≠ (f, t, l)) ∧ ∃ h' rv', callB Try.prog 0 [9] (k + 1002) 36 [ptrV r, .int .i64 (f : Int), .int .i64 (t : Int), .int .i64 (l : Int)] h = some (ptrV h.next, h') ∧ DocR h' (recol h.next 2 col) r w m rv' (ds ++ [newDB f t l h.next]) ∧ ExtBut (fun i => col i = 2) h h') := by
  rw [MailD3.F36eq [9] rfl]
  obtain ⟨lw, _⟩ := i.load
  have h1 : decide ((f : Int) < 0) = false := by rw [decide_eq_false_iff_not]; omega
  have h2 : decide ((w : Int) ≤ (f : Int)) = false := by rw [decide_eq_false_iff_not]; omega
  have h3 : decide ((t : Int) < 0) = false := by rw [decide_eq_false_iff_not]; omega
  have h4 : decide ((w : Int) ≤ (t : Int)) = false := by rw [decide_eq_false_iff_not]; omega
  have h5 : decide ((l : Int) < 1) = false := by rw [decide_eq_false_iff_not]; omega
  have h6 : decide ((7 : Int) < (l : Int)) = false := by rw [decide_eq_false_iff_not]; omega
  have lp := lp36 i (by omega) (callB Try.prog 0 [9] (k + 1001)) (k + 1001) (fun x8 h => some (x8, h)) (fun x1 x2 x3 x0 h => MailD3.p36arrr (callB Try.prog 0 [9] (k + 1001)) (k + 1001) x1 x2 x3 x0 h (fun x8 h => some (x8, h))) f t l ds.length 0 (k + 1001) (by omega) (by omega)
  rw [List.drop_zero] at lp
  cases hf' : ds.find? (fun d => decide (d.key = (f, t, l))) with
  | some d =>
    have := List.find?_some hf'
    refine .inl ⟨d, List.mem_of_find?_eq_some hf', by simpa using this, ?_⟩
    rw [hf'] at lp
    simp only [MailD3.F36, MailD3.p36a, MailD3.p36al, MailD3.p36ar, MailD3.p36arl, MailD3.p36arll, bin_lss, bnd_some, toBK_bool, nilCheck_eq, fieldAddr_eq, Nat.zero_add, lw, bin_geq, bin_gtr, h1, h2, h3, h4, h5, h6, cond_false, MailD3.p36arlr, condV_bool, MailD3.p36arr, MailD3.p36arrl, MailD3.p36arrll, MailD3.p36arrlr, MailD3.p36arrlrb]
    exact lp
  | none =>
    have hk : ∀ d ∈ ds, d.key ≠ (f, t, l) := by simpa using hf'
    obtain ⟨h', rv', e', i', x'⟩ := made36 i hn (callB Try.prog 0 [9] (k + 1001)) (k + 1001) (fun x8 h => some (x8, h)) hf ht hl hl' hk
    refine .inr ⟨hk, h', rv', ?_, i', x'⟩
    rw [hf'] at lp
    simp only [MailD3.F36, MailD3.p36a, MailD3.p36al, MailD3.p36ar, MailD3.p36arl, MailD3.p36arll, bin_lss, bnd_some, toBK_bool, nilCheck_eq, fieldAddr_eq, Nat.zero_add, lw, bin_geq, bin_gtr, h1, h2, h3, h4, h5, h6, cond_false, MailD3.p36arlr, condV_bool, MailD3.p36arr, MailD3.p36arrl, MailD3.p36arrll, MailD3.p36arrlr, MailD3.p36arrlrb]
    exact lp.trans e'
end
end Go.Proofs.Ytdjhkdogpbiglaa.MailD

namespace Go.Proofs.Ytdjhkdogpbiglaa.MailD
open Go Go.AM
structure DocD (h : H) (col : Nat → Nat) (ds : List DB) (D : Key → List (List ItD)) : Prop where
  dc : ∀ d ∈ ds, All2 (CmdIn (OwnW fun i => col i = 1) h) d.es (D d.key)
  de : ∀ k, (∀ d ∈ ds, d.key ≠ k) → D k = []
  sm : ∀ k, ∀ x ∈ D k, SmallC x
theorem OwnW.recol {h h' : H} {col col' : Nat → Nat} {c : Nat} {S : Nat → Prop} (x : ExtBut S h h') (hs : ∀ j, j < h.next → S j → col j ≠ c) (hc : ∀ j, j < h.next → col' j = col j) {n : Nat} {v : Value} {els : List (List Value)} (o : OwnW (fun i => col i = c) n h v els) : OwnW (fun i => col' i = c) n h' v els :=
  (o.lt.extBut x fun j hj hS => hs j hj.2 hS hj.1).mono fun j hj => by rw [hc j hj.2]; exact hj.1
theorem cmd_recol {h h' : H} {col col' : Nat → Nat} {c : Nat} {S : Nat → Prop} (x : ExtBut S h h') (hs : ∀ j, j < h.next → S j → col j ≠ c) (hc : ∀ j, j < h.next → col' j = col j) {v : Value} {t : List ItD} (o : CmdIn (OwnW fun i => col i = c) h v t) : CmdIn (OwnW fun i => col' i = c) h' v t :=
  o.map fun _ _ _ o => o.recol x hs hc
theorem DocD.but {S : Nat → Prop} {h h' : H} {col col' : Nat → Nat} {ds : List DB} {D : Key → List (List ItD)} (i : DocD h col ds D) (x : ExtBut S h h') (hs : ∀ j, j < h.next → S j → col j ≠ 1) (hc : ∀ j, j < h.next → col' j = col j) : DocD h' col' ds D :=
  { i with dc := fun d hd => (i.dc d hd).mono fun _ _ o => cmd_recol x hs hc o }
/-- The document's grid: its mailboxes' places, what they hold. -/
def Doc (h : H) (col : Nat → Nat) (r w m : Nat) (K : List Key) (D : Key → List (List ItD)) : Prop := ∃ rv ds, ds.map DB.key = K ∧ DocR h col r w m rv ds ∧ DocD h col ds D
theorem Doc.but {S : Nat → Prop} {h h' : H} {col col' : Nat → Nat} {r w m : Nat} {K : List Key} {D : Key → List (List ItD)} (i : Doc h col r w m K D) (x : ExtBut S h h') (hs : ∀ j, j < h.next → S j → col j ≠ 1 ∧ col j ≠ 2) (hc : ∀ j, j < h.next → col' j = col j) : Doc h' col' r w m K D := by
  obtain ⟨rv, ds, e, a, b⟩ := i
  exact ⟨rv, ds, e, a.but x hs hc, b.but x (fun j hj hS => (hs j hj hS).1) hc⟩
def Grow (K K' : List Key) (k : Key) : Prop := (k ∈ K ∧ K' = K) ∨ (k ∉ K ∧ K' = K ++ [k])
theorem Grow.len {K K' : List Key} {k : Key} (g : Grow K K' k) : K'.length ≤ K.length + 1 := by
  rcases g with ⟨_, rfl⟩ | ⟨_, rfl⟩ <;> simp
theorem Grow.mem {K K' : List Key} {k : Key} (g : Grow K K' k) : k ∈ K' := by
  rcases g with ⟨h, rfl⟩ | ⟨_, rfl⟩ <;> simp_all
section
variable {h : H} {col : Nat → Nat} {r w m : Nat} {rv : Value} {ds : List DB} {D : Key → List (List ItD)}
theorem T36d (k : Nat) (i : DocR h col r w m rv ds) (j : DocD h col ds D) (hn : ds.length ≤ 1000) {f t l : Nat} (hf : f < w) (ht : t < w) (hl : 1 ≤ l) (hl' : l ≤ 7) :
    ∃ p h' col' rv' ds', callB Try.prog 0 [9] (k + 1002) 36 [ptrV r, .int .i64 (f : Int), .int .i64 (t : Int), .int .i64 (l : Int)] h = some (ptrV p.b, h') ∧ DocR h' col' r w m rv' ds' ∧ DocD h' col' ds' D ∧ ExtBut (fun i => col i = 2) h h' ∧ (∀ q, q < h.next → col' q = col q) ∧ p ∈ ds' ∧ p.key = (f, t, l) ∧ Grow (ds.map DB.key) (ds'.map DB.key) (f, t, l) ∧ (p ∈ ds → h' = h) := by
  rcases T36 k i hn hf ht hl hl' with ⟨d, hd, hk, e⟩ | ⟨hk, h', rv', e, i', x'⟩
  · exact ⟨d, h, col, rv, ds, e, i, j, ⟨Nat.le_refl _, fun _ _ _ => rfl⟩, fun _ _ => rfl, hd, hk, .inl ⟨List.mem_map.2 ⟨d, hd, hk⟩, rfl⟩, fun _ => rfl⟩
  · refine ⟨newDB f t l h.next, h', recol h.next 2 col, rv', _, e, i', ?_, x', recol_old, by simp, rfl, .inr ⟨fun hm => ?_, by simp [newDB, DB.key]⟩, fun hm => ?_⟩
    · have j' := j.but (col' := recol h.next 2 col) x' (fun q _ hq => by omega) recol_old
      refine ⟨fun d hd => ?_, fun q hq => j'.de q fun d hd => hq d (by simp [hd]), j'.sm⟩
      rcases List.mem_append.1 hd with hd | hd
      · exact j'.dc d hd
      · have : d = newDB f t l h.next := by simpa using hd
        subst this
        have : D (newDB f t l h.next).key = [] := j.de _ hk
        rw [this]
        exact All2.nil
    · obtain ⟨d, hd, e⟩ := List.mem_map.1 hm
      exact hk d hd e
    · exact absurd rfl (hk _ hm)
theorem DocD.len (j : DocD h col ds D) {d : DB} (hd : d ∈ ds) : d.es.length = (D d.key).length := (j.dc d hd).1
theorem T24n (k : Nat) (i : DocR h col r w m rv ds) {f t l : Int} (ho : ¬ Ok w f t l) : callB Try.prog 0 [9] (k + 2) 24 [ptrV r, .int .i64 f, .int .i64 t, .int .i64 l] h = some (.int .i64 0, h) := by
  rw [MailD3.F24eq [9] rfl]
  have c : A.bin Try.prog .eql 57 (.pointer none) (.pointer none) = some (.bool true) := by kernel_rfl
  simp only [MailD3.F24, MailD3.p24a, T36n k i ho, bnd2_some, c, bnd_some, toBK_bool, cond_true]
theorem bin57 (p : Nat) : A.bin Try.prog .eql 57 (ptrV p) (.pointer none) = some (.bool false) := bin_ptr_nil Try.underlying57 _
theorem T24 (k : Nat) (i : DocR h col r w m rv ds) (j : DocD h col ds D) (hn : ds.length ≤ 1000) {f t l : Nat} (hf : f < w) (ht : t < w) (hl : 1 ≤ l) (hl' : l ≤ 7) :
    ∃ h' col' rv' ds', callB Try.prog 0 [9] (k + 1003) 24 [ptrV r, .int .i64 (f : Int), .int .i64 (t : Int), .int .i64 (l : Int)] h = some (.int .i64 ((D (f, t, l)).length : Int), h') ∧ DocR h' col' r w m rv' ds' ∧ DocD h' col' ds' D ∧ ExtBut (fun i => col i = 2) h h' ∧ (∀ q, q < h.next → col' q = col q) ∧ Grow (ds.map DB.key) (ds'.map DB.key) (f, t, l) := by
  obtain ⟨p, h', col', rv', ds', e, i', j', x, hc, hp, hk, g, _⟩ := T36d k i j hn hf ht hl hl'
  refine ⟨h', col', rv', ds', ?_, i', j', x, hc, g⟩
  rw [MailD3.F24eq [9] rfl]
  obtain ⟨_, _, _, b3, bl⟩ := i'.box hp
  have hlen : p.es.length = (D (f, t, l)).length := by rw [j'.len hp, hk]
  rw [hlen] at bl
  simp only [MailD3.F24, MailD3.p24a, e, bnd2_some, bin57, bnd_some, toBK_bool, cond_false, nilCheck_eq, fieldAddr_eq, Nat.zero_add, b3, bl]
end
end Go.Proofs.Ytdjhkdogpbiglaa.MailD

namespace Go.Proofs.Ytdjhkdogpbiglaa.MailD
open Go Go.AM
theorem single_flat : ∀ (es : List Value), (es.map fun x => [x]).flatten = es
  | [] => rfl
  | x :: es => by rw [List.map_cons, List.flatten_cons, single_flat es]; rfl
/-- The last ones of a row. -/
theorem vec_suf {h : H} {v : Value} {es : List Value} (s : Vec 1 h v (es.map fun x => [x])) {k : Nat} (hk : k ≤ es.length) : ∃ v', A.sliceS 1 v (some (.int .i64 (k : Int))) none none h = some v' ∧ SliceE 1 h v' ((es.drop k).map fun x => [x]) := by
  rcases s.2 with ⟨hv, e⟩ | ⟨q, hv, hq, hg⟩
  · have hR : es = [] := by simpa using e
    subst hR
    obtain rfl : k = 0 := by simpa using hk
    rw [hv]
    exact ⟨.slice none 0 0, rfl, ⟨by simp, .inl ⟨rfl, by simp⟩⟩⟩
  · rw [List.length_map] at hv
    rw [single_flat] at hg
    refine ⟨.slice (some ⟨q, k, none⟩) (es.length - k) (2 * es.length - 2 * k), ?_, ⟨fun e he => ?_, .inr ⟨q, k, _, by rw [List.length_map, List.length_drop], by rw [List.length_map, List.length_drop]; omega, hq, fun _ => ⟨_, _, hg, ?_, ?_⟩⟩⟩⟩
    · rw [hv]
      have hle : k ≤ 2 * es.length / 2 := by omega
      have hes : A.esOK 1 q h = true := by unfold A.esOK; rw [hg]; rfl
      simp [A.sliceS, A.bound, hk, hes]
    · obtain ⟨w, _, rfl⟩ := List.mem_map.1 he; rfl
    · rw [List.length_map, List.length_drop]; omega
    · rw [single_flat, List.length_map, List.length_drop, Nat.mul_one, List.take_of_length_le (by simp)]
/-- append to nil: a slice that may grow. -/
theorem app_nilV {n bs : Nat} {h : H} {v : Value} {els : List (List Value)} (s : SliceE n h v els) (hb : els.length * bs ≤ 2 ^ 47) (hl : els.length ≤ 2 ^ 47) : ∃ v' h', A.append n bs (.slice none 0 0) v h = some (v', h') ∧ Vec n h' v' els ∧ Ext h h' ∧ (∀ q, sid v' = some q → h.next ≤ q) := by
  obtain ⟨_, hlen⟩ := s.len
  have hel := s.elems
  by_cases h0 : els.length = 0
  · have hz : els = [] := List.length_eq_zero_iff.1 h0
    subst hz
    refine ⟨.slice none 0 0, h, ?_, Vec.nil _ _, Ext.refl h, fun q hq => by simp [sid] at hq⟩
    have e0 : Nat.beq ([] : List (List Value)).length 0 = true := rfl
    simp only [A.append, hel, hlen, e0, cond_true]
  · have e0 : Nat.beq els.length 0 = false := by rw [T.beq_dec]; simpa using h0
    have e2 : Nat.ble (els.length * bs) (2 ^ 47) = true := ble_iff.2 hb
    have e3 : Nat.ble els.length (2 ^ 47) = true := ble_iff.2 hl
    have hg : (h.push (.cells els.flatten (some n))).get h.next = some (.cells els.flatten (some n)) := by rw [H.get_push, if_pos rfl]
    refine ⟨.slice (some ⟨h.next, 0, none⟩) els.length (2 * els.length), h.push (.cells els.flatten (some n)), ?_, ⟨s.1, .inr ⟨h.next, rfl, Nat.lt_succ_self _, hg⟩⟩, Ext.push h _, fun i hi => ?_⟩
    · simp only [A.append, hel, hlen, e0, cond_false, e2, e3, Bool.and_self, cond_true]
    · have : h.next = i := by simpa [sid] using hi
      omega
theorem map_inj {α β : Type} {f : α → β} : ∀ {l : List α}, (l.map f).Nodup → ∀ {a b : α}, a ∈ l → b ∈ l → f a = f b → a = b
  | [], _, a, b, ha, _, _ => by simp at ha
  | x :: l, hn, a, b, ha, hb, e => by
    rw [List.map_cons, List.nodup_cons] at hn
    rcases List.mem_cons.1 ha with ha' | ha' <;> rcases List.mem_cons.1 hb with hb' | hb'
    · rw [ha', hb']
    · exact absurd (List.mem_map.2 ⟨b, hb', by rw [← e, ha']⟩) hn.1
    · exact absurd (List.mem_map.2 ⟨a, ha', by rw [e, hb']⟩) hn.1
    · exact map_inj hn.2 ha' hb' e
def updDB (k : Key) (v : Value) (es : List Value) (d : DB) : DB := if d.key = k then ⟨d.f, d.t, d.l, d.b, v, es⟩ else d
theorem updDB_key (k : Key) (v : Value) (es : List Value) (d : DB) : (updDB k v es d).key = d.key := by unfold updDB; split <;> rfl
theorem updDB_b (k : Key) (v : Value) (es : List Value) (d : DB) : (updDB k v es d).b = d.b := by unfold updDB; split <;> rfl
def setDB (k : Key) (v : Value) (es : List Value) (ds : List DB) : List DB := ds.map (updDB k v es)
theorem setDB_keys (k : Key) (v : Value) (es : List Value) (ds : List DB) : (setDB k v es ds).map DB.key = ds.map DB.key := by
  unfold setDB
  rw [List.map_map]
  exact List.map_congr_left fun d _ => updDB_key k v es d
section
variable {h : H} {col : Nat → Nat} {r w m : Nat} {rv : Value} {ds : List DB} {D : Key → List (List ItD)}
theorem DocR.set (i : DocR h col r w m rv ds) {p : DB} (hp : p ∈ ds) {h1 : H} (x : Ext h h1) {v : Value} {es : List Value} (s : Vec 1 h1 v (es.map fun x => [x])) (hv : ∀ q, sid v = some q → h.next ≤ q) (hes : es.length ≤ m) :
    ∃ h2, A.store 1 (.pointer (some ⟨p.b, 3, none⟩)) v h1 = some h2 ∧ DocR h2 (recol h.next 1 col) r w m rv (setDB p.key v es ds) ∧ ExtBut (fun i => i = p.b) h1 h2 := by
  have hpb := i.hb p hp
  have gp : h1.get p.b = some (.cells p.cells (some 0)) := by rw [x.get p.b hpb.2]; exact hpb.1
  have hpn : p.b < h1.next := Nat.lt_of_lt_of_le hpb.2 x.next
  obtain ⟨h2, hh2⟩ : ∃ h2, h2 = h1.put p.b (.cells [.int .i64 (p.f : Int), .int .i64 (p.t : Int), .int .i64 (p.l : Int), v] (some 0)) := ⟨_, rfl⟩
  have st : A.store 1 (.pointer (some ⟨p.b, 3, none⟩)) v h1 = some h2 := by
    have hc : cellsL v = some [v] := s.slice.cells
    rw [store_eq, gp, hc, hh2]; rfl
  have x2 : ExtBut (fun i => i = p.b) h1 h2 := by rw [hh2]; exact ExtBut.put ⟨Nat.le_refl _, fun _ _ _ => rfl⟩ p.b _ rfl
  have g2 : ∀ q, q < h.next → q ≠ p.b → h2.get q = h.get q := fun q hq hn => by rw [x2.get q (Nat.lt_of_lt_of_le hq x.next) hn, x.get q hq]
  have x12 : ExtBut (fun i => i = p.b) h h2 := ⟨Nat.le_trans x.next x2.next, fun q hq hn => g2 q hq hn⟩
  have cpb := i.cb p hp
  refine ⟨h2, st, ?_, x2⟩
  have mem : ∀ d ∈ setDB p.key v es ds, (d = ⟨p.f, p.t, p.l, p.b, v, es⟩) ∨ (d ∈ ds ∧ d ≠ p ∧ d.b ≠ p.b) := fun d hd => by
    obtain ⟨d0, h0, rfl⟩ := List.mem_map.1 hd
    unfold updDB
    split
    · rename_i e
      have := map_inj i.nk h0 hp e
      subst this
      exact .inl rfl
    · rename_i e
      have hne : d0 ≠ p := fun e' => e (by rw [e'])
      exact .inr ⟨h0, hne, fun e' => hne (i.nb d0 h0 p hp e')⟩
  have ebs : ((setDB p.key v es ds).map fun d => [ptrV d.b]) = ds.map fun d => [ptrV d.b] := by
    unfold setDB
    rw [List.map_map]
    exact List.map_congr_left fun d _ => by simp only [Function.comp]; rw [updDB_b]
  refine ⟨?_, ?_, fun d hd => ?_, fun d hd => ?_, ⟨by rw [recol_old r i.cr.2]; exact i.cr.1, Nat.lt_of_lt_of_le i.cr.2 x12.next⟩, fun q hq => ?_, fun d hd => ?_, fun d hd q hq => ?_, fun d hd => ?_, fun q hq => ⟨(i.n2 q hq).1, fun d hd => ?_⟩, fun d hd e he hde => ?_, ?_, fun d hd => ?_, fun d hd => ?_, i.hw, i.hm⟩
  · rw [g2 r i.cr.2 (Ne.symm (i.n1 p hp))]; exact i.hr
  · rw [ebs]
    exact i.row.extBut x12 fun q hq e => (i.n2 q hq).2 p hp e
  · rcases mem d hd with rfl | ⟨hd, _, hb⟩
    · exact ⟨by show h2.get p.b = _; rw [hh2, H.get_put, if_pos rfl]; rfl, Nat.lt_of_lt_of_le hpb.2 x12.next⟩
    · exact ⟨by rw [g2 d.b (i.hb d hd).2 hb]; exact (i.hb d hd).1, Nat.lt_of_lt_of_le (i.hb d hd).2 x12.next⟩
  · rcases mem d hd with rfl | ⟨hd, _, hb⟩
    · exact s.extBut x2 fun q hq e => by have := hv q hq; omega
    · exact (i.ls d hd).extBut x12 fun q hq e => by
        have := i.cl d hd q hq
        subst e
        omega
  · rw [recol_old _ (i.row.slice.sid_lt q hq)]; exact i.crow q hq
  · rcases mem d hd with rfl | ⟨hd, _, hb⟩
    · show recol h.next 1 col p.b = 2
      rw [recol_old _ hpb.2]; exact cpb
    · rw [recol_old _ (i.hb d hd).2]; exact i.cb d hd
  · rcases mem d hd with rfl | ⟨hd, _, hb⟩
    · exact recol_new (hv q hq)
    · rw [recol_old _ ((i.ls d hd).slice.sid_lt q hq)]; exact i.cl d hd q hq
  · rcases mem d hd with rfl | ⟨hd, _, hb⟩
    · exact i.n1 p hp
    · exact i.n1 d hd
  · rcases mem d hd with rfl | ⟨hd, _, hb⟩
    · exact (i.n2 q hq).2 p hp
    · exact (i.n2 q hq).2 d hd
  · rcases mem d hd with rfl | ⟨hd, _, hb⟩ <;> rcases mem e he with rfl | ⟨he, _, hb'⟩
    · rfl
    · exact absurd hde.symm hb'
    · exact absurd hde hb
    · exact i.nb d hd e he hde
  · rw [setDB_keys]; exact i.nk
  · rcases mem d hd with rfl | ⟨hd, _, hb⟩
    · exact i.ok p hp
    · exact i.ok d hd
  · rcases mem d hd with rfl | ⟨hd, _, hb⟩
    · exact hes
    · exact i.sm d hd
theorem DocD.set (j : DocD h col ds D) {p : DB} (hp : p ∈ ds) {h2 : H} {col' : Nat → Nat} {v : Value} {es : List Value} {xs : List (List ItD)} (j' : DocD h2 col' ds D) (a : All2 (CmdIn (OwnW fun i => col' i = 1) h2) es xs) (sm : ∀ x ∈ xs, SmallC x) :
    DocD h2 col' (setDB p.key v es ds) (fun k => if k = p.key then xs else D k) := by
  refine ⟨fun d hd => ?_, fun k hk => ?_, fun k x hx => ?_⟩
  · obtain ⟨d0, h0, rfl⟩ := List.mem_map.1 hd
    rw [updDB_key]
    unfold updDB
    split
    · exact a
    · exact j'.dc d0 h0
  · have : k ≠ p.key := fun e => by
      obtain ⟨d0, h0, e0⟩ : ∃ d0 ∈ setDB p.key v es ds, d0.key = p.key := ⟨_, List.mem_map.2 ⟨p, hp, rfl⟩, updDB_key ..⟩
      exact hk d0 h0 (by rw [e0, e])
    rw [if_neg this]
    refine j'.de k fun d hd e => ?_
    exact hk _ (List.mem_map.2 ⟨d, hd, rfl⟩) (by rw [updDB_key]; exact e)
  · split at hx
    · exact sm x hx
    · exact j'.sm k x hx
end
end Go.Proofs.Ytdjhkdogpbiglaa.MailD

namespace Go.Proofs.Ytdjhkdogpbiglaa.MailD
open Go Go.AM
theorem All2.tail {α β : Type} {R : α → β → Prop} {a : List α} {b : List β} {x : α} {y : β} (h : All2 R (x :: a) (y :: b)) : R x y ∧ All2 R a b :=
  ⟨h.2 0 x y rfl rfl, by have := h.1; simpa using this, fun i u v hu hv => h.2 (i + 1) u v (by simpa using hu) (by simpa using hv)⟩
theorem All2.snoc {α β : Type} {R : α → β → Prop} {a : List α} {b : List β} {x : α} {y : β} (h : All2 R a b) (r : R x y) : All2 R (a ++ [x]) (b ++ [y]) := by
  refine ⟨by simp [h.1], fun i u v hu hv => ?_⟩
  have hl := h.1
  by_cases hi : i < a.length
  · rw [List.getElem?_append_left hi] at hu
    rw [List.getElem?_append_left (by omega)] at hv
    exact h.2 i u v hu hv
  · rw [List.getElem?_append_right (by omega)] at hu
    rw [List.getElem?_append_right (by omega)] at hv
    by_cases h0 : i = a.length
    · subst h0
      rw [hl, Nat.sub_self] at hv
      rw [Nat.sub_self] at hu
      simp at hu hv
      subst hu; subst hv
      exact r
    · have : ∃ n, i - a.length = n + 1 := ⟨i - a.length - 1, by omega⟩
      obtain ⟨n, hn⟩ := this
      rw [hn] at hu
      simp at hu
theorem own_slice {S : Nat → Prop} {h : H} {v : Value} {c : List ItD} (x : CmdIn (OwnW S) h v c) : CmdIn SliceE h v c := x.map fun _ _ _ o => o.slice
section
variable {h : H} {col : Nat → Nat} {r w m : Nat} {rv : Value} {ds : List DB} {D : Key → List (List ItD)}
theorem T15n (k : Nat) (i : DocR h col r w m rv ds) {f t l : Int} (ho : ¬ Ok w f t l) : callB Try.prog 0 [9] (k + 2) 15 [ptrV r, .int .i64 f, .int .i64 t, .int .i64 l] h = some (.tuple ⟨[.slice none 0 0, .bool false]⟩, h) := by
  rw [MailD3.F15eq [9] rfl]
  have c : A.bin Try.prog .eql 57 (.pointer none) (.pointer none) = some (.bool true) := by kernel_rfl
  simp only [MailD3.F15, MailD3.p15a, T36n k i ho, bnd2_some, c, bnd_some, toBK_bool, cond_true]
theorem T15 (k : Nat) (i : DocR h col r w m rv ds) (j : DocD h col ds D) (hn : ds.length ≤ 1000) {f t l : Nat} (hf : f < w) (ht : t < w) (hl : 1 ≤ l) (hl' : l ≤ 7) :
    ∃ p h' col' rv' ds' y b h2, callB Try.prog 0 [9] (k + 1003) 15 [ptrV r, .int .i64 (f : Int), .int .i64 (t : Int), .int .i64 (l : Int)] h = some (.tuple ⟨[y, .bool b]⟩, h2) ∧ DocR h' col' r w m rv' ds' ∧ DocD h' col' ds' D ∧ ExtBut (fun i => col i = 2) h h' ∧ (∀ q, q < h.next → col' q = col q) ∧ p ∈ ds' ∧ p.key = (f, t, l) ∧ Grow (ds.map DB.key) (ds'.map DB.key) (f, t, l) ∧
      Ext h' h2 ∧ (D (f, t, l) = [] → b = false ∧ y = .slice none 0 0) ∧ (∀ x xs, D (f, t, l) = x :: xs → b = true ∧ CmdIn (OwnW fun i => h'.next ≤ i) h2 y x) := by
  obtain ⟨p, h', col', rv', ds', e, i', j', x, hc, hp, hk, g, _⟩ := T36d k i j hn hf ht hl hl'
  obtain ⟨_, _, _, b3, bl⟩ := i'.box hp
  have al := j'.dc p hp
  rw [hk] at al
  rw [MailD3.F15eq [9] rfl]
  cases hD : D (f, t, l) with
  | nil =>
    rw [hD] at al
    have hz : decide (((p.es.length : Nat) : Int) = 0) = true := by rw [al.1]; rfl
    refine ⟨p, h', col', rv', ds', .slice none 0 0, false, h', ?_, i', j', x, hc, hp, hk, g, Ext.refl h', fun _ => ⟨rfl, rfl⟩, fun _ _ e => by cases e⟩
    simp only [MailD3.F15, MailD3.p15a, e, bnd2_some, bin57, bnd_some, toBK_bool, cond_false, nilCheck_eq, fieldAddr_eq, Nat.zero_add, b3, bl, bin_eql, hz, cond_true]
  | cons x0 xs =>
    rw [hD] at al
    obtain ⟨c, cs, hes⟩ : ∃ c cs, p.es = c :: cs := by
      cases hes : p.es with
      | nil => rw [hes] at al; have := al.1; simp at this
      | cons c cs => exact ⟨c, cs, rfl⟩
    have hz : decide (((p.es.length : Nat) : Int) = 0) = false := by rw [hes, decide_eq_false_iff_not, List.length_cons]; omega
    rw [hes] at al
    obtain ⟨q, o, ix, ld⟩ := slice1_at (i'.ls p hp).slice (j := 0) (x := c) (by rw [hes]; rfl)
    obtain ⟨y, h2, e16, cy, x2⟩ := S16 (k + 800) (own_slice al.tail.1) (j'.sm (f, t, l) x0 (by rw [hD]; simp))
    have e16 : callB Try.prog 0 [9] (k + 1002) 16 [c] h' = some (y, h2) := e16
    have ix : A.idxS 1 p.v (.int .i64 0) = some (.pointer (some ⟨q, o, none⟩)) := ix
    refine ⟨p, h', col', rv', ds', y, true, h2, ?_, i', j', x, hc, hp, hk, g, x2, (fun e => by cases e), fun x xs e => ?_⟩
    · simp only [MailD3.F15, MailD3.p15a, e, bnd2_some, bin57, bnd_some, toBK_bool, cond_false, nilCheck_eq, fieldAddr_eq, Nat.zero_add, b3, bl, bin_eql, hz, ix, ld, e16]
    · rw [List.cons.injEq] at e
      obtain ⟨rfl, rfl⟩ := e
      exact ⟨rfl, cy⟩
theorem T13n (k : Nat) (i : DocR h col r w m rv ds) {f t l : Int} (ho : ¬ Ok w f t l) : callB Try.prog 0 [9] (k + 3) 13 [ptrV r, .int .i64 f, .int .i64 t, .int .i64 l] h = some (.tuple ⟨[.slice none 0 0, .bool false]⟩, h) := by
  rw [MailD3.F13eq [9] rfl]
  have x0 : A.extract 0 (.tuple ⟨[.slice none 0 0, .bool false]⟩) = some (.slice none 0 0) := rfl
  have x1 : A.extract 1 (.tuple ⟨[.slice none 0 0, .bool false]⟩) = some (.bool false) := rfl
  simp only [MailD3.F13, MailD3.p13a, T15n k i ho, bnd2_some, x0, x1, bnd_some, toBK_bool, cond_false]
/-- A mailbox holds another row. -/
def setD (D : Key → List (List ItD)) (k : Key) (xs : List (List ItD)) : Key → List (List ItD) := fun q => if q = k then xs else D q
theorem setD_same (D : Key → List (List ItD)) (k : Key) : setD D k (D k) = D := by
  funext q; unfold setD; split
  · rename_i e; rw [e]
  · rfl
theorem T13 (k : Nat) (i : DocR h col r w m rv ds) (j : DocD h col ds D) (hn : ds.length ≤ 1000) {f t l : Nat} (hf : f < w) (ht : t < w) (hl : 1 ≤ l) (hl' : l ≤ 7) :
    ∃ h' col' rv' ds' y b, callB Try.prog 0 [9] (k + 1004) 13 [ptrV r, .int .i64 (f : Int), .int .i64 (t : Int), .int .i64 (l : Int)] h = some (.tuple ⟨[y, .bool b]⟩, h') ∧ DocR h' col' r w m rv' ds' ∧ DocD h' col' ds' (setD D (f, t, l) (D (f, t, l)).tail) ∧ ExtBut (fun i => col i = 2) h h' ∧ (∀ q, q < h.next → col' q = col q) ∧ Grow (ds.map DB.key) (ds'.map DB.key) (f, t, l) ∧
      (D (f, t, l) = [] → b = false ∧ y = .slice none 0 0) ∧ (∀ x xs, D (f, t, l) = x :: xs → b = true ∧ CmdIn SliceE h' y x) := by
  obtain ⟨p, h1, col1, rv1, ds1, y, b, h2, e15, i1, j1, x1, hc1, hp, hk, g, x2, hnil, hcons⟩ := T15 k i j hn hf ht hl hl'
  have t0 : ∀ y b, A.extract 0 (.tuple ⟨[y, .bool b]⟩) = some y := fun _ _ => rfl
  have t1 : ∀ y b, A.extract 1 (.tuple ⟨[y, .bool b]⟩) = some (.bool b) := fun _ _ => rfl
  cases hD : D (f, t, l) with
  | nil =>
    obtain ⟨rfl, rfl⟩ := hnil hD
    have hsame : setD D (f, t, l) ([] : List (List ItD)).tail = D := by
      have := setD_same D (f, t, l)
      rwa [hD] at this
    refine ⟨h2, recol h1.next 1 col1, rv1, ds1, .slice none 0 0, false, ?_, i1.but (S := fun _ => False) x2.but (fun _ _ h => h.elim) recol_old, by rw [hsame]; exact j1.but (S := fun _ => False) x2.but (fun _ _ h => h.elim) recol_old, x1.trans x2.but, fun q hq => by rw [recol_old q (Nat.lt_of_lt_of_le hq x1.next)]; exact hc1 q hq, g, fun _ => ⟨rfl, rfl⟩, fun _ _ e => by cases e⟩
    rw [MailD3.F13eq [9] rfl]
    simp only [MailD3.F13, MailD3.p13a, e15, bnd2_some, t0, t1, bnd_some, toBK_bool, cond_false]
  | cons a rs =>
    obtain ⟨rfl, cy⟩ := hcons a rs hD
    have i2 : DocR h2 (recol h1.next 1 col1) r w m rv1 ds1 := i1.but (S := fun _ => False) x2.but (fun _ _ h => h.elim) recol_old
    have j2 : DocD h2 (recol h1.next 1 col1) ds1 D := j1.but (S := fun _ => False) x2.but (fun _ _ h => h.elim) recol_old
    have hln : ds1.length ≤ 1001 := by have := g.len; simp only [List.length_map] at this; omega
    have e36 : callB Try.prog 0 [9] (k + 1003) 36 [ptrV r, .int .i64 (f : Int), .int .i64 (t : Int), .int .i64 (l : Int)] h2 = some (ptrV p.b, h2) := by
      rw [MailD3.F36eq [9] rfl]
      obtain ⟨lw, _⟩ := i2.load
      have h1 : decide ((f : Int) < 0) = false := by rw [decide_eq_false_iff_not]; omega
      have h2' : decide ((w : Int) ≤ (f : Int)) = false := by rw [decide_eq_false_iff_not]; omega
      have h3 : decide ((t : Int) < 0) = false := by rw [decide_eq_false_iff_not]; omega
      have h4 : decide ((w : Int) ≤ (t : Int)) = false := by rw [decide_eq_false_iff_not]; omega
      have h5 : decide ((l : Int) < 1) = false := by rw [decide_eq_false_iff_not]; omega
      have h6 : decide ((7 : Int) < (l : Int)) = false := by rw [decide_eq_false_iff_not]; omega
      have lp := lp36 i2 (by omega) (callB Try.prog 0 [9] (k + 1002)) (k + 1002) (fun x8 h => some (x8, h)) (fun x1 x2 x3 x0 h => MailD3.p36arrr (callB Try.prog 0 [9] (k + 1002)) (k + 1002) x1 x2 x3 x0 h (fun x8 h => some (x8, h))) f t l ds1.length 0 (k + 1002) (by omega) (by omega)
      rw [List.drop_zero] at lp
      cases hf' : ds1.find? (fun d => decide (d.key = (f, t, l))) with
      | some d =>
        have hd := List.mem_of_find?_eq_some hf'
        have hdk : d.key = (f, t, l) := by simpa using List.find?_some hf'
        have : d = p := map_inj i2.nk hd hp (hdk.trans hk.symm)
        subst this
        rw [hf'] at lp
        simp only [MailD3.F36, MailD3.p36a, MailD3.p36al, MailD3.p36ar, MailD3.p36arl, MailD3.p36arll, bin_lss, bnd_some, toBK_bool, nilCheck_eq, fieldAddr_eq, Nat.zero_add, lw, bin_geq, bin_gtr, h1, h2', h3, h4, h5, h6, cond_false, MailD3.p36arlr, condV_bool, MailD3.p36arr, MailD3.p36arrl, MailD3.p36arrll, MailD3.p36arrlr, MailD3.p36arrlrb]
        exact lp
      | none =>
        have hk' : ∀ d ∈ ds1, d.key ≠ (f, t, l) := by simpa using hf'
        exact absurd hk (hk' p hp)
    have al := j2.dc p hp
    rw [hk, hD] at al
    obtain ⟨c, cs, hes⟩ : ∃ c cs, p.es = c :: cs := by
      cases hes : p.es with
      | nil => rw [hes] at al; have := al.1; simp at this
      | cons c cs => exact ⟨c, cs, rfl⟩
    have hsm := i2.sm p hp
    have hm64 := i2.hm
    obtain ⟨_, _, _, b3, _⟩ := i2.box hp
    obtain ⟨v1, es1, s1⟩ := vec_suf (i2.ls p hp) (k := 1) (by rw [hes]; simp)
    have es1 : A.sliceS 1 p.v (some (.int .i64 1)) none none h2 = some v1 := es1
    obtain ⟨v2, h3, ea, vv, x3, hv2⟩ := app_nilV (bs := 24) s1 (by simp only [List.length_map, List.length_drop]; omega) (by simp only [List.length_map, List.length_drop]; omega)
    obtain ⟨h4, st, i4, x4⟩ := i2.set hp x3 vv hv2 (by rw [List.length_drop]; omega)
    have cpb : recol h1.next 1 col1 p.b = 2 := i2.cb p hp
    have pb1 : p.b < h1.next := (i1.hb p hp).2
    have pbc : col1 p.b = 2 := i1.cb p hp
    have x24 : ExtBut (fun i => i = p.b) h2 h4 := x3.but.trans x4
    have hcol : ∀ q, q < h2.next → recol h2.next 1 (recol h1.next 1 col1) q = recol h1.next 1 col1 q := recol_old
    have j4 : DocD h4 (recol h2.next 1 (recol h1.next 1 col1)) ds1 D := j2.but x24 (fun q _ e => by subst e; omega) hcol
    have a4 : All2 (CmdIn (OwnW fun i => recol h2.next 1 (recol h1.next 1 col1) i = 1) h4) (p.es.drop 1) rs := by
      have := j4.dc p hp
      rw [hk, hD, hes] at this
      rw [hes]
      exact this.tail.2
    have j5 := j2.set (v := v2) hp j4 a4 (fun x hx => j2.sm (f, t, l) x (by rw [hD]; simp [hx]))
    rw [hk] at i4 j5
    refine ⟨h4, recol h2.next 1 (recol h1.next 1 col1), rv1, setDB (f, t, l) v2 (p.es.drop 1) ds1, y, true, ?_, i4, j5, ⟨Nat.le_trans x1.next (Nat.le_trans x2.next x24.next), fun q hq hc => ?_⟩, fun q hq => ?_, by rw [setDB_keys]; exact g, (fun e => by cases e), fun x xs e => ?_⟩
    · rw [MailD3.F13eq [9] rfl]
      simp only [MailD3.F13, MailD3.p13a, e15, bnd2_some, t0, t1, bnd_some, toBK_bool, cond_true, e36, nilCheck_eq, fieldAddr_eq, Nat.zero_add, b3, es1, ea, st]
    · have hq1 := Nat.lt_of_lt_of_le hq x1.next
      have hq2 := Nat.lt_of_lt_of_le hq1 x2.next
      rw [x24.get q hq2 (fun e => hc (by rw [← hc1 q hq, e]; exact pbc)), x2.get q hq1, x1.get q hq hc]
    · have hq1 := Nat.lt_of_lt_of_le hq x1.next
      rw [hcol q (Nat.lt_of_lt_of_le hq1 x2.next), recol_old q hq1, hc1 q hq]
    · rw [List.cons.injEq] at e
      obtain ⟨rfl, rfl⟩ := e
      exact ⟨rfl, own_slice (cy.map fun _ _ _ o => o.extBut x24 fun q hq e => by omega)⟩
end
end Go.Proofs.Ytdjhkdogpbiglaa.MailD

namespace Go.Proofs.Ytdjhkdogpbiglaa.MailD
open Go Go.AM
section
variable {h : H} {col : Nat → Nat} {r w m : Nat} {rv : Value} {ds : List DB} {D : Key → List (List ItD)}
theorem T18n (k : Nat) (i : DocR h col r w m rv ds) {f t l : Int} (ho : ¬ Ok w f t l) (c : Value) : callB Try.prog 0 [9] (k + 2) 18 [ptrV r, .int .i64 f, .int .i64 t, .int .i64 l, c] h = some (.bool false, h) := by
  rw [MailD3.F18eq [9] rfl]
  have e : A.bin Try.prog .eql 57 (.pointer none) (.pointer none) = some (.bool true) := by kernel_rfl
  simp only [MailD3.F18, MailD3.p18a, MailD3.p18al, MailD3.p18ar, MailD3.p18arl, T36n k i ho, bnd2_some, MailD3.p18arr, MailD3.p18arrl, MailD3.p18arrll, e, bnd_some, toBK_bool, cond_true, MailD3.p18arrlr, condV_bool]
theorem cmd_len {h : H} {v : Value} {c : List ItD} (x : CmdIn SliceE h v c) : A.lenS v = some (.int .i64 (c.length : Int)) := by
  obtain ⟨els, s, a⟩ := x
  have := s.len.1
  rwa [a.1] at this
theorem T18 (k : Nat) (i : DocR h col r w m rv ds) (j : DocD h col ds D) (hn : ds.length ≤ 1000) {f t l : Nat} (hf : f < w) (ht : t < w) (hl : 1 ≤ l) (hl' : l ≤ 7) {v : Value} {c : List ItD} (hx : ∀ h', ExtBut (fun i => col i = 2) h h' → CmdIn SliceE h' v c) (sm : SmallC c) :
    ∃ h' col' rv' ds' b D', callB Try.prog 0 [9] (k + 1003) 18 [ptrV r, .int .i64 (f : Int), .int .i64 (t : Int), .int .i64 (l : Int), v] h = some (.bool b, h') ∧ DocR h' col' r w m rv' ds' ∧ DocD h' col' ds' D' ∧ ExtBut (fun i => col i = 2) h h' ∧ (∀ q, q < h.next → col' q = col q) ∧ Grow (ds.map DB.key) (ds'.map DB.key) (f, t, l) ∧
      (c = [] ∨ m ≤ (D (f, t, l)).length → b = false ∧ D' = D) ∧ (¬ (c = [] ∨ m ≤ (D (f, t, l)).length) → b = true ∧ D' = setD D (f, t, l) (D (f, t, l) ++ [c])) := by
  obtain ⟨p, h1, col1, rv1, ds1, e36, i1, j1, x1, hc1, hp, hk, g, _⟩ := T36d k i j hn hf ht hl hl'
  obtain ⟨_, _, _, b3, bl⟩ := i1.box hp
  obtain ⟨_, lm, _, _⟩ := i1.load
  have al := j1.dc p hp
  rw [hk] at al
  have cv := hx h1 x1
  have lv := cmd_len cv
  rw [al.1] at bl
  have hle := i1.sm p hp
  have hm64 := i1.hm
  rw [al.1] at hle
  by_cases hz : c = []
  · have hd : decide ((c.length : Int) = 0) = true := by rw [hz]; rfl
    refine ⟨h1, col1, rv1, ds1, false, D, ?_, i1, j1, x1, hc1, g, fun _ => ⟨rfl, rfl⟩, fun e => absurd (.inl hz) e⟩
    rw [MailD3.F18eq [9] rfl]
    simp only [MailD3.F18, MailD3.p18a, MailD3.p18al, MailD3.p18ar, MailD3.p18arl, e36, bnd2_some, MailD3.p18arr, MailD3.p18arrl, MailD3.p18arrll, bin57, bnd_some, toBK_bool, cond_false, lv, bin_eql, hd, cond_true, MailD3.p18arrlr, condV_bool]
  have hpos : 0 < c.length := List.length_pos_iff.2 hz
  have hd : decide ((c.length : Int) = 0) = false := by rw [decide_eq_false_iff_not]; omega
  by_cases hfull : m ≤ (D (f, t, l)).length
  · have hd2 : decide ((m : Int) ≤ ((D (f, t, l)).length : Int)) = true := by rw [decide_eq_true_iff]; omega
    refine ⟨h1, col1, rv1, ds1, false, D, ?_, i1, j1, x1, hc1, g, fun _ => ⟨rfl, rfl⟩, fun e => absurd (.inr hfull) e⟩
    rw [MailD3.F18eq [9] rfl]
    simp only [MailD3.F18, MailD3.p18a, MailD3.p18al, MailD3.p18ar, MailD3.p18arl, e36, bnd2_some, MailD3.p18arr, MailD3.p18arrl, MailD3.p18arrll, bin57, bnd_some, toBK_bool, cond_false, lv, bin_eql, hd, nilCheck_eq, fieldAddr_eq, Nat.zero_add, b3, bl, lm, bin_geq, hd2, MailD3.p18arrlr, condV_bool, cond_true]
  have hd2 : decide ((m : Int) ≤ ((D (f, t, l)).length : Int)) = false := by rw [decide_eq_false_iff_not]; omega
  obtain ⟨v1, h2, ea, vv1, x2, hv1⟩ := app_nilV (bs := 24) (i1.ls p hp).slice (by simp only [List.length_map]; rw [al.1]; omega) (by simp only [List.length_map]; rw [al.1]; omega)
  obtain ⟨cp, h3, e16, cc, x3⟩ := S16 (k + 800) ((hx h1 x1).ext x2) sm
  have e16 : callB Try.prog 0 [9] (k + 1002) 16 [v] h2 = some (cp, h3) := e16
  have cpc : cellsL cp = some [cp] := by obtain ⟨els, o, _⟩ := cc; exact o.slice.cells
  obtain ⟨h4, hh4⟩ : ∃ h4, h4 = h3.push (.cells [cp] (some 1)) := ⟨_, rfl⟩
  have bs : A.buildSlice 1 1 MailD3.Z29L [(0, 1, cp)] h3 = some (.slice (some ⟨h3.next, 0, none⟩) 1 3, h4) := by
    rw [hh4]; exact buildSlice_one h3 rfl cpc rfl
  have x4 : Ext h3 h4 := by rw [hh4]; exact Ext.push h3 _
  have s4 : SliceE 1 h4 (.slice (some ⟨h3.next, 0, none⟩) 1 3) [[cp]] := by rw [hh4]; exact slice_one rfl
  obtain ⟨h5, ea2, vv5, n5, y5⟩ := append_vec (bs := 24) ((vv1.ext x3).ext x4) s4 (by simp) (by omega) (by simp only [List.length_map, List.length_singleton]; rw [al.1]; omega) (by simp only [List.length_map, List.length_singleton]; rw [al.1]; omega)
  have x14 : Ext h1 h4 := (x2.trans x3).trans x4
  have x15 : Ext h1 h5 := x14.grow y5 hv1
  obtain ⟨v5, hv5⟩ : ∃ v5, v5 = Value.slice (some ⟨h4.next, 0, none⟩) ((p.es.map fun x => [x]).length + [[cp]].length) (2 * ((p.es.map fun x => [x]).length + [[cp]].length)) := ⟨_, rfl⟩
  rw [← hv5] at ea2 vv5
  have evv : (p.es.map fun x => [x]) ++ [[cp]] = (p.es ++ [cp]).map fun x => [x] := by rw [List.map_append]; rfl
  rw [evv] at vv5
  have sv5 : ∀ q, sid v5 = some q → h1.next ≤ q := fun q hq => by
    rw [hv5] at hq
    have : h4.next = q := by simpa [sid] using hq
    have := x14.next
    omega
  obtain ⟨h6, st, i6, x6⟩ := i1.set hp x15 vv5 sv5 (by rw [List.length_append, al.1, List.length_singleton]; omega)
  have pb1 : p.b < h1.next := (i1.hb p hp).2
  have pbc : col1 p.b = 2 := i1.cb p hp
  have x16 : ExtBut (fun i => i = p.b) h1 h6 := x15.but.trans x6
  have j6 : DocD h6 (recol h1.next 1 col1) ds1 D := j1.but x16 (fun q _ e => by subst e; omega) recol_old
  have cc6 : CmdIn (OwnW fun i => recol h1.next 1 col1 i = 1) h6 cp c := by
    refine cc.map fun _ _ _ o => ?_
    have h2n := x2.next
    have o4 := o.ext x4
    have o5 := o4.extBut y5 fun q hq e => by
      have := vv1.slice.sid_lt q e
      omega
    have o6 := o5.extBut x6 fun q hq e => by omega
    exact o6.mono fun q hq => recol_new (by omega)
  have a6 : All2 (CmdIn (OwnW fun i => recol h1.next 1 col1 i = 1) h6) (p.es ++ [cp]) (D (f, t, l) ++ [c]) := by
    have := j6.dc p hp
    rw [hk] at this
    exact this.snoc cc6
  have j7 := j1.set (v := v5) hp j6 a6 (fun x hx => by
    rcases List.mem_append.1 hx with hx | hx
    · exact j1.sm _ x hx
    · have : x = c := by simpa using hx
      subst this; exact sm)
  rw [hk] at i6 j7
  refine ⟨h6, recol h1.next 1 col1, rv1, setDB (f, t, l) v5 (p.es ++ [cp]) ds1, true, setD D (f, t, l) (D (f, t, l) ++ [c]), ?_, i6, j7, ⟨Nat.le_trans x1.next x16.next, fun q hq hc => ?_⟩, fun q hq => ?_, by rw [setDB_keys]; exact g, fun e => absurd e (by simp only [hz, hfull, or_self, not_false_iff]), fun _ => ⟨rfl, rfl⟩⟩
  · rw [MailD3.F18eq [9] rfl]
    simp only [MailD3.F18, MailD3.p18a, MailD3.p18al, MailD3.p18ar, MailD3.p18arl, e36, bnd2_some, MailD3.p18arr, MailD3.p18arrl, MailD3.p18arrll, bin57, bnd_some, toBK_bool, cond_false, lv, bin_eql, hd, nilCheck_eq, fieldAddr_eq, Nat.zero_add, b3, bl, lm, bin_geq, hd2, MailD3.p18arrlr, condV_bool, MailD3.p18arrr, ea, e16, bs, ea2, st]
  · have hq1 := Nat.lt_of_lt_of_le hq x1.next
    rw [x16.get q hq1 (fun e => hc (by rw [← hc1 q hq, e]; exact pbc)), x1.get q hq hc]
  · rw [recol_old q (Nat.lt_of_lt_of_le hq x1.next), hc1 q hq]
/-- How many commands there are. -/
def tot (K : List Key) (D : Key → List (List ItD)) : Nat := (K.map fun k => (D k).length).sum
theorem lp26 (i : DocR h col r w m rv ds) (j : DocD h col ds D) (hn : ds.length ≤ 1000) (C : CF) (L : Nat) {β : Type} (kx : Value → H → Option β) :
    ∀ (d n a q : Nat), n + d = ds.length → d < q → a ≤ n * 64 → MailD3.p26arrlrbw C L kx q (.int .i64 (n : Int)) (ptrV r) (.int .i64 (a : Int)) h = kx (.int .i64 ((a + tot ((ds.drop n).map DB.key) D : Nat) : Int)) h := by
  obtain ⟨_, _, lr, ln⟩ := i.load
  have hm64 := i.hm
  intro d
  induction d with
  | zero =>
    intro n a q hj hq ha
    obtain ⟨q, rfl⟩ : ∃ p, q = p + 1 := ⟨q - 1, by omega⟩
    have hc : decide ((n : Int) < (ds.length : Int)) = false := by rw [decide_eq_false_iff_not]; omega
    have hd : ds.drop n = [] := List.drop_eq_nil_of_le (by omega)
    have ht : tot ((ds.drop n).map DB.key) D = 0 := by rw [hd]; rfl
    have hz : a + tot ((ds.drop n).map DB.key) D = a := by omega
    rw [hz]
    simp only [MailD3.p26arrlrbw, MailD3.p26arrlrbo, nilCheck_eq, bnd_some, fieldAddr_eq, Nat.zero_add, lr, ln, bin_lss, hc, toBK_bool, cond_false]
  | succ d ih =>
    intro n a q hj hq ha
    obtain ⟨q, rfl⟩ : ∃ p, q = p + 1 := ⟨q - 1, by omega⟩
    have hc : decide ((n : Int) < (ds.length : Int)) = true := by rw [decide_eq_true_iff]; omega
    have hx : ds[n]? = some (ds[n]'(by omega)) := List.getElem?_eq_getElem (by omega)
    obtain ⟨x, hxx⟩ : ∃ x, x = ds[n]'(by omega) := ⟨_, rfl⟩
    rw [← hxx] at hx
    have hm : x ∈ ds := List.mem_of_getElem? hx
    obtain ⟨b, o, ix, ld⟩ := i.at hx
    obtain ⟨_, _, _, b3, bl⟩ := i.box hm
    have hlen := j.len hm
    have hsm := i.sm x hm
    rw [hlen] at bl hsm
    have wr : IntKind.i64.wrap ((n : Int) + 1) = ((n + 1 : Nat) : Int) := wrap_succ (by omega)
    have wa : IntKind.i64.wrap ((a : Int) + ((D x.key).length : Int)) = ((a + (D x.key).length : Nat) : Int) := by rw [wrap64 (by omega) (by omega)]; omega
    have e := ih (n + 1) (a + (D x.key).length) q (by omega) (by omega) (by omega)
    have ht : tot ((ds.drop n).map DB.key) D = (D x.key).length + tot ((ds.drop (n + 1)).map DB.key) D := by
      rw [drop_cons hx, List.map_cons, tot, List.map_cons, List.sum_cons]; rfl
    rw [ht, ← Nat.add_assoc]
    simp only [MailD3.p26arrlrbw, MailD3.p26arrlrbo, nilCheck_eq, bnd_some, fieldAddr_eq, Nat.zero_add, lr, ln, bin_lss, hc, toBK_bool, cond_true, ix, ld, b3, bl, bin_add, wr, wa]
    exact e
theorem T26 (k : Nat) (i : DocR h col r w m rv ds) (j : DocD h col ds D) (hn : ds.length ≤ 1000) : callB Try.prog 0 [9] (k + 1002) 26 [ptrV r] h = some (.int .i64 ((tot (ds.map DB.key) D : Nat) : Int), h) := by
  rw [MailD3.F26eq [9] rfl]
  have lp := lp26 i j hn (callB Try.prog 0 [9] (k + 1001)) (k + 1001) (fun x3 h => some (x3, h)) ds.length 0 0 (k + 1001) (by omega) (by omega) (by omega)
  rw [List.drop_zero, Nat.zero_add] at lp
  simp only [MailD3.F26, MailD3.p26a, MailD3.p26al, MailD3.p26ar, MailD3.p26arl, MailD3.p26arr, MailD3.p26arrl, MailD3.p26arrll, MailD3.p26arrlr, MailD3.p26arrlrb, MailD3.p26arrr]
  exact lp
theorem T28 (k : Nat) (i : DocR h col r w m rv ds) (j : DocD h col ds D) (hn : ds.length ≤ 1000) : callB Try.prog 0 [9] (k + 1003) 28 [ptrV r] h = some (.bool (decide (((tot (ds.map DB.key) D : Nat) : Int) = 0)), h) := by
  rw [MailD3.F28eq [9] rfl]
  simp only [MailD3.F28, MailD3.p28a, T26 k i j hn, bnd2_some, bin_eql, bnd_some, toBK_bool]
/-- Is a mailbox of a worker's, above a lane, full? -/
def fullK (m f l : Nat) (D : Key → List (List ItD)) (k : Key) : Bool := decide (k.1 = f) && (decide (l < k.2.2) && decide (m ≤ (D k).length))
theorem lp22 (i : DocR h col r w m rv ds) (j : DocD h col ds D) (hn : ds.length ≤ 1000) (C : CF) (L : Nat) {β : Type} (kr : Value → H → Option β) (kx : H → Option β) (f l : Nat) :
    ∀ (d n q : Nat), n + d = ds.length → d < q → MailD3.p22arrlrbw C L kr kx q (.int .i64 (n : Int)) (ptrV r) (.int .i64 (l : Int)) (.int .i64 (f : Int)) h = bif ((ds.drop n).map DB.key).any (fullK m f l D) then kr (.bool false) h else kx h := by
  obtain ⟨_, lm, lr, ln⟩ := i.load
  intro d
  induction d with
  | zero =>
    intro n q hj hq
    obtain ⟨q, rfl⟩ : ∃ p, q = p + 1 := ⟨q - 1, by omega⟩
    have hc : decide ((n : Int) < (ds.length : Int)) = false := by rw [decide_eq_false_iff_not]; omega
    have hd : ds.drop n = [] := List.drop_eq_nil_of_le (by omega)
    simp only [MailD3.p22arrlrbw, MailD3.p22arrlrbo, MailD3.p22arrlrbol, nilCheck_eq, bnd_some, fieldAddr_eq, Nat.zero_add, lr, ln, bin_lss, hc, toBK_bool, cond_false, hd, List.map_nil, List.any_nil]
  | succ d ih =>
    intro n q hj hq
    obtain ⟨q, rfl⟩ : ∃ p, q = p + 1 := ⟨q - 1, by omega⟩
    have hc : decide ((n : Int) < (ds.length : Int)) = true := by rw [decide_eq_true_iff]; omega
    have hx : ds[n]? = some (ds[n]'(by omega)) := List.getElem?_eq_getElem (by omega)
    obtain ⟨x, hxx⟩ : ∃ x, x = ds[n]'(by omega) := ⟨_, rfl⟩
    rw [← hxx] at hx
    have hm : x ∈ ds := List.mem_of_getElem? hx
    obtain ⟨b, o, ix, ld⟩ := i.at hx
    obtain ⟨b0, _, b2, b3, bl⟩ := i.box hm
    rw [j.len hm] at bl
    have wr : IntKind.i64.wrap ((n : Int) + 1) = ((n + 1 : Nat) : Int) := wrap_succ (by omega)
    have e := ih (n + 1) q (by omega) (by omega)
    rw [drop_cons hx, List.map_cons, List.any_cons]
    simp only [MailD3.p22arrlrbw, MailD3.p22arrlrbo, MailD3.p22arrlrbol, nilCheck_eq, bnd_some, fieldAddr_eq, Nat.zero_add, lr, ln, bin_lss, hc, toBK_bool, cond_true, MailD3.p22arrlrbor, MailD3.p22arrlrborl, MailD3.p22arrlrborlb, MailD3.p22arrlrborlbl, ix, ld, b0, bin_eql]
    by_cases h1 : x.f = f
    · have d1 : decide ((x.f : Int) = (f : Int)) = true := by rw [decide_eq_true_iff]; omega
      simp only [d1, cond_true, b2, bnd_some, bin_gtr, toBK_bool]
      by_cases h2 : l < x.l
      · have d2 : decide ((l : Int) < (x.l : Int)) = true := by rw [decide_eq_true_iff]; omega
        simp only [d2, cond_true, b3, bl, lm, bnd_some, bin_geq, toBK_bool]
        by_cases h3 : m ≤ (D x.key).length
        · have d3 : decide ((m : Int) ≤ ((D x.key).length : Int)) = true := by rw [decide_eq_true_iff]; omega
          have hk : fullK m f l D x.key = true := by
            have a1 : x.key.1 = f := h1
            have a2 : l < x.key.2.2 := h2
            unfold fullK
            rw [decide_eq_true a1, decide_eq_true a2, decide_eq_true h3]; rfl
          simp only [d3, MailD3.p22arrlrborlbr, condV_bool, cond_true, hk, Bool.true_or]
        · have d3 : decide ((m : Int) ≤ ((D x.key).length : Int)) = false := by rw [decide_eq_false_iff_not]; omega
          have hk : fullK m f l D x.key = false := by
            unfold fullK
            rw [decide_eq_false h3, Bool.and_false, Bool.and_false]
          simp only [d3, MailD3.p22arrlrborlbr, condV_bool, cond_false, hk, MailD3.p22arrlrborr, bin_add, bnd_some, wr, Bool.false_or]
          exact e
      · have d2 : decide ((l : Int) < (x.l : Int)) = false := by rw [decide_eq_false_iff_not]; omega
        have hk : fullK m f l D x.key = false := by
          have a2 : ¬ l < x.key.2.2 := h2
          unfold fullK
          rw [decide_eq_false a2, Bool.false_and, Bool.and_false]
        simp only [d2, cond_false, MailD3.p22arrlrborlbr, condV_bool, hk, MailD3.p22arrlrborr, bin_add, bnd_some, wr, Bool.false_or]
        exact e
    · have d1 : decide ((x.f : Int) = (f : Int)) = false := by rw [decide_eq_false_iff_not]; omega
      have hk : fullK m f l D x.key = false := by
        have a1 : ¬ x.key.1 = f := h1
        unfold fullK
        rw [decide_eq_false a1, Bool.false_and]
      simp only [d1, cond_false, MailD3.p22arrlrborlbr, condV_bool, hk, MailD3.p22arrlrborr, bin_add, bnd_some, wr, Bool.false_or]
      exact e
theorem T22 (k : Nat) (i : DocR h col r w m rv ds) (j : DocD h col ds D) (hn : ds.length ≤ 1000) {f l : Nat} (hf : f < w) (hl : l ≤ 7) : callB Try.prog 0 [9] (k + 1002) 22 [ptrV r, .int .i64 (f : Int), .int .i64 (l : Int)] h = some (.bool (!(ds.map DB.key).any (fullK m f l D)), h) := by
  rw [MailD3.F22eq [9] rfl]
  obtain ⟨lw, _⟩ := i.load
  have h1 : decide ((f : Int) < 0) = false := by rw [decide_eq_false_iff_not]; omega
  have h2 : decide ((w : Int) ≤ (f : Int)) = false := by rw [decide_eq_false_iff_not]; omega
  have h3 : decide ((l : Int) < 0) = false := by rw [decide_eq_false_iff_not]; omega
  have h4 : decide ((7 : Int) < (l : Int)) = false := by rw [decide_eq_false_iff_not]; omega
  have lp := lp22 i j hn (callB Try.prog 0 [9] (k + 1001)) (k + 1001) (fun x6 h => some (x6, h)) (fun h => some (Value.bool true, h)) f l ds.length 0 (k + 1001) (by omega) (by omega)
  rw [List.drop_zero] at lp
  simp only [MailD3.F22, MailD3.p22a, MailD3.p22al, MailD3.p22ar, MailD3.p22arl, MailD3.p22arll, bin_lss, bnd_some, toBK_bool, nilCheck_eq, fieldAddr_eq, Nat.zero_add, lw, bin_geq, bin_gtr, h1, h2, h3, h4, cond_false, MailD3.p22arlr, condV_bool, MailD3.p22arr, MailD3.p22arrl, MailD3.p22arrll, MailD3.p22arrlr, MailD3.p22arrlrb, MailD3.p22arrr]
  refine lp.trans ?_
  cases (ds.map DB.key).any (fullK m f l D) <;> rfl
theorem T22n (k : Nat) (i : DocR h col r w m rv ds) {f l : Int} (ho : ¬ (0 ≤ f ∧ f < w ∧ 0 ≤ l ∧ l ≤ 7)) : callB Try.prog 0 [9] (k + 1) 22 [ptrV r, .int .i64 f, .int .i64 l] h = some (.bool false, h) := by
  rw [MailD3.F22eq [9] rfl]
  obtain ⟨lw, _⟩ := i.load
  simp only [MailD3.F22, MailD3.p22a, MailD3.p22al, MailD3.p22ar, MailD3.p22arl, MailD3.p22arll, bin_lss, bnd_some, toBK_bool, nilCheck_eq, fieldAddr_eq, Nat.zero_add, lw, bin_geq, bin_gtr]
  by_cases h1 : f < 0
  · simp only [decide_eq_true h1, cond_true, MailD3.p22arlr, condV_bool]
  simp only [decide_eq_false h1, cond_false]
  by_cases h2 : (w : Int) ≤ f
  · simp only [decide_eq_true h2, cond_true, MailD3.p22arlr, condV_bool]
  simp only [decide_eq_false h2, cond_false]
  by_cases h3 : l < 0
  · simp only [decide_eq_true h3, cond_true, MailD3.p22arlr, condV_bool]
  simp only [decide_eq_false h3, cond_false]
  have h4 : 7 < l := by omega
  simp only [decide_eq_true h4, cond_true, MailD3.p22arlr, condV_bool]
end
theorem T11n (k : Nat) (h : H) {w m : Int} (hn : ¬ (1 ≤ w ∧ w ≤ 64 ∧ 1 ≤ m ∧ m ≤ 64)) : callB Try.prog 0 [9] (k + 1) 11 [.int .i64 w, .int .i64 m] h = some (.pointer none, h) := by
  rw [MailD3.F11eq [9] rfl]
  simp only [MailD3.F11, MailD3.p11a, MailD3.p11al, MailD3.p11ar, MailD3.p11arl, MailD3.p11arll, bin_lss, bnd_some, toBK_bool, bin_gtr]
  by_cases h1 : w < 1
  · simp only [decide_eq_true h1, cond_true, MailD3.p11arlr, condV_bool]
  simp only [decide_eq_false h1, cond_false]
  by_cases h2 : 64 < w
  · simp only [decide_eq_true h2, cond_true, MailD3.p11arlr, condV_bool]
  simp only [decide_eq_false h2, cond_false]
  by_cases h3 : m < 1
  · simp only [decide_eq_true h3, cond_true, MailD3.p11arlr, condV_bool]
  simp only [decide_eq_false h3, cond_false]
  have h4 : 64 < m := by omega
  simp only [decide_eq_true h4, cond_true, MailD3.p11arlr, condV_bool]
theorem T11 (k : Nat) (h : H) {w m : Nat} (hw : 1 ≤ w ∧ w ≤ 64) (hm : 1 ≤ m ∧ m ≤ 64) (col : Nat → Nat) :
    ∃ h', callB Try.prog 0 [9] (k + 1) 11 [.int .i64 (w : Int), .int .i64 (m : Int)] h = some (ptrV h.next, h') ∧ DocR h' (recol h.next 2 col) h.next w m (.slice none 0 0) [] ∧ DocD h' (recol h.next 2 col) [] (fun _ => []) ∧ Ext h h' := by
  rw [MailD3.F11eq [9] rfl]
  have h1 : decide ((w : Int) < 1) = false := by rw [decide_eq_false_iff_not]; omega
  have h2 : decide ((64 : Int) < (w : Int)) = false := by rw [decide_eq_false_iff_not]; omega
  have h3 : decide ((m : Int) < 1) = false := by rw [decide_eq_false_iff_not]; omega
  have h4 : decide ((64 : Int) < (m : Int)) = false := by rw [decide_eq_false_iff_not]; omega
  have bd : A.build MailD3.Z54L [(0, 1, .int .i64 (w : Int)), (1, 1, .int .i64 (m : Int))] = some (.agg ⟨[.int .i64 (w : Int), .int .i64 (m : Int), .slice none 0 0]⟩) := rfl
  obtain ⟨h', hh⟩ : ∃ h', h' = h.push (.cells [.int .i64 (w : Int), .int .i64 (m : Int), .slice none 0 0] (some 0)) := ⟨_, rfl⟩
  have bx : A.box 3 (.agg ⟨[.int .i64 (w : Int), .int .i64 (m : Int), .slice none 0 0]⟩) h = some (ptrV h.next, h') := by rw [hh]; rfl
  refine ⟨h', ?_, ⟨by rw [hh, H.get_push, if_pos rfl], Vec.nil 1 h', by simp, by simp, ⟨recol_new (Nat.le_refl _), by rw [hh]; exact Nat.lt_succ_self _⟩, fun q hq => by simp [sid] at hq, by simp, by simp, by simp, fun q hq => by simp [sid] at hq, by simp, by simp, by simp, by simp, hw.2, hm⟩, ⟨by simp, fun _ _ => rfl, by simp⟩, by rw [hh]; exact Ext.push h _⟩
  simp only [MailD3.F11, MailD3.p11a, MailD3.p11al, MailD3.p11ar, MailD3.p11arl, MailD3.p11arll, bin_lss, bnd_some, toBK_bool, bin_gtr, h1, h2, h3, h4, cond_false, MailD3.p11arlr, condV_bool, MailD3.p11arr, bd, bx, bnd2_some]
end Go.Proofs.Ytdjhkdogpbiglaa.MailD

namespace Go.Proofs.Ytdjhkdogpbiglaa.MailD
open Go Go.AM
/-- Has a worker room above a lane? -/
def roomB (s : St) (f l : Nat) : Bool := (List.range' 0 (7 - l)).all fun j => decide (s.fu (f * 7 + l + j) ≤ 0)
theorem roomB_true {s : St} {f l : Nat} (h : ∀ j, j < 7 - l → s.fu (f * 7 + l + j) ≤ 0) : roomB s f l = true := by
  unfold roomB
  rw [List.all_eq_true]
  intro j hj
  rw [List.mem_range'_1] at hj
  exact decide_eq_true (h j (by omega))
theorem roomB_false {s : St} {f l j : Nat} (hj : j < 7 - l) (h : 0 < s.fu (f * 7 + l + j)) : roomB s f l = false := by
  cases e : roomB s f l with
  | false => rfl
  | true =>
    unfold roomB at e
    rw [List.all_eq_true] at e
    have := of_decide_eq_true (e j (by rw [List.mem_range'_1]; omega))
    omega
section
variable {h : H} {g B F : Nat} {bs : List Value} {os : List Nat} {s : St}
theorem loop21 (C : CF) (L : Nat) {β : Type} (kr : Value → H → Option β) (kx : H → Option β) (r : GridR h g B F bs os s) {f l c : Nat} (hf : f < s.w) (hl : l ≤ 7) :
    ∀ (d j m : Nat), j + d = 7 - l → d < m → p21arrlrbw C L kr kx m (.int .i64 ((7 - l : Nat) : Int)) (.int .i64 (j : Int)) (.slice (some ⟨F, f * 7 + l, none⟩) (7 - l) c) h =
      (bif (List.range' j d).all fun j => decide (s.fu (f * 7 + l + j) ≤ 0) then kx h else kr (.bool false) h) := by
  intro d
  induction d with
  | zero =>
    intro j m hj hm
    obtain ⟨m, rfl⟩ : ∃ q, m = q + 1 := ⟨m - 1, by omega⟩
    have hd : decide ((j : Int) < ((7 - l : Nat) : Int)) = false := by rw [decide_eq_false_iff_not]; omega
    simp only [p21arrlrbw, p21arrlrbo, bin_lss, hd, bnd_some, condV_bool, cond_false, List.range'_zero, List.all_nil, cond_true]
  | succ d ih =>
    intro j m hj hm
    obtain ⟨m, rfl⟩ : ∃ q, m = q + 1 := ⟨m - 1, by omega⟩
    have hd : decide ((j : Int) < ((7 - l : Nat) : Int)) = true := by rw [decide_eq_true_iff]; omega
    have ix := idxS_eq 1 F (f * 7 + l) (7 - l) c j .i64 (by omega)
    rw [Nat.mul_one] at ix
    obtain ⟨_, ld⟩ := r.full (i := f * 7 + l + j) (by omega)
    have hw : IntKind.i64.wrap ((j : Int) + 1) = ((j + 1 : Nat) : Int) := wrap_succ (by omega)
    simp only [p21arrlrbw, p21arrlrbo, bin_lss, hd, bnd_some, condV_bool, cond_true, ix, ld, bin_gtr, toBK_bool, bin_add, hw, List.range'_succ, List.all_cons]
    by_cases hp : s.fu (f * 7 + l + j) ≤ 0
    · have h1 : decide (0 < s.fu (f * 7 + l + j)) = false := by rw [decide_eq_false_iff_not]; omega
      rw [h1, decide_eq_true hp, Bool.true_and]
      simp only [cond_false]
      exact ih (j + 1) m (by omega) (by omega)
    · have h1 : decide (0 < s.fu (f * 7 + l + j)) = true := by rw [decide_eq_true_iff]; omega
      rw [h1, decide_eq_false hp]
      simp only [cond_true, Bool.false_and, cond_false]
theorem T21 (k : Nat) (r : GridR h g B F bs os s) {f l : Nat} (hf : f < s.w) (hl : l ≤ 7) : callB Try.prog 0 [9] (k + 20) 21 [ptrV g, .int .i64 (f : Int), .int .i64 (l : Int)] h = some (.bool (roomB s f l), h) := by
  rw [F21eq [9] rfl]
  obtain ⟨lw, _, _, lF, _⟩ := r.load
  have hw64 := r.hw
  have h1 : decide ((f : Int) < 0) = false := by rw [decide_eq_false_iff_not]; omega
  have h2 : decide ((s.w : Int) ≤ (f : Int)) = false := by rw [decide_eq_false_iff_not]; omega
  have h3 : decide ((l : Int) < 0) = false := by rw [decide_eq_false_iff_not]; omega
  have h4 : decide ((7 : Int) < (l : Int)) = false := by rw [decide_eq_false_iff_not]; omega
  have w1 : IntKind.i64.wrap ((f : Int) * 7) = ((f * 7 : Nat) : Int) := by rw [show (f : Int) * 7 = ((f * 7 : Nat) : Int) by rw [Int.natCast_mul]; rfl, wrap_nat (by omega)]
  have w2 : IntKind.i64.wrap (((f * 7 : Nat) : Int) + (l : Int)) = ((f * 7 + l : Nat) : Int) := by rw [← Int.natCast_add, wrap_nat (by omega)]
  have w3 : IntKind.i64.wrap ((f : Int) + 1) = ((f + 1 : Nat) : Int) := wrap_succ (by omega)
  have w4 : IntKind.i64.wrap (((f + 1 : Nat) : Int) * 7) = (((f + 1) * 7 : Nat) : Int) := by rw [show ((f + 1 : Nat) : Int) * 7 = (((f + 1) * 7 : Nat) : Int) by rw [Int.natCast_mul (f + 1)]; rfl, wrap_nat (by omega)]
  have sl : A.sliceS 1 (.slice (some ⟨F, 0, none⟩) (s.w * 7) (2 * (s.w * 7) + 1)) (some (.int .i64 ((f * 7 + l : Nat) : Int))) (some (.int .i64 (((f + 1) * 7 : Nat) : Int))) none h = some (.slice (some ⟨F, f * 7 + l, none⟩) (7 - l) (2 * (s.w * 7) + 1 - 2 * (f * 7 + l))) := by
    have e1 : ((f * 7 + l : Nat) : Int) = Int.ofNat (f * 7 + l) := rfl
    have e2 : (((f + 1) * 7 : Nat) : Int) = Int.ofNat ((f + 1) * 7) := rfl
    have c1 : (2 * (s.w * 7) + 1) / 2 = s.w * 7 := by omega
    have c2 : Nat.ble ((f + 1) * 7) (s.w * 7) = true := by rw [ble_dec, decide_eq_true_iff]; omega
    have c3 : Nat.ble (f * 7 + l) ((f + 1) * 7) = true := by rw [ble_dec, decide_eq_true_iff]; omega
    have c4 : Nat.beq ((2 * (s.w * 7) + 1) % 2) 1 = true := by rw [beq_dec', decide_eq_true_iff]; omega
    have c5 : (f + 1) * 7 - (f * 7 + l) = 7 - l := by omega
    rw [e1, e2]
    simp only [A.sliceS, A.bound, Option.isSome_none, Option.isNone_some, Bool.false_and, cond_false, c1, Option.getD_none, c2, cond_true, Option.getD_some, c3, c4, Bool.true_or, Nat.mul_one, Nat.zero_add, c5]
  have ln : A.lenS (.slice (some ⟨F, f * 7 + l, none⟩) (7 - l) (2 * (s.w * 7) + 1 - 2 * (f * 7 + l))) = some (.int .i64 ((7 - l : Nat) : Int)) := rfl
  have lp := loop21 (callB Try.prog 0 [9] (k + 19)) (k + 19) (fun x6 h => some (x6, h)) (fun h => p21arrr (callB Try.prog 0 [9] (k + 19)) (k + 19) h (fun x6 h => some (x6, h))) r (c := 2 * (s.w * 7) + 1 - 2 * (f * 7 + l)) hf hl (7 - l) 0 (k + 19) (by omega) (by omega)
  have lp' : p21arrlrbw (callB Try.prog 0 [9] (k + 19)) (k + 19) (fun x6 h => some (x6, h)) (fun h => p21arrr (callB Try.prog 0 [9] (k + 19)) (k + 19) h (fun x6 h => some (x6, h))) (k + 19) (.int .i64 ((7 - l : Nat) : Int)) (.int .i64 0) (.slice (some ⟨F, f * 7 + l, none⟩) (7 - l) (2 * (s.w * 7) + 1 - 2 * (f * 7 + l))) h = _ := lp
  simp only [F21, p21a, p21al, p21ar, p21arl, p21arll, bin_ptr_nil Try.underlying25, bnd_some, toBK_bool, cond_false, bin_lss, h1, nilCheck_eq, fieldAddr_eq, Nat.zero_add, lw, bin_geq, h2, h3, bin_gtr, h4, p21arlr, condV_bool, p21arr, p21arrl, p21arrll, lF, bin_mul, w1, bin_add, w2, w3, w4, sl, ln, p21arrlr, p21arrlrb]
  rw [lp']
  show (bif roomB s f l then p21arrr (callB Try.prog 0 [9] (k + 19)) (k + 19) h (fun x6 h => some (x6, h)) else some (Value.bool false, h)) = _
  cases roomB s f l <;> rfl
theorem T21n (k : Nat) (r : GridR h g B F bs os s) {f l : Int} (ho : ¬ (0 ≤ f ∧ f < s.w ∧ 0 ≤ l ∧ l ≤ 7)) : callB Try.prog 0 [9] (k + 1) 21 [ptrV g, .int .i64 f, .int .i64 l] h = some (.bool false, h) := by
  rw [F21eq [9] rfl]
  obtain ⟨lw, _⟩ := r.load
  simp only [F21, p21a, p21al, p21ar, p21arl, p21arll, bin_ptr_nil Try.underlying25, bnd_some, toBK_bool, cond_false, bin_lss, nilCheck_eq, fieldAddr_eq, Nat.zero_add, lw, bin_geq, bin_gtr]
  by_cases h1 : f < 0
  · simp [h1, p21arlr]
  by_cases h2 : (s.w : Int) ≤ f
  · simp [h1, h2, p21arlr]
  by_cases h3 : l < 0
  · simp [h1, h2, h3, p21arlr]
  have h4 : 7 < l := by omega
  simp [h1, h2, h3, h4, p21arlr]
end
/-- No grid. -/
def NoG (h : H) (x : Value) : Prop := x = .pointer none ∨ ∃ e m b c o, x = ptrV e ∧ e < h.next ∧ h.get e = some (.cells [.int .i64 0, m, b, c, .int .i64 0] o)
theorem NoG.ext {h h' : H} {x : Value} (n : NoG h x) (y : Ext h h') : NoG h' x := by
  rcases n with rfl | ⟨e, m, b, c, o, rfl, h1, h2⟩
  · exact .inl rfl
  · exact .inr ⟨e, m, b, c, o, rfl, Nat.lt_of_lt_of_le h1 y.next, by rw [y.get e h1]; exact h2⟩
end Go.Proofs.Ytdjhkdogpbiglaa.MailD

namespace Go.Proofs.Ytdjhkdogpbiglaa.MailD
open Go Go.AM
def S (f : Key → Nat) (K : List Key) : Nat := (K.map f).sum
theorem S_append (f : Key → Nat) (K : List Key) (k : Key) : S f (K ++ [k]) = S f K + f k := by simp [S]
theorem S_congr {f g : Key → Nat} : ∀ {K : List Key}, (∀ k ∈ K, f k = g k) → S f K = S g K
  | [], _ => rfl
  | k :: K, h => by
    have e : S f (k :: K) = f k + S f K := by simp [S]
    have e' : S g (k :: K) = g k + S g K := by simp [S]
    rw [e, e', h k (by simp), S_congr fun q hq => h q (by simp [hq])]
theorem S_zero {f : Key → Nat} : ∀ {K : List Key}, S f K = 0 ↔ ∀ k ∈ K, f k = 0
  | [] => by simp [S]
  | k :: K => by
    have e : S f (k :: K) = f k + S f K := by simp [S]
    rw [e, Nat.add_eq_zero_iff, S_zero]
    simp
theorem S_upd {f g : Key → Nat} {k : Key} (h : ∀ q, q ≠ k → f q = g q) : ∀ {K : List Key}, K.Nodup → k ∈ K → S f K + g k = S g K + f k
  | [], _, hk => by simp at hk
  | q :: K, hn, hk => by
    have e : S f (q :: K) = f q + S f K := by simp [S]
    have e' : S g (q :: K) = g q + S g K := by simp [S]
    rw [List.nodup_cons] at hn
    rw [e, e']
    rcases List.mem_cons.1 hk with rfl | hk
    · have : S f K = S g K := S_congr fun x hx => h x fun e => hn.1 (e ▸ hx)
      omega
    · have := S_upd h hn.2 hk
      have := h q fun e => hn.1 (e ▸ hk)
      omega
/-- Is a mailbox full that is counted there? -/
def fl (m i : Nat) (D : Key → List (List ItD)) (k : Key) : Nat := if k.1 * 7 + k.2.2 - 1 = i ∧ m ≤ (D k).length then 1 else 0
theorem tot_S (K : List Key) (D : Key → List (List ItD)) : tot K D = S (fun k => (D k).length) K := rfl
structure Lk (s : St) (K : List Key) (D : Key → List (List ItD)) : Prop where
  cnt : s.cnt = (tot K D : Int)
  fu : ∀ i, s.fu i = (S (fl s.m i D) K : Int)
  nk : K.Nodup
  ok : ∀ k ∈ K, 1 ≤ k.2.2 ∧ k.2.2 ≤ 7
theorem Lk.room {s : St} {K : List Key} {D : Key → List (List ItD)} (x : Lk s K D) {f l : Nat} (hl : l ≤ 7) : roomB s f l = !K.any (fullK s.m f l D) := by
  cases e : K.any (fullK s.m f l D) with
  | false =>
    refine roomB_true fun j hj => ?_
    rw [x.fu]
    have : S (fl s.m (f * 7 + l + j) D) K = 0 := S_zero.2 fun k hk => by
      unfold fl
      rw [if_neg]
      rintro ⟨e1, e2⟩
      have ho := x.ok k hk
      have : fullK s.m f l D k = true := by
        have a1 : k.1 = f := by omega
        have a2 : l < k.2.2 := by omega
        unfold fullK
        rw [decide_eq_true a1, decide_eq_true a2, decide_eq_true e2]; rfl
      have := List.any_eq_true.2 ⟨k, hk, this⟩
      rw [e] at this
      cases this
    omega
  | true =>
    obtain ⟨k, hk, hf⟩ := List.any_eq_true.1 e
    unfold fullK at hf
    simp only [Bool.and_eq_true, decide_eq_true_eq] at hf
    obtain ⟨h1, h2, h3⟩ := hf
    have ho := x.ok k hk
    refine roomB_false (j := k.2.2 - 1 - l) (by omega) ?_
    rw [x.fu]
    have : S (fl s.m (f * 7 + l + (k.2.2 - 1 - l)) D) K ≠ 0 := fun h0 => by
      have := S_zero.1 h0 k hk
      unfold fl at this
      rw [if_pos ⟨by omega, h3⟩] at this
      omega
    omega
theorem Lk.grow {s : St} {K K' : List Key} {D : Key → List (List ItD)} (x : Lk s K D) {k : Key} (g : Grow K K' k) (hk : 1 ≤ k.2.2 ∧ k.2.2 ≤ 7) (hD : k ∉ K → D k = []) (hm : 1 ≤ s.m) : Lk s K' D := by
  rcases g with ⟨_, rfl⟩ | ⟨hn, rfl⟩
  · exact x
  · have h0 := hD hn
    refine ⟨?_, fun i => ?_, ?_, fun q hq => ?_⟩
    · rw [x.cnt, tot_S, tot_S, S_append, h0]; rfl
    · have : fl s.m i D k = 0 := by
        unfold fl
        rw [if_neg]
        rintro ⟨_, e⟩
        rw [h0] at e
        simp at e
        omega
      rw [x.fu, S_append, this, Nat.add_zero]
    · rw [List.nodup_append]
      exact ⟨x.nk, by simp, fun a ha b hb => by
        have : b = k := by simpa using hb
        subst this
        exact fun e => hn (e ▸ ha)⟩
    · rcases List.mem_append.1 hq with hq | hq
      · exact x.ok q hq
      · have : q = k := by simpa using hq
        subst this; exact hk
theorem setD_at (D : Key → List (List ItD)) (k : Key) (xs : List (List ItD)) : setD D k xs k = xs := if_pos rfl
theorem setD_ne (D : Key → List (List ItD)) {k q : Key} (xs : List (List ItD)) (h : q ≠ k) : setD D k xs q = D q := if_neg h
theorem Lk.put {s : St} {K : List Key} {D : Key → List (List ItD)} (x : Lk s K D) {f t l : Nat} (hk : (f, t, l) ∈ K) (hlen : (s.bx (pl s.w f t l)).length = (D (f, t, l)).length) (hlt : (D (f, t, l)).length < s.m) (v : Value) (c : List ItD) :
    Lk (putS s f t l v) K (setD D (f, t, l) (D (f, t, l) ++ [c])) := by
  have h1 : ∀ q, q ≠ (f, t, l) → setD D (f, t, l) (D (f, t, l) ++ [c]) q = D q := fun q hq => setD_ne _ _ hq
  have hkl := x.ok _ hk
  have hk1 : 1 ≤ l ∧ l ≤ 7 := hkl
  refine ⟨?_, fun i => ?_, x.nk, x.ok⟩
  · show s.cnt + 1 = _
    have := S_upd (f := fun q => (D q).length) (g := fun q => (setD D (f, t, l) (D (f, t, l) ++ [c]) q).length) (fun q hq => by simp only [h1 q hq]) x.nk hk
    simp only [setD_at, List.length_append, List.length_singleton] at this
    rw [x.cnt, tot_S, tot_S]
    omega
  · have := S_upd (f := fl s.m i D) (g := fl s.m i (setD D (f, t, l) (D (f, t, l) ++ [c]))) (fun q hq => by unfold fl; rw [h1 q hq]) x.nk hk
    have e0 : fl s.m i D (f, t, l) = 0 := by unfold fl; rw [if_neg]; rintro ⟨_, e⟩; omega
    have e1 : fl s.m i (setD D (f, t, l) (D (f, t, l) ++ [c])) (f, t, l) = if f * 7 + l - 1 = i ∧ s.m ≤ (D (f, t, l)).length + 1 then 1 else 0 := by
      unfold fl; rw [setD_at, List.length_append, List.length_singleton]
    rw [e0, e1] at this
    have hfu := x.fu i
    show (if (s.bx (pl s.w f t l)).length + 1 = s.m then fun j => if j = f * 7 + l - 1 then s.fu (f * 7 + l - 1) + 1 else s.fu j else s.fu) i = _
    show _ = ((S (fl s.m i (setD D (f, t, l) (D (f, t, l) ++ [c]))) K : Nat) : Int)
    rw [hlen]
    by_cases hm : (D (f, t, l)).length + 1 = s.m
    · rw [if_pos hm]
      by_cases hi : i = f * 7 + l - 1
      · subst hi
        rw [if_pos ⟨rfl, by omega⟩] at this
        simp only [if_true]
        omega
      · rw [if_neg (fun e => hi e.1.symm)] at this
        simp only [if_neg hi]
        omega
    · rw [if_neg hm]
      rw [if_neg (fun e => hm (by omega))] at this
      omega
theorem Lk.take {s : St} {K : List Key} {D : Key → List (List ItD)} (x : Lk s K D) {f t l : Nat} (hk : (f, t, l) ∈ K) (hlen : (s.bx (pl s.w f t l)).length = (D (f, t, l)).length) {a : List ItD} {as' : List (List ItD)} (hD : D (f, t, l) = a :: as') (hle : (D (f, t, l)).length ≤ s.m) :
    Lk (takeS s f t l) K (setD D (f, t, l) as') := by
  have h1 : ∀ q, q ≠ (f, t, l) → setD D (f, t, l) as' q = D q := fun q hq => setD_ne _ _ hq
  have hkl := x.ok _ hk
  have hk1 : 1 ≤ l ∧ l ≤ 7 := hkl
  have hl1 : (D (f, t, l)).length = as'.length + 1 := by rw [hD]; rfl
  refine ⟨?_, fun i => ?_, x.nk, x.ok⟩
  · show s.cnt - 1 = _
    have := S_upd (f := fun q => (D q).length) (g := fun q => (setD D (f, t, l) as' q).length) (fun q hq => by simp only [h1 q hq]) x.nk hk
    simp only [setD_at] at this
    rw [x.cnt, tot_S, tot_S]
    omega
  · have := S_upd (f := fl s.m i D) (g := fl s.m i (setD D (f, t, l) as')) (fun q hq => by unfold fl; rw [h1 q hq]) x.nk hk
    have e0 : fl s.m i (setD D (f, t, l) as') (f, t, l) = 0 := by unfold fl; rw [setD_at, if_neg]; rintro ⟨_, e⟩; omega
    have e1 : fl s.m i D (f, t, l) = if f * 7 + l - 1 = i ∧ s.m ≤ (D (f, t, l)).length then 1 else 0 := by unfold fl; rfl
    rw [e0, e1] at this
    have hfu := x.fu i
    show (if (s.bx (pl s.w f t l)).length = s.m then fun j => if j = f * 7 + l - 1 then s.fu (f * 7 + l - 1) - 1 else s.fu j else s.fu) i = _
    show _ = ((S (fl s.m i (setD D (f, t, l) as')) K : Nat) : Int)
    rw [hlen]
    by_cases hm : (D (f, t, l)).length = s.m
    · rw [if_pos hm]
      by_cases hi : i = f * 7 + l - 1
      · subst hi
        rw [if_pos ⟨rfl, by omega⟩] at this
        simp only [if_true]
        omega
      · rw [if_neg (fun e => hi e.1.symm)] at this
        simp only [if_neg hi]
        omega
    · rw [if_neg hm]
      rw [if_neg (fun e => hm (by omega))] at this
      omega
theorem fl_le (m i : Nat) (D : Key → List (List ItD)) (k : Key) : fl m i D k ≤ 1 := by unfold fl; split <;> omega
theorem S_le {f : Key → Nat} {b : Nat} (h : ∀ k, f k ≤ b) : ∀ K : List Key, S f K ≤ K.length * b
  | [] => by simp [S]
  | k :: K => by
    have e : S f (k :: K) = f k + S f K := by simp [S]
    have := S_le h K
    have := h k
    rw [e, List.length_cons, Nat.succ_mul]
    omega
end Go.Proofs.Ytdjhkdogpbiglaa.MailD

namespace Go.Proofs.Ytdjhkdogpbiglaa.MailD
open Go Go.AM
/-- Nothing but blocks of some colours is another. -/
structure Stp (bad : Nat → Prop) (h : H) (col : Nat → Nat) (h' : H) (col' : Nat → Nat) : Prop where
  x : ExtBut (fun i => bad (col i)) h h'
  c : ∀ i, i < h.next → col' i = col i
theorem Stp.trans {bad : Nat → Prop} {h h1 h2 : H} {col col1 col2 : Nat → Nat} (a : Stp bad h col h1 col1) (b : Stp bad h1 col1 h2 col2) : Stp bad h col h2 col2 :=
  ⟨⟨Nat.le_trans a.x.next b.x.next, fun i hi hb => by rw [b.x.get i (Nat.lt_of_lt_of_le hi a.x.next) (by rw [a.c i hi]; exact hb), a.x.get i hi hb]⟩, fun i hi => by rw [b.c i (Nat.lt_of_lt_of_le hi a.x.next), a.c i hi]⟩
theorem Stp.mono {bad bad' : Nat → Prop} (hb : ∀ c, bad c → bad' c) {h h1 : H} {col col1 : Nat → Nat} (a : Stp bad h col h1 col1) : Stp bad' h col h1 col1 :=
  ⟨⟨a.x.next, fun i hi hn => a.x.get i hi fun e => hn (hb _ e)⟩, a.c⟩
theorem Stp.ext {bad : Nat → Prop} {h h1 : H} {col : Nat → Nat} (c : Nat) (x : Ext h h1) : Stp bad h col h1 (recol h.next c col) := ⟨x.but, recol_old⟩
theorem cmd_stp {bad : Nat → Prop} {h h1 : H} {col col1 : Nat → Nat} (a : Stp bad h col h1 col1) {c : Nat} (hc : ¬ bad c) {v : Value} {t : List ItD} (o : CmdIn (OwnW fun i => col i = c) h v t) : CmdIn (OwnW fun i => col1 i = c) h1 v t :=
  cmd_recol a.x (fun j _ hb e => hc (by have hb : bad (col j) := hb; rw [e] at hb; exact hb)) a.c o
theorem DocR.stp {bad : Nat → Prop} {h h1 : H} {col col1 : Nat → Nat} (a : Stp bad h col h1 col1) (b1 : ¬ bad 1) (b2 : ¬ bad 2) {r w m : Nat} {rv : Value} {ds : List DB} (i : DocR h col r w m rv ds) : DocR h1 col1 r w m rv ds :=
  i.but a.x (fun _ _ hb => ⟨fun e => b1 (e ▸ hb), fun e => b2 (e ▸ hb)⟩) a.c
theorem DocD.stp {bad : Nat → Prop} {h h1 : H} {col col1 : Nat → Nat} (a : Stp bad h col h1 col1) (b1 : ¬ bad 1) {ds : List DB} {D : Key → List (List ItD)} (i : DocD h col ds D) : DocD h1 col1 ds D :=
  i.but a.x (fun _ _ hb e => b1 (e ▸ hb)) a.c
abbrev PD := Key → List (List ItD × Nat)
def dat (P : PD) : Key → List (List ItD) := fun k => (P k).map fun a => a.1
def setP (P : PD) (k : Key) (ps : List (List ItD × Nat)) : PD := fun q => if q = k then ps else P q
theorem setP_at (P : PD) (k : Key) (ps : List (List ItD × Nat)) : setP P k ps k = ps := if_pos rfl
theorem setP_ne (P : PD) {k q : Key} (ps : List (List ItD × Nat)) (h : q ≠ k) : setP P k ps q = P q := if_neg h
theorem dat_setP (P : PD) (k : Key) (ps : List (List ItD × Nat)) : dat (setP P k ps) = setD (dat P) k (ps.map fun a => a.1) := by
  funext q
  unfold dat setP setD
  split <;> rfl
structure PH (h : H) (col : Nat → Nat) (g B F : Nat) (bs : List Value) (os : List Nat) (s : St) (P : PD) : Prop where
  gr : GridR h g B F bs os s
  co : ∀ n ∈ os, col n = 3
  pc : ∀ f t l, f < s.w → t < s.w → 1 ≤ l → l ≤ 7 → All2 (fun v (p : List ItD × Nat) => CmdIn (OwnW fun i => col i = 4 + p.2) h v p.1) (s.bx (pl s.w f t l)) (P (f, t, l))
  tu : ∀ (k k' : Key) (i j : Nat) (a b : List ItD × Nat), (P k)[i]? = some a → (P k')[j]? = some b → a.2 = b.2 → k = k' ∧ i = j
  tl : ∀ (k : Key) (a : List ItD × Nat), a ∈ P k → a.2 < h.next
section
variable {h : H} {col : Nat → Nat} {g B F : Nat} {bs : List Value} {os : List Nat} {s : St} {P : PD}
theorem PH.stp {bad : Nat → Prop} {h1 : H} {col1 : Nat → Nat} (i : PH h col g B F bs os s P) (a : Stp bad h col h1 col1) (b3 : ¬ bad 3) (bt : ∀ k p, p ∈ P k → ¬ bad (4 + p.2)) : PH h1 col1 g B F bs os s P where
  gr := i.gr.extBut a.x fun n hn hb => b3 (by rw [i.co n hn] at hb; exact hb)
  co := fun n hn => by rw [a.c n (i.gr.on n hn)]; exact i.co n hn
  pc := fun f t l hf ht hl hl' => by
    have al := i.pc f t l hf ht hl hl'
    exact ⟨al.1, fun j u v hu hv => cmd_stp a (bt _ _ (List.mem_of_getElem? hv)) (al.2 j u v hu hv)⟩
  tu := i.tu
  tl := fun k p hp => Nat.lt_of_lt_of_le (i.tl k p hp) a.x.next
theorem PH.len (i : PH h col g B F bs os s P) {f t l : Nat} (hf : f < s.w) (ht : t < s.w) (hl : 1 ≤ l) (hl' : l ≤ 7) : (s.bx (pl s.w f t l)).length = (P (f, t, l)).length := (i.pc f t l hf ht hl hl').1
theorem PH.take (k : Nat) (i : PH h col g B F bs os s P) {f t l : Nat} (hf : f < s.w) (ht : t < s.w) (hl : 1 ≤ l) (hl' : l ≤ 7) {p : List ItD × Nat} {ps : List (List ItD × Nat)} (hp : P (f, t, l) = p :: ps)
    (hcnt : -2 ^ 40 < s.cnt ∧ s.cnt < 2 ^ 40) (hfu : ∀ i, -2 ^ 40 < s.fu i ∧ s.fu i < 2 ^ 40) :
    ∃ h' bs' os' c, callB Try.prog 0 [9] (k + 2000) 12 [ptrV g, .int .i64 (f : Int), .int .i64 (t : Int), .int .i64 (l : Int)] h = some (.tuple ⟨[c, .bool true]⟩, h') ∧ PH h' (recol h.next 3 col) g B F bs' os' (takeS s f t l) (setP P (f, t, l) ps) ∧ Stp (fun c => c = 3) h col h' (recol h.next 3 col) ∧
      CmdIn (OwnW fun i => recol h.next 3 col i = 4 + p.2) h' c p.1 := by
  have al := i.pc f t l hf ht hl hl'
  rw [hp] at al
  obtain ⟨c, cs, hb⟩ : ∃ c cs, s.bx (pl s.w f t l) = c :: cs := by
    cases hb : s.bx (pl s.w f t l) with
    | nil => rw [hb] at al; have := al.1; simp at this
    | cons c cs => exact ⟨c, cs, rfl⟩
  rw [hb] at al
  obtain ⟨h', bs', os', e, gr', x, ho⟩ := T12 (k + 1998) i.gr hf ht hl hl' hb hcnt hfu
  have e : callB Try.prog 0 [9] (k + 2000) 12 [ptrV g, .int .i64 (f : Int), .int .i64 (t : Int), .int .i64 (l : Int)] h = _ := e
  have st : Stp (fun c => c = 3) h col h' (recol h.next 3 col) := ⟨⟨x.next, fun q hq hn => x.get q hq fun e => hn (i.co q e)⟩, recol_old⟩
  refine ⟨h', bs', os', c, e, ⟨gr', fun n hn => ?_, fun f' t' l' hf' ht' hl1 hl1' => ?_, fun k k' a b u v hu hv huv => ?_, fun k a ha => ?_⟩, st, cmd_stp st (by omega) al.tail.1⟩
  · rcases ho n hn with hn | hn
    · rw [recol_old n (i.gr.on n hn)]; exact i.co n hn
    · exact recol_new hn
  · by_cases hk : (f', t', l') = (f, t, l)
    · simp only [Prod.mk.injEq] at hk
      obtain ⟨rfl, rfl, rfl⟩ := hk
      rw [setP_at]
      have : (takeS s f' t' l').bx (pl (takeS s f' t' l').w f' t' l') = cs := by
        show (if pl s.w f' t' l' = pl s.w f' t' l' then (s.bx (pl s.w f' t' l')).tail else s.bx (pl s.w f' t' l')) = cs
        rw [if_pos rfl, hb]; rfl
      rw [this]
      have al2 := al.tail.2
      exact ⟨al2.1, fun j u v hu hv => cmd_stp st (by omega) (al2.2 j u v hu hv)⟩
    · rw [setP_ne _ _ hk]
      have : (takeS s f t l).bx (pl (takeS s f t l).w f' t' l') = s.bx (pl s.w f' t' l') := by
        show (if pl s.w f' t' l' = pl s.w f t l then (s.bx (pl s.w f t l)).tail else s.bx (pl s.w f' t' l')) = _
        rw [if_neg]
        intro e
        obtain ⟨a, b, c⟩ := pl_inj ht' hl1 hl1' ht hl hl' e
        exact hk (by rw [a, b, c])
      rw [this]
      have al2 := i.pc f' t' l' hf' ht' hl1 hl1'
      exact ⟨al2.1, fun j u v hu hv => cmd_stp st (by omega) (al2.2 j u v hu hv)⟩
  · have sh : ∀ (k : Key) (a : Nat) (u : List ItD × Nat), (setP P (f, t, l) ps k)[a]? = some u → ∃ a', (P k)[a']? = some u ∧ (k = (f, t, l) ∧ a' = a + 1 ∨ k ≠ (f, t, l) ∧ a' = a) := fun k a u hu => by
      by_cases hk : k = (f, t, l)
      · subst hk
        rw [setP_at] at hu
        exact ⟨a + 1, by rw [hp]; simpa using hu, .inl ⟨rfl, rfl⟩⟩
      · rw [setP_ne _ _ hk] at hu
        exact ⟨a, hu, .inr ⟨hk, rfl⟩⟩
    obtain ⟨a', hu', ca⟩ := sh k a u hu
    obtain ⟨b', hv', cb⟩ := sh k' b v hv
    obtain ⟨rfl, rfl⟩ := i.tu k k' a' b' u v hu' hv' huv
    refine ⟨rfl, ?_⟩
    rcases ca with ⟨c1, c2⟩ | ⟨c1, c2⟩ <;> rcases cb with ⟨d1, d2⟩ | ⟨d1, d2⟩
    · omega
    · exact absurd c1 d1
    · exact absurd d1 c1
    · omega
  · refine Nat.lt_of_lt_of_le (i.tl k a ?_) x.next
    by_cases hk : k = (f, t, l)
    · subst hk
      rw [setP_at] at ha
      rw [hp]; simp [ha]
    · rwa [setP_ne _ _ hk] at ha
/-- No other command has its colour. -/
theorem PH.dead (i : PH h col g B F bs os s P) {k : Key} {p : List ItD × Nat} {ps : List (List ItD × Nat)} (hp : P k = p :: ps) : ∀ q a, a ∈ setP P k ps q → a.2 ≠ p.2 := by
  intro q a ha e
  by_cases hk : q = k
  · subst hk
    rw [setP_at] at ha
    obtain ⟨j, hj⟩ := List.mem_iff_getElem?.1 ha
    have := (i.tu q q (j + 1) 0 a p (by rw [hp]; simpa using hj) (by rw [hp]; rfl) e).2
    omega
  · rw [setP_ne _ _ hk] at ha
    obtain ⟨j, hj⟩ := List.mem_iff_getElem?.1 ha
    exact hk (i.tu q k j 0 a p hj (by rw [hp]; rfl) e).1
theorem PH.put (k : Nat) (i : PH h col g B F bs os s P) {f t l : Nat} (hf : f < s.w) (ht : t < s.w) (hl : 1 ≤ l) (hl' : l ≤ 7) {v : Value} {c : List ItD} (cv : CmdIn SliceE h v c) (sm : SmallC c) (hne : c ≠ []) (hlt : (P (f, t, l)).length < s.m)
    (hcnt : -2 ^ 40 < s.cnt ∧ s.cnt < 2 ^ 40) (hfu : ∀ i, -2 ^ 40 < s.fu i ∧ s.fu i < 2 ^ 40) :
    ∃ h' col' bs' os' c', callB Try.prog 0 [9] (k + 2000) 17 [ptrV g, .int .i64 (f : Int), .int .i64 (t : Int), .int .i64 (l : Int), v] h = some (.bool true, h') ∧ PH h' col' g B F bs' os' (putS s f t l c') (setP P (f, t, l) (P (f, t, l) ++ [(c, h.next)])) ∧ Stp (fun c => c = 3) h col h' col' := by
  have hlen := i.len hf ht hl hl'
  have hpos : 0 < c.length := List.length_pos_iff.2 hne
  obtain ⟨c', h1, e32, cc, x1⟩ := S32 (k + 1797) cv sm
  have ccl : cellsL c' = some [c'] := by obtain ⟨els, o, _⟩ := cc; exact o.slice.cells
  obtain ⟨h', bs', os', e, gr', x, ho⟩ := T17 (k + 1998) i.gr hf ht hl hl' hpos (cmd_len cv) (by rw [hlen]; exact hlt) e32 x1 ccl hcnt hfu
  have e : callB Try.prog 0 [9] (k + 2000) 17 [ptrV g, .int .i64 (f : Int), .int .i64 (t : Int), .int .i64 (l : Int), v] h = _ := e
  obtain ⟨col1, hcol1⟩ : ∃ col1, col1 = recol h.next (4 + h.next) col := ⟨_, rfl⟩
  have s1 : Stp (fun c => c = 3) h col h1 col1 := by rw [hcol1]; exact Stp.ext _ x1
  have co1 : ∀ n ∈ os, col1 n = 3 := fun n hn => by rw [s1.c n (i.gr.on n hn)]; exact i.co n hn
  have s2 : Stp (fun c => c = 3) h1 col1 h' (recol h1.next 3 col1) := ⟨⟨x.next, fun q hq hn => x.get q hq fun e => hn (co1 q e)⟩, recol_old⟩
  have st := s1.trans s2
  have cc1 : CmdIn (OwnW fun i => col1 i = 4 + h.next) h1 c' c := cc.map fun _ _ _ o => o.mono fun q hq => by rw [hcol1]; exact recol_new hq
  refine ⟨h', recol h1.next 3 col1, bs', os', c', e, ⟨gr', fun n hn => ?_, fun f' t' l' hf' ht' hl1 hl1' => ?_, fun k k' a b u v hu hv huv => ?_, fun k a ha => ?_⟩, st⟩
  · rcases ho n hn with hn | hn
    · rw [recol_old n (Nat.lt_of_lt_of_le (i.gr.on n hn) x1.next)]; exact co1 n hn
    · exact recol_new hn
  · by_cases hk : (f', t', l') = (f, t, l)
    · simp only [Prod.mk.injEq] at hk
      obtain ⟨rfl, rfl, rfl⟩ := hk
      rw [setP_at]
      have : (putS s f' t' l' c').bx (pl (putS s f' t' l' c').w f' t' l') = s.bx (pl s.w f' t' l') ++ [c'] := by
        show (if pl s.w f' t' l' = pl s.w f' t' l' then s.bx (pl s.w f' t' l') ++ [c'] else s.bx (pl s.w f' t' l')) = _
        rw [if_pos rfl]
      rw [this]
      have al2 := i.pc f' t' l' hf ht hl hl'
      have al3 : All2 (fun v (p : List ItD × Nat) => CmdIn (OwnW fun i => recol h1.next 3 col1 i = 4 + p.2) h' v p.1) (s.bx (pl s.w f' t' l')) (P (f', t', l')) := ⟨al2.1, fun j u v hu hv => cmd_stp st (by omega) (al2.2 j u v hu hv)⟩
      exact al3.snoc (cmd_stp s2 (by omega) cc1)
    · rw [setP_ne _ _ hk]
      have : (putS s f t l c').bx (pl (putS s f t l c').w f' t' l') = s.bx (pl s.w f' t' l') := by
        show (if pl s.w f' t' l' = pl s.w f t l then s.bx (pl s.w f t l) ++ [c'] else s.bx (pl s.w f' t' l')) = _
        rw [if_neg]
        intro e
        obtain ⟨a, b, c⟩ := pl_inj ht' hl1 hl1' ht hl hl' e
        exact hk (by rw [a, b, c])
      rw [this]
      have al2 := i.pc f' t' l' hf' ht' hl1 hl1'
      exact ⟨al2.1, fun j u v hu hv => cmd_stp st (by omega) (al2.2 j u v hu hv)⟩
  · have sh : ∀ (k : Key) (a : Nat) (u : List ItD × Nat), (setP P (f, t, l) (P (f, t, l) ++ [(c, h.next)]) k)[a]? = some u → (P k)[a]? = some u ∨ (k = (f, t, l) ∧ a = (P (f, t, l)).length ∧ u.2 = h.next) := fun k a u hu => by
      by_cases hk : k = (f, t, l)
      · subst hk
        rw [setP_at] at hu
        by_cases ha : a < (P (f, t, l)).length
        · rw [List.getElem?_append_left ha] at hu
          exact .inl hu
        · rw [List.getElem?_append_right (by omega)] at hu
          have ha2 : a - (P (f, t, l)).length = 0 := by
            have := (List.getElem?_eq_some_iff.1 hu).1
            simp only [List.length_singleton] at this
            omega
          rw [ha2] at hu
          have : (c, h.next) = u := by simpa using hu
          exact .inr ⟨rfl, by omega, by rw [← this]⟩
      · rw [setP_ne _ _ hk] at hu
        exact .inl hu
    rcases sh k a u hu with hu | ⟨hk, ha, hu⟩ <;> rcases sh k' b v hv with hv | ⟨hk', hb, hv⟩
    · exact i.tu k k' a b u v hu hv huv
    · have := i.tl k u (List.mem_of_getElem? hu); omega
    · have := i.tl k' v (List.mem_of_getElem? hv); omega
    · exact ⟨hk.trans hk'.symm, by omega⟩
  · have hnn : h.next < h'.next := by
      have h1n : h.next < h1.next := by
        obtain ⟨els, o, a⟩ := cc
        have hl0 : els ≠ [] := fun e0 => by
          have := a.1
          rw [e0] at this
          simp only [List.length_nil] at this
          omega
        obtain ⟨q, cap, hv, _⟩ := o.2.2 hl0
        have hsq : sid c' = some q := by rw [hv]; rfl
        have h2 : h.next ≤ q := o.2.1 q hsq
        have h3 := o.1.sid_lt q hsq
        omega
      exact Nat.lt_of_lt_of_le h1n x.next
    by_cases hk : k = (f, t, l)
    · subst hk
      rw [setP_at] at ha
      rcases List.mem_append.1 ha with ha | ha
      · exact Nat.lt_of_lt_of_le (i.tl _ a ha) st.x.next
      · have : a = (c, h.next) := by simpa using ha
        rw [this]; exact hnn
    · rw [setP_ne _ _ hk] at ha
      exact Nat.lt_of_lt_of_le (i.tl k a ha) st.x.next
end
end Go.Proofs.Ytdjhkdogpbiglaa.MailD

namespace Go.Proofs.Ytdjhkdogpbiglaa.MailD
open Go Go.AM
structure Pl (h0 h : H) (col : Nat → Nat) (g B F : Nat) (bs : List Value) (os : List Nat) (s : St) (r : Nat) (rv : Value) (ds : List DB) (P : PD) : Prop where
  ph : PH h col g B F bs os s P
  dr : DocR h col r s.w s.m rv ds
  dd : DocD h col ds (dat P)
  lk : Lk s (ds.map DB.key) (dat P)
  x0 : Ext h0 h
  c0 : ∀ i, i < h0.next → col i = 1
/-- What is read only stays. -/
def R1 (h : H) (col : Nat → Nat) (h' : H) (col' : Nat → Nat) : Prop := h.next ≤ h'.next ∧ ∀ q, q < h.next → col q = 1 → h'.get q = h.get q ∧ col' q = 1
theorem Stp.r1 {bad : Nat → Prop} {h h1 : H} {col col1 : Nat → Nat} (a : Stp bad h col h1 col1) (b : ¬ bad 1) : R1 h col h1 col1 :=
  ⟨a.x.next, fun q hq hc => ⟨a.x.get q hq fun e => b (by have e : bad (col q) := e; rw [hc] at e; exact e), by rw [a.c q hq]; exact hc⟩⟩
theorem R1.trans {h h1 h2 : H} {col col1 col2 : Nat → Nat} (a : R1 h col h1 col1) (b : R1 h1 col1 h2 col2) : R1 h col h2 col2 :=
  ⟨Nat.le_trans a.1 b.1, fun q hq hc => by
    obtain ⟨e1, c1⟩ := a.2 q hq hc
    obtain ⟨e2, c2⟩ := b.2 q (Nat.lt_of_lt_of_le hq a.1) c1
    exact ⟨e2.trans e1, c2⟩⟩
theorem R1.ext {h0 h h1 : H} {col col1 : Nat → Nat} (a : R1 h col h1 col1) (x : Ext h0 h) (c : ∀ i, i < h0.next → col i = 1) : Ext h0 h1 ∧ ∀ i, i < h0.next → col1 i = 1 :=
  ⟨⟨Nat.le_trans x.next a.1, fun i hi => by rw [(a.2 i (Nat.lt_of_lt_of_le hi x.next) (c i hi)).1, x.get i hi]⟩, fun i hi => (a.2 i (Nat.lt_of_lt_of_le hi x.next) (c i hi)).2⟩
def Pq (h0 h : H) (col : Nat → Nat) (g r w m n : Nat) (P : PD) : Prop := ∃ B F bs os s rv ds, Pl h0 h col g B F bs os s r rv ds P ∧ s.w = w ∧ s.m = m ∧ ds.length ≤ n
/-- A colour that may be written over. -/
def Fre (P : PD) (c : Nat) : Prop := c = 0 ∨ (4 ≤ c ∧ ∀ k a, a ∈ P k → 4 + a.2 ≠ c)
theorem S_le_mem {f : Key → Nat} {b : Nat} : ∀ {K : List Key}, (∀ k ∈ K, f k ≤ b) → S f K ≤ K.length * b
  | [], _ => by simp [S]
  | k :: K, h => by
    have e : S f (k :: K) = f k + S f K := by simp [S]
    have := S_le_mem (K := K) fun q hq => h q (by simp [hq])
    have := h k (by simp)
    rw [e, List.length_cons, Nat.succ_mul]
    omega
section
variable {h0 h : H} {col : Nat → Nat} {g B F : Nat} {bs : List Value} {os : List Nat} {s : St} {r : Nat} {rv : Value} {ds : List DB} {P : PD}
theorem Pl.stp {bad : Nat → Prop} {h1 : H} {col1 : Nat → Nat} (i : Pl h0 h col g B F bs os s r rv ds P) (a : Stp bad h col h1 col1) (b1 : ¬ bad 1) (b2 : ¬ bad 2) (b3 : ¬ bad 3) (bt : ∀ k p, p ∈ P k → ¬ bad (4 + p.2)) : Pl h0 h1 col1 g B F bs os s r rv ds P where
  ph := i.ph.stp a b3 bt
  dr := i.dr.stp a b1 b2
  dd := i.dd.stp a b1
  lk := i.lk
  x0 := ((a.r1 b1).ext i.x0 i.c0).1
  c0 := ((a.r1 b1).ext i.x0 i.c0).2
theorem Pl.bounds (i : Pl h0 h col g B F bs os s r rv ds P) (hn : ds.length ≤ 1000) : (-2 ^ 40 < s.cnt ∧ s.cnt < 2 ^ 40) ∧ ∀ j, -2 ^ 40 < s.fu j ∧ s.fu j < 2 ^ 40 := by
  have h1 : S (fun k => (dat P k).length) (ds.map DB.key) ≤ (ds.map DB.key).length * 64 := S_le_mem fun k hk => by
    obtain ⟨d, hd, rfl⟩ := List.mem_map.1 hk
    have := i.dr.sm d hd
    have := i.dd.len hd
    have := i.dr.hm
    show (dat P d.key).length ≤ 64
    omega
  rw [List.length_map] at h1
  refine ⟨?_, fun j => ?_⟩
  · rw [i.lk.cnt, tot_S]; omega
  · have h2 := S_le (fl_le s.m j (dat P)) (ds.map DB.key)
    rw [List.length_map] at h2
    rw [i.lk.fu]
    omega
/-- The document's half goes on. -/
theorem Pl.doc {h1 : H} {col1 : Nat → Nat} {rv1 : Value} {ds1 : List DB} (i : Pl h0 h col g B F bs os s r rv ds P) (x : ExtBut (fun i => col i = 2) h h1) (hc : ∀ q, q < h.next → col1 q = col q) (dr : DocR h1 col1 r s.w s.m rv1 ds1) (dd : DocD h1 col1 ds1 (dat P)) {k : Key} (gw : Grow (ds.map DB.key) (ds1.map DB.key) k) (hk : 1 ≤ k.2.2 ∧ k.2.2 ≤ 7) :
    Pl h0 h1 col1 g B F bs os s r rv1 ds1 P ∧ R1 h col h1 col1 := by
  have st : Stp (fun c => c = 2) h col h1 col1 := ⟨x, hc⟩
  have b1 : ¬ ((fun c => c = 2) 1) := by show ¬ (1 = 2); omega
  have rr := st.r1 b1
  refine ⟨⟨i.ph.stp st (by show ¬ (3 = 2); omega) (fun k p _ => by show ¬ (4 + p.2 = 2); omega), dr, dd, i.lk.grow gw hk (fun hn => i.dd.de k fun d hd e => hn (List.mem_map.2 ⟨d, hd, e⟩)) i.dr.hm.1, (rr.ext i.x0 i.c0).1, (rr.ext i.x0 i.c0).2⟩, rr⟩
theorem dat_len (P : PD) (k : Key) : (dat P k).length = (P k).length := by simp [dat]
end
section
variable {h0 h : H} {col : Nat → Nat} {g r w m n : Nat} {P : PD}
theorem Pq.le (i : Pq h0 h col g r w m n P) {n' : Nat} (hn : n ≤ n') : Pq h0 h col g r w m n' P := by
  obtain ⟨B, F, bs, os, s, rv, ds, p, hw, hm, hl⟩ := i
  exact ⟨B, F, bs, os, s, rv, ds, p, hw, hm, by omega⟩
theorem Pq.stp {bad : Nat → Prop} {h1 : H} {col1 : Nat → Nat} (i : Pq h0 h col g r w m n P) (a : Stp bad h col h1 col1) (b1 : ¬ bad 1) (b2 : ¬ bad 2) (b3 : ¬ bad 3) (bt : ∀ k p, p ∈ P k → ¬ bad (4 + p.2)) : Pq h0 h1 col1 g r w m n P := by
  obtain ⟨B, F, bs, os, s, rv, ds, p, hw, hm, hl⟩ := i
  exact ⟨B, F, bs, os, s, rv, ds, p.stp a b1 b2 b3 bt, hw, hm, hl⟩
/-- Just new memory. -/
theorem Pq.ext {h1 : H} (c : Nat) (i : Pq h0 h col g r w m n P) (x : Ext h h1) : Pq h0 h1 (recol h.next c col) g r w m n P ∧ R1 h col h1 (recol h.next c col) :=
  have st : Stp (fun _ => False) h col h1 (recol h.next c col) := Stp.ext c x
  ⟨i.stp st (fun h => h) (fun h => h) (fun h => h) (fun _ _ _ h => h), st.r1 fun h => h⟩
theorem Pq.x0 (i : Pq h0 h col g r w m n P) : Ext h0 h := by
  obtain ⟨B, F, bs, os, s, rv, ds, p, hw, hm, hl⟩ := i
  exact p.x0
/-- What comes of a call: what is told, both alike; a colour that may be written over. -/
def Told (h : H) (col : Nat → Nat) (P : PD) (x y : Value) : Prop := ∃ c tc, CmdIn (OwnW fun i => col i = tc) h x c ∧ CmdIn SliceE h y c ∧ SmallC c ∧ Fre P tc
theorem told_nil (h : H) (col : Nat → Nat) (P : PD) : Told h col P (.slice none 0 0) (.slice none 0 0) :=
  ⟨[], 0, ⟨[], OwnW.nil _ _ _, All2.nil⟩, ⟨[], ⟨by simp, .inl ⟨rfl, rfl⟩⟩, All2.nil⟩, ⟨by simp, by simp⟩, .inl rfl⟩
theorem ok_nat {w : Nat} {f t l : Int} (h : Ok w f t l) : ∃ f' t' l' : Nat, f = (f' : Int) ∧ t = (t' : Int) ∧ l = (l' : Int) ∧ f' < w ∧ t' < w ∧ 1 ≤ l' ∧ l' ≤ 7 := by
  unfold Ok at h
  exact ⟨f.toNat, t.toNat, l.toNat, by omega, by omega, by omega, by omega, by omega, by omega, by omega⟩
theorem pTake (k : Nat) (i : Pq h0 h col g r w m n P) (hn : n ≤ 900) (f t l : Int) :
    ∃ x y b h1 h2 col1 col2 P', callB Try.prog 0 [9] (k + 2000) 12 [ptrV g, .int .i64 f, .int .i64 t, .int .i64 l] h = some (.tuple ⟨[x, .bool b]⟩, h1) ∧ callB Try.prog 0 [9] (k + 2000) 13 [ptrV r, .int .i64 f, .int .i64 t, .int .i64 l] h1 = some (.tuple ⟨[y, .bool b]⟩, h2) ∧
      R1 h col h1 col1 ∧ R1 h col h2 col2 ∧ Pq h0 h2 col2 g r w m (n + 1) P' ∧ Told h2 col2 P' x y := by
  have ii := i
  obtain ⟨B, F, bs, os, s, rv, ds, p, rfl, rfl, hl⟩ := i
  have rr : R1 h col h col := ⟨Nat.le_refl _, fun q _ hc => ⟨rfl, hc⟩⟩
  by_cases ho : Ok s.w f t l
  · obtain ⟨f, t, l, rfl, rfl, rfl, hf, ht, hl1, hl2⟩ := ok_nat ho
    have hbd := p.bounds (by omega)
    have hlen := p.ph.len hf ht hl1 hl2
    cases hp : P (f, t, l) with
    | nil =>
      rw [hp] at hlen
      have e12 := T12e (k + 1998) p.ph.gr hf ht hl1 hl2 (List.length_eq_zero_iff.1 hlen)
      have e12 : callB Try.prog 0 [9] (k + 2000) 12 [ptrV g, .int .i64 (f : Int), .int .i64 (t : Int), .int .i64 (l : Int)] h = _ := e12
      obtain ⟨h', col', rv', ds', y, b, e13, dr', dd', x', hc', gw, hnil, _⟩ := T13 (k + 996) p.dr p.dd (by omega) hf ht hl1 hl2
      have e13 : callB Try.prog 0 [9] (k + 2000) 13 [ptrV r, .int .i64 (f : Int), .int .i64 (t : Int), .int .i64 (l : Int)] h = _ := e13
      have hD : dat P (f, t, l) = [] := by unfold dat; rw [hp]; rfl
      obtain ⟨rfl, rfl⟩ := hnil hD
      have hs : setD (dat P) (f, t, l) (dat P (f, t, l)).tail = dat P := by
        have := setD_same (dat P) (f, t, l)
        rw [hD] at this ⊢
        exact this
      rw [hs] at dd'
      obtain ⟨p', r'⟩ := p.doc x' hc' dr' dd' gw ⟨hl1, hl2⟩
      have := gw.len
      simp only [List.length_map] at this
      exact ⟨_, _, false, h, h', col, col', P, e12, e13, rr, r', ⟨B, F, bs, os, s, rv', ds', p', rfl, rfl, by omega⟩, told_nil _ _ _⟩
    | cons a as' =>
      obtain ⟨h1, bs1, os1, c, e12, ph1, st1, cc⟩ := p.ph.take k hf ht hl1 hl2 hp hbd.1 hbd.2
      have st1' : Stp (fun c => c = 3) h col h1 (recol h.next 3 col) := st1
      have dr1 := p.dr.stp st1' (by show ¬ (1 = 3); omega) (by show ¬ (2 = 3); omega)
      have dd1 := p.dd.stp st1' (by show ¬ (1 = 3); omega)
      have r1 := st1'.r1 (by show ¬ (1 = 3); omega)
      obtain ⟨h2, col2, rv2, ds2, y, b, e13, dr2, dd2, x2, hc2, gw, _, hcons⟩ := T13 (k + 996) dr1 dd1 (by omega) hf ht hl1 hl2
      have e13 : callB Try.prog 0 [9] (k + 2000) 13 [ptrV r, .int .i64 (f : Int), .int .i64 (t : Int), .int .i64 (l : Int)] h1 = _ := e13
      have hD : dat P (f, t, l) = a.1 :: as'.map fun a => a.1 := by unfold dat; rw [hp]; rfl
      obtain ⟨rfl, cy⟩ := hcons _ _ hD
      have st2 : Stp (fun c => c = 2) h1 (recol h.next 3 col) h2 col2 := ⟨x2, hc2⟩
      have ph2 := ph1.stp st2 (by show ¬ (3 = 2); omega) (fun k p _ => by show ¬ (4 + p.2 = 2); omega)
      have r2 := r1.trans (st2.r1 (by show ¬ (1 = 2); omega))
      have hdat : setD (dat P) (f, t, l) (dat P (f, t, l)).tail = dat (setP P (f, t, l) as') := by rw [dat_setP, hD]; rfl
      rw [hdat] at dd2
      have hK := gw.mem
      have lk1 := p.lk.grow gw ⟨hl1, hl2⟩ (fun hn => p.dd.de _ fun d hd e => hn (List.mem_map.2 ⟨d, hd, e⟩)) p.dr.hm.1
      have hle : (dat P (f, t, l)).length ≤ s.m := by rw [dat_len, ← hlen]; exact p.ph.gr.lm _
      have lk2 := lk1.take hK (by rw [dat_len]; exact hlen) hD hle
      rw [← dat_setP] at lk2
      have := gw.len
      simp only [List.length_map] at this
      refine ⟨c, y, true, h1, h2, recol h.next 3 col, col2, setP P (f, t, l) as', e12, e13, r1, r2, ⟨B, F, bs1, os1, takeS s f t l, rv2, ds2, ⟨ph2, dr2, dd2, lk2, (r2.ext p.x0 p.c0).1, (r2.ext p.x0 p.c0).2⟩, rfl, rfl, by omega⟩, ⟨a.1, 4 + a.2, cmd_stp st2 (by omega) cc, cy, p.dd.sm (f, t, l) a.1 (by rw [hD]; simp), .inr ⟨by omega, fun q u hu e => p.ph.dead hp q u hu (by omega)⟩⟩⟩
  · have e12 := T12n (k + 1998) p.ph.gr ho
    have e13 := T13n (k + 1997) p.dr ho
    exact ⟨_, _, false, h, h, col, col, P, e12, e13, rr, rr, ii.le (by omega), told_nil _ _ _⟩
theorem pHead (k : Nat) (i : Pq h0 h col g r w m n P) (hn : n ≤ 900) (f t l : Int) :
    ∃ x y b h1 h2 col1 col2 P', callB Try.prog 0 [9] (k + 2000) 14 [ptrV g, .int .i64 f, .int .i64 t, .int .i64 l] h = some (.tuple ⟨[x, .bool b]⟩, h1) ∧ callB Try.prog 0 [9] (k + 2000) 15 [ptrV r, .int .i64 f, .int .i64 t, .int .i64 l] h1 = some (.tuple ⟨[y, .bool b]⟩, h2) ∧
      R1 h col h1 col1 ∧ R1 h col h2 col2 ∧ Pq h0 h2 col2 g r w m (n + 1) P' ∧ Told h2 col2 P' x y := by
  have ii := i
  obtain ⟨B, F, bs, os, s, rv, ds, p, rfl, rfl, hl⟩ := i
  have rr : R1 h col h col := ⟨Nat.le_refl _, fun q _ hc => ⟨rfl, hc⟩⟩
  by_cases ho : Ok s.w f t l
  · obtain ⟨f, t, l, rfl, rfl, rfl, hf, ht, hl1, hl2⟩ := ok_nat ho
    have hlen := p.ph.len hf ht hl1 hl2
    have al := p.ph.pc f t l hf ht hl1 hl2
    cases hp : P (f, t, l) with
    | nil =>
      rw [hp] at hlen
      have e14 := T14e (k + 1998) p.ph.gr hf ht hl1 hl2 (List.length_eq_zero_iff.1 hlen)
      have e14 : callB Try.prog 0 [9] (k + 2000) 14 [ptrV g, .int .i64 (f : Int), .int .i64 (t : Int), .int .i64 (l : Int)] h = _ := e14
      obtain ⟨q, h1, col1, rv1, ds1, y, b, h2, e15, dr1, dd1, x1, hc1, _, _, gw, x2, hnil, _⟩ := T15 (k + 997) p.dr p.dd (by omega) hf ht hl1 hl2
      have e15 : callB Try.prog 0 [9] (k + 2000) 15 [ptrV r, .int .i64 (f : Int), .int .i64 (t : Int), .int .i64 (l : Int)] h = _ := e15
      have hD : dat P (f, t, l) = [] := by unfold dat; rw [hp]; rfl
      obtain ⟨rfl, rfl⟩ := hnil hD
      obtain ⟨p1, r1⟩ := p.doc x1 hc1 dr1 dd1 gw ⟨hl1, hl2⟩
      have := gw.len
      simp only [List.length_map] at this
      have pq1 : Pq h0 h1 col1 g r s.w s.m (n + 1) P := ⟨B, F, bs, os, s, rv1, ds1, p1, rfl, rfl, by omega⟩
      obtain ⟨pq2, r2⟩ := pq1.ext 0 x2
      exact ⟨_, _, false, h, h2, col, recol h1.next 0 col1, P, e14, e15, rr, r1.trans r2, pq2, told_nil _ _ _⟩
    | cons a as' =>
      rw [hp] at al
      obtain ⟨c, cs, hb⟩ : ∃ c cs, s.bx (pl s.w f t l) = c :: cs := by
        cases hb : s.bx (pl s.w f t l) with
        | nil => rw [hb] at al; have := al.1; simp at this
        | cons c cs => exact ⟨c, cs, rfl⟩
      rw [hb] at al
      have hD : dat P (f, t, l) = a.1 :: as'.map fun a => a.1 := by unfold dat; rw [hp]; rfl
      have hsm : SmallC a.1 := p.dd.sm (f, t, l) a.1 (by rw [hD]; simp)
      obtain ⟨c', h1, e32, cc, x1⟩ := S32 (k + 1797) (own_slice al.tail.1) hsm
      have e14 := T14 (k + 1998) p.ph.gr hf ht hl1 hl2 hb e32
      have e14 : callB Try.prog 0 [9] (k + 2000) 14 [ptrV g, .int .i64 (f : Int), .int .i64 (t : Int), .int .i64 (l : Int)] h = _ := e14
      have st1 : Stp (fun _ => False) h col h1 (recol h.next 0 col) := Stp.ext 0 x1
      have p1 := p.stp st1 (fun h => h) (fun h => h) (fun h => h) (fun _ _ _ h => h)
      have r1 := st1.r1 fun h => h
      have cc1 : CmdIn (OwnW fun i => recol h.next 0 col i = 0) h1 c' a.1 := cc.map fun _ _ _ o => o.mono fun q hq => recol_new hq
      obtain ⟨q, h2, col2, rv2, ds2, y, b, h3, e15, dr2, dd2, x2, hc2, _, _, gw, x3, _, hcons⟩ := T15 (k + 997) p1.dr p1.dd (by omega) hf ht hl1 hl2
      have e15 : callB Try.prog 0 [9] (k + 2000) 15 [ptrV r, .int .i64 (f : Int), .int .i64 (t : Int), .int .i64 (l : Int)] h1 = _ := e15
      obtain ⟨rfl, cy⟩ := hcons _ _ hD
      obtain ⟨p2, r2⟩ := p1.doc x2 hc2 dr2 dd2 gw ⟨hl1, hl2⟩
      have := gw.len
      simp only [List.length_map] at this
      have pq2 : Pq h0 h2 col2 g r s.w s.m (n + 1) P := ⟨B, F, bs, os, s, rv2, ds2, p2, rfl, rfl, by omega⟩
      obtain ⟨pq3, r3⟩ := pq2.ext 1 x3
      have st2 : Stp (fun c => c = 2) h1 (recol h.next 0 col) h2 col2 := ⟨x2, hc2⟩
      have st3 : Stp (fun _ => False) h2 col2 h3 (recol h2.next 1 col2) := Stp.ext 1 x3
      exact ⟨c', y, true, h1, h3, recol h.next 0 col, recol h2.next 1 col2, P, e14, e15, r1, (r1.trans r2).trans r3, pq3, ⟨a.1, 0, cmd_stp st3 (fun h => h) (cmd_stp st2 (by omega) cc1), own_slice cy, hsm, .inl rfl⟩⟩
  · have e14 := T14n (k + 1998) p.ph.gr ho
    have e15 := T15n (k + 1998) p.dr ho
    exact ⟨_, _, false, h, h, col, col, P, e14, e15, rr, rr, ii.le (by omega), told_nil _ _ _⟩
end
end Go.Proofs.Ytdjhkdogpbiglaa.MailD

namespace Go.Proofs.Ytdjhkdogpbiglaa.MailD
open Go Go.AM
section
variable {h0 h : H} {col : Nat → Nat} {g r w m n : Nat} {P : PD}
theorem Pq.c0 (i : Pq h0 h col g r w m n P) : ∀ q, q < h0.next → col q = 1 := by
  obtain ⟨B, F, bs, os, s, rv, ds, p, hw, hm, hl⟩ := i
  exact p.c0
theorem putMid (k : Nat) (i : Pq h0 h col g r w m n P) (hn : n ≤ 900) (f t l : Int) {v own : Value} {c : List ItD} (cv : CmdIn SliceE h0 v c) (sm : SmallC c) (co : CmdIn (OwnW fun i => col i = 0) h own c) :
    ∃ b h2 col2 h3 col3 P', callB Try.prog 0 [9] (k + 2000) 17 [ptrV g, .int .i64 f, .int .i64 t, .int .i64 l, own] h = some (.bool b, h2) ∧ callB Try.prog 0 [9] (k + 2000) 18 [ptrV r, .int .i64 f, .int .i64 t, .int .i64 l, v] h2 = some (.bool b, h3) ∧
      R1 h col h2 col2 ∧ R1 h col h3 col3 ∧ Pq h0 h3 col3 g r w m (n + 1) P' ∧ CmdIn (OwnW fun i => col3 i = 0) h3 own c := by
  have ii := i
  obtain ⟨B, F, bs, os, s, rv, ds, p, rfl, rfl, hl⟩ := i
  have rr : R1 h col h col := ⟨Nat.le_refl _, fun q _ hc => ⟨rfl, hc⟩⟩
  by_cases ho : Ok s.w f t l
  · obtain ⟨f, t, l, rfl, rfl, rfl, hf, ht, hl1, hl2⟩ := ok_nat ho
    have hbd := p.bounds (by omega)
    have hlen := p.ph.len hf ht hl1 hl2
    have hle := p.ph.gr.lm (pl s.w f t l)
    by_cases hbad : c = [] ∨ s.m ≤ (dat P (f, t, l)).length
    · -- neither takes it
      have e17 : callB Try.prog 0 [9] (k + 2000) 17 [ptrV g, .int .i64 (f : Int), .int .i64 (t : Int), .int .i64 (l : Int), own] h = some (.bool false, h) := by
        by_cases hz : c = []
        · have lz : A.lenS own = some (.int .i64 0) := by have := cmd_len (own_slice co); rw [hz] at this; exact this
          exact T17z (k + 1998) p.ph.gr hf ht hl1 hl2 lz
        · have hfull : s.m ≤ (dat P (f, t, l)).length := by rcases hbad with hb | hb; exact absurd hb hz; exact hb
          rw [dat_len] at hfull
          exact T17f (k + 1998) p.ph.gr hf ht hl1 hl2 (List.length_pos_iff.2 hz) (cmd_len (own_slice co)) (by omega)
      obtain ⟨h', col', rv', ds', b, D', e18, dr', dd', x', hc', gw, hno, _⟩ := T18 (k + 997) p.dr p.dd (by omega) hf ht hl1 hl2 (v := v) (c := c) (fun h' x => cv.ext ⟨Nat.le_trans p.x0.next x.next, fun q hq => by rw [x.get q (Nat.lt_of_lt_of_le hq p.x0.next) (by rw [p.c0 q hq]; omega), p.x0.get q hq]⟩) sm
      have e18 : callB Try.prog 0 [9] (k + 2000) 18 [ptrV r, .int .i64 (f : Int), .int .i64 (t : Int), .int .i64 (l : Int), v] h = _ := e18
      obtain ⟨rfl, rfl⟩ := hno hbad
      obtain ⟨p', r'⟩ := p.doc x' hc' dr' dd' gw ⟨hl1, hl2⟩
      have := gw.len
      simp only [List.length_map] at this
      have st : Stp (fun c => c = 2) h col h' col' := ⟨x', hc'⟩
      exact ⟨false, h, col, h', col', P, e17, e18, rr, r', ⟨B, F, bs, os, s, rv', ds', p', rfl, rfl, by omega⟩, cmd_stp st (by omega) co⟩
    · have hbad' := hbad
      rw [not_or] at hbad'
      obtain ⟨hz, hlt⟩ := hbad'
      have hlt : (P (f, t, l)).length < s.m := by rw [dat_len] at hlt; omega
      obtain ⟨h1, col1, bs1, os1, c', e17, ph1, st1⟩ := p.ph.put k hf ht hl1 hl2 (own_slice co) sm hz hlt hbd.1 hbd.2
      have dr1 := p.dr.stp st1 (by show ¬ (1 = 3); omega) (by show ¬ (2 = 3); omega)
      have dd1 := p.dd.stp st1 (by show ¬ (1 = 3); omega)
      have r1 := st1.r1 (by show ¬ (1 = 3); omega)
      obtain ⟨x1, c1⟩ := r1.ext p.x0 p.c0
      obtain ⟨h2, col2, rv2, ds2, b, D', e18, dr2, dd2, x2, hc2, gw, _, hyes⟩ := T18 (k + 997) dr1 dd1 (by omega) hf ht hl1 hl2 (v := v) (c := c) (fun h' x => cv.ext ⟨Nat.le_trans x1.next x.next, fun q hq => by rw [x.get q (Nat.lt_of_lt_of_le hq x1.next) (by rw [c1 q hq]; omega), x1.get q hq]⟩) sm
      have e18 : callB Try.prog 0 [9] (k + 2000) 18 [ptrV r, .int .i64 (f : Int), .int .i64 (t : Int), .int .i64 (l : Int), v] h1 = _ := e18
      obtain ⟨rfl, rfl⟩ := hyes hbad
      have st2 : Stp (fun c => c = 2) h1 col1 h2 col2 := ⟨x2, hc2⟩
      have ph2 := ph1.stp st2 (by show ¬ (3 = 2); omega) (fun k p _ => by show ¬ (4 + p.2 = 2); omega)
      have r2 := r1.trans (st2.r1 (by show ¬ (1 = 2); omega))
      have hdat : setD (dat P) (f, t, l) (dat P (f, t, l) ++ [c]) = dat (setP P (f, t, l) (P (f, t, l) ++ [(c, h.next)])) := by
        rw [dat_setP, List.map_append]; rfl
      have lk1 := p.lk.grow gw ⟨hl1, hl2⟩ (fun hn => p.dd.de _ fun d hd e => hn (List.mem_map.2 ⟨d, hd, e⟩)) p.dr.hm.1
      have lk2 := lk1.put gw.mem (by rw [dat_len]; exact hlen) (by rw [dat_len]; exact hlt) c' c
      rw [hdat] at dd2 lk2
      have := gw.len
      simp only [List.length_map] at this
      exact ⟨true, h1, col1, h2, col2, setP P (f, t, l) (P (f, t, l) ++ [(c, h.next)]), e17, e18, r1, r2, ⟨B, F, bs1, os1, putS s f t l c', rv2, ds2, ⟨ph2, dr2, dd2, lk2, (r2.ext p.x0 p.c0).1, (r2.ext p.x0 p.c0).2⟩, rfl, rfl, by omega⟩, cmd_stp st2 (by omega) (cmd_stp st1 (by omega) co)⟩
  · have e17 := T17n (k + 1998) p.ph.gr ho own
    have e18 := T18n (k + 1998) p.dr ho v
    exact ⟨false, h, col, h, col, P, e17, e18, rr, rr, ii.le (by omega), co⟩
theorem pPut (k : Nat) (i : Pq h0 h col g r w m n P) (hn : n ≤ 900) (f t l : Int) {v : Value} {c : List ItD} (cv : CmdIn SliceE h0 v c) (sm : SmallC c) :
    ∃ own b h1 h2 h3 h4 h5 col1 col2 col3 col5 P', callB Try.prog 0 [9] (k + 2000) 16 [v] h = some (own, h1) ∧ callB Try.prog 0 [9] (k + 2000) 17 [ptrV g, .int .i64 f, .int .i64 t, .int .i64 l, own] h1 = some (.bool b, h2) ∧ callB Try.prog 0 [9] (k + 2000) 18 [ptrV r, .int .i64 f, .int .i64 t, .int .i64 l, v] h2 = some (.bool b, h3) ∧
      callB Try.prog 0 [9] (k + 2000) 19 [own, v] h3 = some (.bool true, h4) ∧ callB Try.prog 0 [9] (k + 2000) 20 [own] h4 = some (.tuple ⟨[]⟩, h5) ∧ R1 h col h1 col1 ∧ R1 h col h2 col2 ∧ R1 h col h3 col3 ∧ R1 h col h5 col5 ∧ Pq h0 h5 col5 g r w m (n + 1) P' := by
  obtain ⟨own, h1, e16, co, x1⟩ := S16 (k + 1798) (cv.ext i.x0) sm
  have e16 : callB Try.prog 0 [9] (k + 2000) 16 [v] h = _ := e16
  obtain ⟨i1, r1⟩ := i.ext 0 x1
  obtain ⟨b, h2, col2, h3, col3, P', e17, e18, r2, r3, i3, co3⟩ := putMid k i1 hn f t l cv sm (co.map fun _ _ _ o => o.mono fun q hq => recol_new hq)
  obtain ⟨h4, e19, x4⟩ := S19c (k + 1389) (own_slice co3) (cv.ext i3.x0) sm
  have e19 : callB Try.prog 0 [9] (k + 2000) 19 [own, v] h3 = _ := e19
  have hs : decide (SameC c c) = true := decide_eq_true (SameC.rfl c)
  rw [hs] at e19
  obtain ⟨i4, r4⟩ := i3.ext 1 x4
  have st4 : Stp (fun _ => False) h3 col3 h4 (recol h3.next 1 col3) := Stp.ext 1 x4
  obtain ⟨h5, e20, sp⟩ := S20 (k + 1699) (cmd_stp st4 (fun h => h) co3) sm
  have e20 : callB Try.prog 0 [9] (k + 2000) 20 [own] h4 = _ := e20
  have st5 : Stp (fun c => c = 0) h4 (recol h3.next 1 col3) h5 (recol h4.next 1 (recol h3.next 1 col3)) := ⟨sp.but, recol_old⟩
  have i5 := i4.stp st5 (by show ¬ (1 = 0); omega) (by show ¬ (2 = 0); omega) (by show ¬ (3 = 0); omega) (fun k p _ => by show ¬ (4 + p.2 = 0); omega)
  have r5 := st5.r1 (by show ¬ (1 = 0); omega)
  exact ⟨own, b, h1, h2, h3, h4, h5, _, col2, col3, _, P', e16, e17, e18, e19, e20, r1, r1.trans r2, r1.trans r3, ((r1.trans r3).trans r4).trans r5, i5⟩
theorem pRoom (k : Nat) (i : Pq h0 h col g r w m n P) (hn : n ≤ 1000) (f l : Int) : ∃ b, callB Try.prog 0 [9] (k + 2000) 21 [ptrV g, .int .i64 f, .int .i64 l] h = some (.bool b, h) ∧ callB Try.prog 0 [9] (k + 2000) 22 [ptrV r, .int .i64 f, .int .i64 l] h = some (.bool b, h) := by
  obtain ⟨B, F, bs, os, s, rv, ds, p, rfl, rfl, hl⟩ := i
  by_cases ho : 0 ≤ f ∧ f < s.w ∧ 0 ≤ l ∧ l ≤ 7
  · obtain ⟨f, rfl⟩ : ∃ q : Nat, f = (q : Int) := ⟨f.toNat, by omega⟩
    obtain ⟨l, rfl⟩ : ∃ q : Nat, l = (q : Int) := ⟨l.toNat, by omega⟩
    have e1 := T21 (k + 1980) p.ph.gr (f := f) (l := l) (by omega) (by omega)
    have e2 := T22 (k + 998) p.dr p.dd (by omega) (f := f) (l := l) (by omega) (by omega)
    rw [p.lk.room (by omega)] at e1
    exact ⟨_, e1, e2⟩
  · exact ⟨false, T21n (k + 1999) p.ph.gr ho, T22n (k + 1999) p.dr ho⟩
theorem pLen (k : Nat) (i : Pq h0 h col g r w m n P) (hn : n ≤ 1000) (f t l : Int) : ∃ z h1 col1, callB Try.prog 0 [9] (k + 2000) 23 [ptrV g, .int .i64 f, .int .i64 t, .int .i64 l] h = some (.int .i64 z, h) ∧ callB Try.prog 0 [9] (k + 2000) 24 [ptrV r, .int .i64 f, .int .i64 t, .int .i64 l] h = some (.int .i64 z, h1) ∧
    Stp (fun c => c = 2) h col h1 col1 ∧ Pq h0 h1 col1 g r w m (n + 1) P := by
  have ii := i
  obtain ⟨B, F, bs, os, s, rv, ds, p, rfl, rfl, hl⟩ := i
  by_cases ho : Ok s.w f t l
  · obtain ⟨f, t, l, rfl, rfl, rfl, hf, ht, hl1, hl2⟩ := ok_nat ho
    have e1 := T23 (k + 1998) p.ph.gr hf ht hl1 hl2
    obtain ⟨h', col', rv', ds', e2, dr', dd', x', hc', gw⟩ := T24 (k + 997) p.dr p.dd (by omega) hf ht hl1 hl2
    rw [p.ph.len hf ht hl1 hl2] at e1
    rw [dat_len] at e2
    obtain ⟨p', _⟩ := p.doc x' hc' dr' dd' gw ⟨hl1, hl2⟩
    have := gw.len
    simp only [List.length_map] at this
    exact ⟨_, h', col', e1, e2, ⟨x', hc'⟩, ⟨B, F, bs, os, s, rv', ds', p', rfl, rfl, by omega⟩⟩
  · exact ⟨0, h, col, T23n (k + 1998) p.ph.gr ho, T24n (k + 1998) p.dr ho, ⟨⟨Nat.le_refl _, fun _ _ _ => rfl⟩, fun _ _ => rfl⟩, ii.le (by omega)⟩
theorem pCount (k : Nat) (i : Pq h0 h col g r w m n P) (hn : n ≤ 1000) : ∃ z, callB Try.prog 0 [9] (k + 2000) 25 [ptrV g] h = some (.int .i64 z, h) ∧ callB Try.prog 0 [9] (k + 2000) 26 [ptrV r] h = some (.int .i64 z, h) ∧
    callB Try.prog 0 [9] (k + 2000) 27 [ptrV g] h = some (.bool (decide (z = 0)), h) ∧ callB Try.prog 0 [9] (k + 2000) 28 [ptrV r] h = some (.bool (decide (z = 0)), h) := by
  obtain ⟨B, F, bs, os, s, rv, ds, p, rfl, rfl, hl⟩ := i
  have e1 := T25 (k + 1999) p.ph.gr
  have e2 := T26 (k + 998) p.dr p.dd (by omega)
  have e3 := T27 (k + 1998) p.ph.gr
  have e4 := T28 (k + 997) p.dr p.dd (by omega)
  rw [← p.lk.cnt] at e2 e4
  exact ⟨s.cnt, e1, e2, e3, e4⟩
/-- What is told may be written over. -/
def Tx (h : H) (col : Nat → Nat) (P : PD) (x : Value) : Prop := ∃ c tc, CmdIn (OwnW fun i => col i = tc) h x c ∧ SmallC c ∧ Fre P tc
theorem Tx.stp2 {h1 : H} {col1 : Nat → Nat} {x : Value} (t : Tx h col P x) (a : Stp (fun c => c = 2) h col h1 col1) : Tx h1 col1 P x := by
  obtain ⟨c, tc, cx, sm, fr⟩ := t
  exact ⟨c, tc, cmd_stp a (by show ¬ (tc = 2); rcases fr with h | h <;> omega) cx, sm, fr⟩
theorem pSame (k : Nat) (i : Pq h0 h col g r w m n P) {x y : Value} (t : Told h col P x y) : ∃ h1 col1, callB Try.prog 0 [9] (k + 2000) 19 [x, y] h = some (.bool true, h1) ∧ R1 h col h1 col1 ∧ Pq h0 h1 col1 g r w m n P ∧ Tx h1 col1 P x := by
  obtain ⟨c, tc, cx, cy, sm, fr⟩ := t
  obtain ⟨h1, e, x1⟩ := S19c (k + 1389) (own_slice cx) cy sm
  have e : callB Try.prog 0 [9] (k + 2000) 19 [x, y] h = _ := e
  have hs : decide (SameC c c) = true := decide_eq_true (SameC.rfl c)
  rw [hs] at e
  obtain ⟨i1, r1⟩ := i.ext 1 x1
  have st : Stp (fun _ => False) h col h1 (recol h.next 1 col) := Stp.ext 1 x1
  exact ⟨h1, _, e, r1, i1, c, tc, cmd_stp st (fun h => h) cx, sm, fr⟩
theorem pSpoil (k : Nat) (i : Pq h0 h col g r w m n P) {x : Value} (t : Tx h col P x) : ∃ h1 col1, callB Try.prog 0 [9] (k + 2000) 20 [x] h = some (.tuple ⟨[]⟩, h1) ∧ Pq h0 h1 col1 g r w m n P := by
  obtain ⟨c, tc, cx, sm, fr⟩ := t
  obtain ⟨h1, e, sp⟩ := S20 (k + 1699) cx sm
  have e : callB Try.prog 0 [9] (k + 2000) 20 [x] h = _ := e
  have st : Stp (fun c => c = tc) h col h1 (recol h.next 1 col) := ⟨sp.but, recol_old⟩
  refine ⟨h1, _, e, i.stp st ?_ ?_ ?_ fun k p hp => ?_⟩
  · show ¬ (1 = tc); rcases fr with h | h <;> omega
  · show ¬ (2 = tc); rcases fr with h | h <;> omega
  · show ¬ (3 = tc); rcases fr with h | h <;> omega
  · show ¬ (4 + p.2 = tc)
    rcases fr with h | h
    · omega
    · exact h.2 k p hp
end
end Go.Proofs.Ytdjhkdogpbiglaa.MailD

namespace Go.Proofs.Ytdjhkdogpbiglaa.MailD
open Go Go.AM
/-- A call in a box. -/
def Ab (h : H) (col : Nat → Nat) (a : Nat) (kd F T L : Int) (cv : Value) : Prop := h.get a = some (.cells [.int .u8 kd, .int .i64 F, .int .i64 T, .int .i64 L, cv] (some 0)) ∧ col a = 1 ∧ a < h.next
theorem Ab.r1 {h h' : H} {col col' : Nat → Nat} {a : Nat} {kd F T L : Int} {cv : Value} (x : Ab h col a kd F T L cv) (y : R1 h col h' col') : Ab h' col' a kd F T L cv :=
  ⟨by rw [(y.2 a x.2.2 x.2.1).1]; exact x.1, (y.2 a x.2.2 x.2.1).2, Nat.lt_of_lt_of_le x.2.2 y.1⟩
theorem Ab.ld {h : H} {col : Nat → Nat} {a : Nat} {kd F T L : Int} {cv : Value} (x : Ab h col a kd F T L cv) : A.load false 1 (.pointer (some ⟨a, 0, none⟩)) h = some (.int .u8 kd) ∧ A.load false 1 (.pointer (some ⟨a, 1, none⟩)) h = some (.int .i64 F) ∧ A.load false 1 (.pointer (some ⟨a, 2, none⟩)) h = some (.int .i64 T) ∧ A.load false 1 (.pointer (some ⟨a, 3, none⟩)) h = some (.int .i64 L) ∧ A.load false 1 (.pointer (some ⟨a, 4, none⟩)) h = some cv := by
  refine ⟨?_, ?_, ?_, ?_, ?_⟩ <;> · rw [load1_eq, x.1]; rfl
theorem neqb (b : Bool) : A.bin Try.prog .neq 4 (.bool b) (.bool b) = some (.bool false) := by
  rw [bin_bool_neq Try.underlying4]; simp
theorem neqi (z : Int) : A.bin Try.prog .neq 3 (.int .i64 z) (.int .i64 z) = some (.bool false) := by
  rw [bin_neq]; simp
theorem chki (z : Int) : chk (some (.int .i64 z)) (.int .i64 z) = true := by
  show AM.same (.int .i64 z) (.int .i64 z) = true
  simp [AM.same]
theorem exA (x : Value) (b : Bool) : A.extract 0 (.tuple ⟨[x, .bool b]⟩) = some x ∧ A.extract 1 (.tuple ⟨[x, .bool b]⟩) = some (.bool b) := ⟨rfl, rfl⟩
section
variable {h0 h : H} {col : Nat → Nat} {g r w m n : Nat} {P : PD}
/-- What is asked behind each call is alike. -/
theorem query (k L : Nat) (i : Pq h0 h col g r w m n P) (hn : n ≤ 900) {x y : Value} (t : Told h col P x y) {a : Nat} {kd F T Ln : Int} {cv : Value} (ab : Ab h col a kd F T Ln cv) (b : Bool) (x13 x2 : Value) (fr la : Int) :
    ∃ h' col', Pq h0 h' col' g r w m (n + 1) P ∧ Tx h' col' P x ∧ ∀ {β : Type} (kn : Value → Value → Value → Value → Value → Value → Value → Value → H → Option β),
      MailD3.p3arrrrlrborlbrrrrll (callB Try.prog 0 [9] (k + 2000)) L (.bool b) (.bool b) y (ptrV a) x x13 (ptrV r) (ptrV g) (.int .i64 la) (.int .i64 fr) x2 h kn = kn (.bool false) x x13 (ptrV r) (ptrV g) (.int .i64 la) (.int .i64 fr) x2 h' := by
  obtain ⟨h1, col1, e19, r1, i1, tx1⟩ := pSame k i t
  obtain ⟨_, f1, f2, f3, _⟩ := (ab.r1 r1).ld
  obtain ⟨b1, e21, e22⟩ := pRoom k i1 (by omega) F Ln
  obtain ⟨b2, e21', e22'⟩ := pRoom k i1 (by omega) fr la
  obtain ⟨z, h2, col2, e23, e24, st2, i2⟩ := pLen k i1 (by omega) F T Ln
  obtain ⟨c, e25, e26, e27, e28⟩ := pCount k i2 (by omega)
  refine ⟨h2, col2, i2, tx1.stp2 st2, fun kn => ?_⟩
  simp only [MailD3.p3arrrrlrborlbrrrrll, toBK_bool, neqb, bnd_some, cond_false, e19, bnd2_some, un_not, Bool.not_true, fieldAddr_eq, Nat.zero_add, f1, f2, f3, e21, chki, Bool.and_true, cond_true, e22, e21', e22', e23, e24, neqi, e25, e26, e27, e28]
/-- The call. -/
theorem call3 (k L : Nat) (i : Pq h0 h col g r w m n P) (hn : n ≤ 900) {a : Nat} {kd : Nat} {F T Ln : Int} {cv : Value} {c : List ItD} (ab : Ab h col a (kd : Int) F T Ln cv) (cc : CmdIn SliceE h0 cv c) (sm : SmallC c) (x13 x4 x3 x2 : Value) :
    ∃ b x y h' col' P', Pq h0 h' col' g r w m (n + 1) P' ∧ Told h' col' P' x y ∧ R1 h col h' col' ∧ ∀ {β : Type} (kn : Value → Value → Value → Value → Value → Value → Value → Value → Value → Value → Value → H → Option β) (kr : Value → H → Option β),
      MailD3.p3arrrrlrborlbrrrl (callB Try.prog 0 [9] (k + 2000)) L (.slice none 0 0) (ptrV a) (.slice none 0 0) x13 (ptrV r) (ptrV g) x4 x3 x2 h kn kr = kn (.bool b) (.bool b) y (ptrV a) x x13 (ptrV r) (ptrV g) x4 x3 x2 h' := by
  obtain ⟨f0, f1, f2, f3, f4⟩ := ab.ld
  have hrem : A.bin Try.prog .rem 5 (.int .u8 (kd : Int)) (.int .u8 8) = some (.int .u8 ((kd : Int).tmod 8)) := bin_rem Try.prog 5 .u8 _ _ (by omega)
  obtain ⟨q, hq⟩ : ∃ q, q = (kd : Int).tmod 8 := ⟨_, rfl⟩
  rw [← hq] at hrem
  have take : ∃ b x y h' col' P', Pq h0 h' col' g r w m (n + 1) P' ∧ Told h' col' P' x y ∧ R1 h col h' col' ∧ ∀ {β : Type} (kn : Value → Value → Value → Value → Value → Value → Value → Value → Value → Value → Value → H → Option β),
      MailD3.p3arrrrlrborlbrrrlrbrt (callB Try.prog 0 [9] (k + 2000)) L (.bool true) (.int .u8 q) (.slice none 0 0) (ptrV a) (.slice none 0 0) x13 (ptrV r) (ptrV g) x4 x3 x2 h kn = kn (.bool b) (.bool b) y (ptrV a) x x13 (ptrV r) (ptrV g) x4 x3 x2 h' := by
    obtain ⟨x, y, b, h1, h2, col1, col2, P', e12, e13, r1, r2, i2, t2⟩ := pTake k i hn F T Ln
    obtain ⟨_, g1, g2, g3, _⟩ := (ab.r1 r1).ld
    refine ⟨b, x, y, h2, col2, P', i2, t2, r2, fun kn => ?_⟩
    simp only [MailD3.p3arrrrlrborlbrrrlrbrt, fieldAddr_eq, Nat.zero_add, bnd_some, f1, f2, f3, e12, bnd2_some, exA, toBK_bool, g1, g2, g3, e13]
  by_cases h5 : q = 5
  · have d5 : decide (q = 5) = true := decide_eq_true h5
    obtain ⟨b, x, y, h', col', P', i', t', r', e⟩ := take
    refine ⟨b, x, y, h', col', P', i', t', r', fun kn kr => ?_⟩
    simp only [MailD3.p3arrrrlrborlbrrrl, MailD3.p3arrrrlrborlbrrrll, fieldAddr_eq, Nat.zero_add, bnd_some, f0, hrem, MailD3.p3arrrrlrborlbrrrlr, MailD3.p3arrrrlrborlbrrrlrb, MailD3.p3arrrrlrborlbrrrlrbl, bin_eql, d5, toBK_bool, cond_true, MailD3.p3arrrrlrborlbrrrlrbr, condV_bool, e]
  have d5 : decide (q = 5) = false := decide_eq_false h5
  by_cases h6 : q = 6
  · have d6 : decide (q = 6) = true := decide_eq_true h6
    obtain ⟨b, x, y, h', col', P', i', t', r', e⟩ := take
    refine ⟨b, x, y, h', col', P', i', t', r', fun kn kr => ?_⟩
    simp only [MailD3.p3arrrrlrborlbrrrl, MailD3.p3arrrrlrborlbrrrll, fieldAddr_eq, Nat.zero_add, bnd_some, f0, hrem, MailD3.p3arrrrlrborlbrrrlr, MailD3.p3arrrrlrborlbrrrlrb, MailD3.p3arrrrlrborlbrrrlrbl, bin_eql, d5, d6, toBK_bool, cond_false, cond_true, MailD3.p3arrrrlrborlbrrrlrbr, condV_bool, e]
  have d6 : decide (q = 6) = false := decide_eq_false h6
  by_cases h7 : q = 7
  · have d7 : decide (q = 7) = true := decide_eq_true h7
    obtain ⟨x, y, b, h1, h2, col1, col2, P', e14, e15, r1, r2, i2, t2⟩ := pHead k i hn F T Ln
    obtain ⟨_, g1, g2, g3, _⟩ := (ab.r1 r1).ld
    refine ⟨b, x, y, h2, col2, P', i2, t2, r2, fun kn kr => ?_⟩
    simp only [MailD3.p3arrrrlrborlbrrrl, MailD3.p3arrrrlrborlbrrrll, fieldAddr_eq, Nat.zero_add, bnd_some, f0, hrem, MailD3.p3arrrrlrborlbrrrlr, MailD3.p3arrrrlrborlbrrrlrb, MailD3.p3arrrrlrborlbrrrlrbl, bin_eql, d5, d6, d7, toBK_bool, cond_false, cond_true, MailD3.p3arrrrlrborlbrrrlrbr, condV_bool, MailD3.p3arrrrlrborlbrrrlrbrf, MailD3.p3arrrrlrborlbrrrlrbrfl, MailD3.p3arrrrlrborlbrrrlrbrfr, MailD3.p3arrrrlrborlbrrrlrbrfrt, f1, f2, f3, e14, bnd2_some, exA, g1, g2, g3, e15]
  have d7 : decide (q = 7) = false := decide_eq_false h7
  obtain ⟨own, b, h1, h2, h3, h4, h5', col1, col2, col3, col5, P', e16, e17, e18, e19, e20, r1, r2, r3, r5, i5⟩ := pPut k i hn F T Ln cc sm
  obtain ⟨_, g1, g2, g3, _⟩ := (ab.r1 r1).ld
  obtain ⟨_, k1, k2, k3, k4⟩ := (ab.r1 r2).ld
  obtain ⟨_, _, _, _, l4⟩ := (ab.r1 r3).ld
  refine ⟨b, .slice none 0 0, .slice none 0 0, h5', col5, P', i5, told_nil _ _ _, r5, fun kn kr => ?_⟩
  simp only [MailD3.p3arrrrlrborlbrrrl, MailD3.p3arrrrlrborlbrrrll, fieldAddr_eq, Nat.zero_add, bnd_some, f0, hrem, MailD3.p3arrrrlrborlbrrrlr, MailD3.p3arrrrlrborlbrrrlrb, MailD3.p3arrrrlrborlbrrrlrbl, bin_eql, d5, d6, d7, toBK_bool, cond_false, cond_true, MailD3.p3arrrrlrborlbrrrlrbr, condV_bool, MailD3.p3arrrrlrborlbrrrlrbrf, MailD3.p3arrrrlrborlbrrrlrbrfl, MailD3.p3arrrrlrborlbrrrlrbrfr, MailD3.p3arrrrlrborlbrrrlrbrfrf, f4, e16, bnd2_some, g1, g2, g3, e17, k1, k2, k3, k4, e18, l4, e19, un_not, Bool.not_true, e20]
/-- A call that is handed in. -/
def ActD (h : H) (x : List Value) : Prop := ∃ (kd : Nat) (F T L : Int) (cv : Value) (c : List ItD), x = [.int .u8 (kd : Int), .int .i64 F, .int .i64 T, .int .i64 L, cv] ∧ CmdIn SliceE h cv c ∧ SmallC c
theorem round3 (k L : Nat) (i : Pq h0 h col g r w m n P) (hn : n ≤ 800) {x2 : Value} {l : List (List Value)} (sl : SliceE 5 h0 x2 l) {j : Nat} (hj : j < l.length) (hc : ActD h0 l[j]) (fr la : Int) :
    ∃ h' col' P', Pq h0 h' col' g r w m (n + 2) P' ∧ ∀ {β : Type} (kn : Value → Value → Value → Value → Value → Value → H → Option β) (kr : Value → H → Option β),
      MailD3.p3arrrrlrborlb (callB Try.prog 0 [9] (k + 2000)) L (.int .i64 (j : Int)) (ptrV r) (ptrV g) (.int .i64 la) (.int .i64 fr) x2 h kn kr = kn (.int .i64 (j : Int)) (ptrV r) (ptrV g) (.int .i64 la) (.int .i64 fr) x2 h' := by
  obtain ⟨kd, F, T, Ln, cv, c, he, cc, sm⟩ := hc
  have hel : l[j]? = some [.int .u8 (kd : Int), .int .i64 F, .int .i64 T, .int .i64 Ln, cv] := by rw [List.getElem?_eq_getElem hj, he]
  obtain ⟨id, off, cells, own, e1, _, e3, e4, e5, _⟩ := (sl.ext i.x0).at hel .i64
  have ld5 : A.load true 5 (.pointer (some ⟨id, off, none⟩)) h = some (.agg ⟨[.int .u8 (kd : Int), .int .i64 F, .int .i64 T, .int .i64 Ln, cv]⟩) := load_of e3 e4 e5
  have hcv : cellsL cv = some [cv] := by obtain ⟨els, s, _⟩ := cc; exact s.cells
  obtain ⟨h1, hh1⟩ : ∃ h1, h1 = h.push (.cells MailD3.Z31L (some 0)) := ⟨_, rfl⟩
  have bx : A.box 5 MailD3.Z31 h = some (ptrV h.next, h1) := by rw [hh1]; rfl
  obtain ⟨h2, hh2⟩ : ∃ h2, h2 = h1.put h.next (.cells [.int .u8 (kd : Int), .int .i64 F, .int .i64 T, .int .i64 Ln, cv] (some 0)) := ⟨_, rfl⟩
  have g1 : h1.get h.next = some (.cells MailD3.Z31L (some 0)) := by rw [hh1, H.get_push, if_pos rfl]
  have hca : cellsL (.agg ⟨[.int .u8 (kd : Int), .int .i64 F, .int .i64 T, .int .i64 Ln, cv]⟩) = some [.int .u8 (kd : Int), .int .i64 F, .int .i64 T, .int .i64 Ln, cv] := rfl
  have st : A.store 5 (ptrV h.next) (.agg ⟨[.int .u8 (kd : Int), .int .i64 F, .int .i64 T, .int .i64 Ln, cv]⟩) h1 = some h2 := by
    rw [store_eq, g1, hca, hh2]; rfl
  have x1 : Ext h h1 := by rw [hh1]; exact Ext.push h _
  have x2' : Ext h h2 := by rw [hh2]; exact x1.put _ _ (Nat.le_refl _)
  obtain ⟨i2, _⟩ := i.ext 1 x2'
  have ab : Ab h2 (recol h.next 1 col) h.next (kd : Int) F T Ln cv := ⟨by rw [hh2, H.get_put, if_pos rfl], recol_new (Nat.le_refl _), by rw [hh2, hh1]; exact Nat.lt_succ_self _⟩
  obtain ⟨b, x, y, h3, col3, P3, i3, t3, r3, ec⟩ := call3 k L i2 (by omega) ab cc sm (.int .i64 (j : Int)) (.int .i64 la) (.int .i64 fr) x2
  obtain ⟨h4, col4, i4, tx4, eq⟩ := query k L i3 (by omega) t3 (ab.r1 r3) b (.int .i64 (j : Int)) x2 fr la
  obtain ⟨h5, col5, e20, i5⟩ := pSpoil k i4 tx4
  refine ⟨h5, col5, P3, i5.le (by omega), fun kn kr => ?_⟩
  simp only [MailD3.p3arrrrlrborlb, MailD3.p3arrrrlrborlbl, e1, bnd_some, ld5, bx, bnd2_some, st, MailD3.p3arrrrlrborlbr, MailD3.p3arrrrlrborlbrl, MailD3.p3arrrrlrborlbrr, MailD3.p3arrrrlrborlbrrl, MailD3.p3arrrrlrborlbrrr, ec, MailD3.p3arrrrlrborlbrrrr, MailD3.p3arrrrlrborlbrrrrl, eq, MailD3.p3arrrrlrborlbrrrrlr, condV_bool, cond_false, MailD3.p3arrrrlrborlbrrrrr, e20]
end
/-- All calls. -/
theorem rounds3 (k L : Nat) {β : Type} (kr : Value → H → Option β) (kx : H → Option β) {h0 : H} {g r w m : Nat} {x2 : Value} {l : List (List Value)} (sl : SliceE 5 h0 x2 l) (hl : l.length ≤ 300) (hc : ∀ x ∈ l, ActD h0 x) (fr la : Int) :
    ∀ (d j q : Nat) (h : H) (col : Nat → Nat) (P : PD), j + d = l.length → d < q → Pq h0 h col g r w m (2 * j) P →
      ∃ h', MailD3.p3arrrrlrbw (callB Try.prog 0 [9] (k + 2000)) L kr kx q (.int .i64 (j : Int)) (ptrV r) (ptrV g) (.int .i64 la) (.int .i64 fr) x2 h = kx h' := by
  have hlen : A.lenS x2 = some (.int .i64 (l.length : Int)) := sl.len.1
  intro d
  induction d with
  | zero =>
    intro j q h col P hj hq _
    obtain ⟨q, rfl⟩ : ∃ p, q = p + 1 := ⟨q - 1, by omega⟩
    have hd : decide ((j : Int) < (l.length : Int)) = false := by rw [decide_eq_false_iff_not]; omega
    refine ⟨h, ?_⟩
    simp only [MailD3.p3arrrrlrbw, MailD3.p3arrrrlrbo, MailD3.p3arrrrlrbol, hlen, bnd_some, bin_lss, hd, toBK_bool, cond_false]
  | succ d ih =>
    intro j q h col P hj hq i
    obtain ⟨q, rfl⟩ : ∃ p, q = p + 1 := ⟨q - 1, by omega⟩
    have hd : decide ((j : Int) < (l.length : Int)) = true := by rw [decide_eq_true_iff]; omega
    have hjl : j < l.length := by omega
    have hwr : IntKind.i64.wrap ((j : Int) + 1) = ((j + 1 : Nat) : Int) := wrap_succ (by omega)
    obtain ⟨h1, col1, P1, i1, e⟩ := round3 k L i (by omega) sl hjl (hc _ (List.getElem_mem hjl)) fr la
    obtain ⟨h', e'⟩ := ih (j + 1) q h1 col1 P1 (by omega) (by omega) (i1.le (by omega))
    refine ⟨h', ?_⟩
    simp only [MailD3.p3arrrrlrbw, MailD3.p3arrrrlrbo, MailD3.p3arrrrlrbol, hlen, bnd_some, bin_lss, hd, toBK_bool, cond_true, MailD3.p3arrrrlrbor, MailD3.p3arrrrlrborl]
    rw [e]
    simp only [MailD3.p3arrrrlrborr, bin_add, bnd_some, hwr]
    exact e'
end Go.Proofs.Ytdjhkdogpbiglaa.MailD

namespace Go.Proofs.Ytdjhkdogpbiglaa.MailD
open Go Go.AM
/-- A call as it is handed in. -/
def ActO (h : H) (x : List Value) : Prop := ∃ (kd : Nat) (F T L : Int) (cv : Value) (els : List (List Value)) (c : List ItD), x = [.int .u8 (kd : Int), .int .i64 F, .int .i64 T, .int .i64 L, cv] ∧ SliceE 38 h cv els ∧ All2 (ItIn SliceE h) els c
theorem act_openD {h : H} {cs : List Value} (ty : Ty Try.prog h 31 cs) : ActO h cs := by
  have pl := ty.fields Try.underlying31
  simp only [TyFs] at pl
  obtain ⟨_, _, rfl, p0, ⟨_, _, rfl, p1, ⟨_, _, rfl, p2, ⟨_, _, rfl, p3, ⟨_, _, rfl, p4, rfl⟩⟩⟩⟩⟩ := pl
  obtain ⟨a0, rfl, w0⟩ := p0.int_inv Try.underlying5
  obtain ⟨a1, rfl, _⟩ := p1.int_inv Try.underlying3
  obtain ⟨a2, rfl, _⟩ := p2.int_inv Try.underlying3
  obtain ⟨a3, rfl, _⟩ := p3.int_inv Try.underlying3
  obtain ⟨v, els, c, rfl, s, _, ac⟩ := cmd_open p4
  have hb : 0 ≤ a0 ∧ a0 < 256 := by
    have hq : IntKind.u8.min ≤ a0 ∧ a0 ≤ IntKind.u8.max := by simpa [Lit.wf] using w0
    have e1 : IntKind.u8.min = 0 := rfl
    have e2 : IntKind.u8.max = 255 := rfl
    omega
  refine ⟨a0.toNat, a1, a2, a3, v, els, c, ?_, s, ac⟩
  rw [Int.toNat_of_nonneg hb.1]; rfl
theorem act_small {h : H} {x : List Value} (o : ActO h x) (b : ActB h x) : ActD h x := by
  obtain ⟨kd, F, T, L, cv, els, c, rfl, s, ac⟩ := o
  obtain ⟨kd', F', T', L', cv', its, R, hl, hb⟩ := b
  have e := R.eq
  have e4 : cv = cv' := by
    have := congrArg (fun l => l[4]?) e
    simpa using this
  subst e4
  have : els = its := SliceE.inj s R.sl
  subst this
  exact ⟨kd, F, T, L, cv, c, rfl, ⟨els, s, ac⟩, small_all ac hl hb⟩
theorem bin25 (p : Nat) : A.bin Try.prog .eql 25 (ptrV p) (.pointer none) = some (.bool false) := bin_ptr_nil Try.underlying25 _
theorem bin27 (p : Nat) : A.bin Try.prog .eql 27 (ptrV p) (.pointer none) = some (.bool false) := bin_ptr_nil Try.underlying27 _
theorem law3 (k : Nat) {h0 : H} {w m fr la : Int} {x2 : Value} {l : List (List Value)} (sl : SliceE 5 h0 x2 l) (hC : ∀ x ∈ l, ActC h0 x) (hO : ∀ x ∈ l, ActO h0 x) :
    ∃ h', callB Try.prog 0 [9] (k + 2001) 3 [.int .i64 w, .int .i64 m, x2, .int .i64 fr, .int .i64 la] h0 = some (.bool true, h') := by
  rw [MailD3.F3eq [9] rfl]
  have aw : ∀ h, callB Try.prog 0 [9] (k + 2000) 9 [] h = some (.bool true, h) := fun h => by kernel_rfl
  obtain ⟨b, h1, e8, x1, hb⟩ := T8b (k + 1698) sl hC
  have e8 : callB Try.prog 0 [9] (k + 2000) 8 [x2] h0 = _ := e8
  cases b with
  | true =>
    refine ⟨h1, ?_⟩
    simp only [MailD3.F3, MailD3.p3a, MailD3.p3al, MailD3.p3ar, MailD3.p3arl, e8, bnd2_some, toBK_bool, cond_true, aw]
  | false =>
    obtain ⟨hl, hB⟩ := hb rfl
    by_cases hw : 1 ≤ w ∧ w ≤ 64 ∧ 1 ≤ m ∧ m ≤ 64
    · obtain ⟨w, rfl⟩ : ∃ q : Nat, w = (q : Int) := ⟨w.toNat, by omega⟩
      obtain ⟨m, rfl⟩ : ∃ q : Nat, m = (q : Int) := ⟨m.toNat, by omega⟩
      have hw1 : 1 ≤ w ∧ w ≤ 64 := by omega
      have hm1 : 1 ≤ m ∧ m ≤ 64 := by omega
      obtain ⟨h2, g, B, F, bs, os, e10, gr, x2', ho⟩ := T10 (k + 1999) h1 hw1 hm1
      have e10 : callB Try.prog 0 [9] (k + 2000) 10 [.int .i64 (w : Int), .int .i64 (m : Int)] h1 = _ := e10
      obtain ⟨col2, hcol2⟩ : ∃ col2, col2 = recol h1.next 3 fun _ => 1 := ⟨_, rfl⟩
      obtain ⟨h3, e11, dr, dd, x3⟩ := T11 (k + 1999) h2 hw1 hm1 col2
      have e11 : callB Try.prog 0 [9] (k + 2000) 11 [.int .i64 (w : Int), .int .i64 (m : Int)] h2 = _ := e11
      have ph2 : PH h2 col2 g B F bs os (newS w m) (fun _ => []) := ⟨gr, fun n hn => by rw [hcol2]; exact recol_new (ho n hn), fun f t l _ _ _ _ => All2.nil, fun k k' i j a b ha => by simp at ha, fun k a ha => by simp at ha⟩
      have st3 : Stp (fun _ => False) h2 col2 h3 (recol h2.next 2 col2) := Stp.ext 2 x3
      have ph3 := ph2.stp st3 (fun h => h) (fun _ _ _ h => h)
      have hc0 : ∀ q, q < h0.next → recol h2.next 2 col2 q = 1 := fun q hq => by
        have h01 := x1.next
        have h12 := x2'.next
        rw [recol_old q (by omega), hcol2, recol_old q (by omega)]
      have pq : Pq h0 h3 (recol h2.next 2 col2) g h2.next w m 0 (fun _ => []) := ⟨B, F, bs, os, newS w m, .slice none 0 0, [], ⟨ph3, dr, dd, ⟨rfl, fun i => rfl, by simp, by simp⟩, (x1.trans x2').trans x3, hc0⟩, rfl, rfl, Nat.le_refl _⟩
      obtain ⟨h4, e⟩ := rounds3 k (k + 2000) (fun x10 h => some (x10, h)) (fun h => MailD3.p3arrrrr (callB Try.prog 0 [9] (k + 2000)) (k + 2000) h fun x10 h => some (x10, h)) sl hl (fun x hx => act_small (hO x hx) (hB x hx)) fr la l.length 0 (k + 2000) h3 _ _ (by omega) (by omega) pq
      refine ⟨h4, ?_⟩
      simp only [MailD3.F3, MailD3.p3a, MailD3.p3al, MailD3.p3ar, MailD3.p3arl, e8, bnd2_some, toBK_bool, cond_false, MailD3.p3arr, MailD3.p3arrl, e10, e11, MailD3.p3arrr, MailD3.p3arrrl, MailD3.p3arrrll, bin25, bin27, bnd_some, MailD3.p3arrrlr, condV_bool, MailD3.p3arrrr, MailD3.p3arrrrl, MailD3.p3arrrrll, MailD3.p3arrrrlr, MailD3.p3arrrrlrb]
      refine Eq.trans e ?_
      simp only [MailD3.p3arrrrr, aw, bnd2_some, toBK_bool]
    · have e10 := T10n (k + 1999) h1 hw
      have e10 : callB Try.prog 0 [9] (k + 2000) 10 [.int .i64 w, .int .i64 m] h1 = _ := e10
      have e11 := T11n (k + 1999) h1 hw
      have e11 : callB Try.prog 0 [9] (k + 2000) 11 [.int .i64 w, .int .i64 m] h1 = _ := e11
      have n25 : A.bin Try.prog .eql 25 (.pointer none) (.pointer none) = some (.bool true) := by kernel_rfl
      have n27 : A.bin Try.prog .eql 27 (.pointer none) (.pointer none) = some (.bool true) := by kernel_rfl
      refine ⟨h1, ?_⟩
      simp only [MailD3.F3, MailD3.p3a, MailD3.p3al, MailD3.p3ar, MailD3.p3arl, e8, bnd2_some, toBK_bool, cond_false, MailD3.p3arr, MailD3.p3arrl, e10, e11, MailD3.p3arrr, MailD3.p3arrrl, MailD3.p3arrrll, n25, n27, bnd_some, MailD3.p3arrrlr, condV_bool, cond_true, aw]
end Go.Proofs.Ytdjhkdogpbiglaa.MailD
