/-
  Mail: what commands hold, as data; where their memory lies.
-/
import Derived.Test.YtdjhkdogpbiglaaMailCH
import Derived.Test.YtdjhkdogpbiglaaMailD7
namespace Go.Proofs.Ytdjhkdogpbiglaa.MailD
open Go Go.AM

/-! Data. -/
structure MsD where
  t : ByteArray
  p : ByteArray
  q : Int
  r : Bool
def MsD.cells (m : MsD) : List Value := [.string m.t, .string m.p, .int .u8 m.q, .bool m.r]
abbrev SbD := ByteArray × Int
def sbC (x : SbD) : List Value := [.string x.1, .int .u8 x.2]
def txC (x : ByteArray) : List Value := [.string x]
structure PkD where
  f : PkF
  subs : List SbD
def PkD.cells (p : PkD) (w : Value) : List Value := ({ p.f with w := w } : PkF).cells
structure ItD where
  kd : Int
  op : Int
  cn : Int
  s3 : ByteArray
  s4 : ByteArray
  pk : PkD
  ms : MsD
  mss : List MsD
  cls : List ByteArray
  pks : List PkD
  fr : Int
  mn : Int
def ItD.cells (x : ItD) (w22 w33 w34 w35 : Value) : List Value :=
  [.int .u8 x.kd, .int .i64 x.op, .int .i64 x.cn, .string x.s3, .string x.s4] ++ x.pk.cells w22 ++ [.string x.ms.t, .string x.ms.p, .int .u8 x.ms.q, .bool x.ms.r, w33, w34, w35, .int .i64 x.fr, .int .i64 x.mn]

/-! Rows held against each other, place by place. -/
def All2 {α β : Type} (R : α → β → Prop) (a : List α) (b : List β) : Prop := a.length = b.length ∧ ∀ (i : Nat) (x : α) (y : β), a[i]? = some x → b[i]? = some y → R x y

theorem All2.mono {α β : Type} {R S : α → β → Prop} (h : ∀ x y, R x y → S x y) {a : List α} {b : List β} (x : All2 R a b) : All2 S a b := ⟨x.1, fun i u v hu hv => h _ _ (x.2 i u v hu hv)⟩
theorem All2.nil {α β : Type} {R : α → β → Prop} : All2 R [] [] := ⟨rfl, fun i x y hx => by simp at hx⟩
theorem All2.cons {α β : Type} {R : α → β → Prop} {x : α} {y : β} {a : List α} {b : List β} (h : R x y) (t : All2 R a b) : All2 R (x :: a) (y :: b) := ⟨by simp [t.1], fun i u v hu hv => by
  cases i with
  | zero => simp at hu hv; subst hu; subst hv; exact h
  | succ i => exact t.2 i u v (by simpa using hu) (by simpa using hv)⟩
theorem All2.of {α β : Type} {R : α → β → Prop} : ∀ (a : List α), (∀ x ∈ a, ∃ y, R x y) → ∃ b, All2 R a b
  | [], _ => ⟨[], .nil⟩
  | x :: a, h => by
    obtain ⟨y, hy⟩ := h x (by simp)
    obtain ⟨b, hb⟩ := All2.of a fun z hz => h z (by simp [hz])
    exact ⟨y :: b, .cons hy hb⟩
theorem map_of {α β : Type} {g : β → α} : ∀ (a : List α), (∀ x ∈ a, ∃ y, x = g y) → ∃ b : List β, a = b.map g
  | [], _ => ⟨[], rfl⟩
  | x :: a, h => by
    obtain ⟨y, rfl⟩ := h x (by simp)
    obtain ⟨b, rfl⟩ := map_of a fun z hz => h z (by simp [hz])
    exact ⟨y :: b, rfl⟩
theorem All2.at {α β : Type} {R : α → β → Prop} {a : List α} {b : List β} (x : All2 R a b) {i : Nat} {u : α} (hu : a[i]? = some u) : ∃ v, b[i]? = some v ∧ R u v := by
  have hlt := (List.getElem?_eq_some_iff.1 hu).1
  have hb : i < b.length := by have := x.1; omega
  exact ⟨b[i], List.getElem?_eq_getElem hb, x.2 i u b[i] hu (List.getElem?_eq_getElem hb)⟩
theorem All2.at2 {α β : Type} {R : α → β → Prop} {a : List α} {b : List β} (x : All2 R a b) {i : Nat} {v : β} (hv : b[i]? = some v) : ∃ u, a[i]? = some u ∧ R u v := by
  have hlt := (List.getElem?_eq_some_iff.1 hv).1
  have ha : i < a.length := by have := x.1; omega
  exact ⟨a[i], List.getElem?_eq_getElem ha, x.2 i a[i] v (List.getElem?_eq_getElem ha) hv⟩
theorem All2.refl {α : Type} {R : α → α → Prop} (h : ∀ x, R x x) (a : List α) : All2 R a a := ⟨rfl, fun i x y hx hy => by rw [hx] at hy; obtain rfl := Option.some.inj hy; exact h _⟩
theorem All2.symm {α : Type} {R : α → α → Prop} (h : ∀ x y, R x y → R y x) {a b : List α} (x : All2 R a b) : All2 R b a := ⟨x.1.symm, fun i u v hu hv => h _ _ (x.2 i v u hv hu)⟩

/-! The same. -/
def SameP (p q : PkD) : Prop := (p.f.i 0 = q.f.i 0 ∧ p.f.b 1 = q.f.b 1 ∧ p.f.i 2 = q.f.i 2 ∧ p.f.b 3 = q.f.b 3 ∧ p.f.i 4 = q.f.i 4 ∧ p.f.s 5 = q.f.s 5 ∧ p.f.s 6 = q.f.s 6 ∧ p.f.i 7 = q.f.i 7 ∧ p.f.b 8 = q.f.b 8 ∧ p.f.i 9 = q.f.i 9 ∧ p.f.s 10 = q.f.s 10 ∧ p.f.b 11 = q.f.b 11 ∧
  p.f.s 12 = q.f.s 12 ∧ p.f.s 13 = q.f.s 13 ∧ p.f.i 14 = q.f.i 14 ∧ p.f.b 15 = q.f.b 15 ∧ p.f.b 16 = q.f.b 16 ∧ p.f.b 17 = q.f.b 17 ∧ p.f.s 18 = q.f.s 18 ∧ p.f.s 19 = q.f.s 19 ∧ p.f.b 20 = q.f.b 20 ∧ p.f.i 21 = q.f.i 21 ∧ p.f.s 23 = q.f.s 23) ∧ p.subs = q.subs
def SameI (x y : ItD) : Prop := x.kd = y.kd ∧ x.op = y.op ∧ x.cn = y.cn ∧ x.s3 = y.s3 ∧ x.s4 = y.s4 ∧ SameP x.pk y.pk ∧ x.ms = y.ms ∧ x.mss = y.mss ∧ x.cls = y.cls ∧ All2 SameP x.pks y.pks ∧ x.fr = y.fr ∧ x.mn = y.mn
def SameC (a b : List ItD) : Prop := All2 SameI a b
theorem SameP.rfl (p : PkD) : SameP p p := by simp [SameP]
theorem SameP.symm {p q : PkD} (h : SameP p q) : SameP q p := by
  unfold SameP at h ⊢
  simp only [h.1, h.2, and_self]
theorem SameI.rfl (x : ItD) : SameI x x := by simp [SameI, SameP.rfl, All2.refl SameP.rfl]
theorem SameI.symm {x y : ItD} (h : SameI x y) : SameI y x := by
  obtain ⟨h0, h1, h2, h3, h4, h5, h6, h7, h8, h9, h10, h11⟩ := h
  exact ⟨h0.symm, h1.symm, h2.symm, h3.symm, h4.symm, h5.symm, h6.symm, h7.symm, h8.symm, h9.symm fun _ _ => SameP.symm, h10.symm, h11.symm⟩
theorem SameC.rfl (a : List ItD) : SameC a a := All2.refl SameI.rfl a
theorem SameC.symm {a b : List ItD} (h : SameC a b) : SameC b a := All2.symm (fun _ _ => SameI.symm) h
open Classical in
noncomputable instance (p q : PkD) : Decidable (SameP p q) := propDecidable _
open Classical in
noncomputable instance (p q : ItD) : Decidable (SameI p q) := propDecidable _
open Classical in
noncomputable instance (p q : List ItD) : Decidable (SameC p q) := propDecidable _
open Classical in
noncomputable instance {α β : Type} (R : α → β → Prop) (p : List α) (q : List β) : Decidable (All2 R p q) := propDecidable _
open Classical in
noncomputable instance (p q : MsD) : Decidable (p = q) := propDecidable _

/-! Memory. W: what a slice's memory is like. -/
abbrev SW := Nat → H → Value → List (List Value) → Prop
def PkIn (W : SW) (h : H) (x : List Value) (p : PkD) : Prop := ∃ w, x = p.cells w ∧ W 2 h w (p.subs.map sbC)
def ItIn (W : SW) (h : H) (x : List Value) (t : ItD) : Prop := ∃ w22 w33 w34 w35 e35, x = t.cells w22 w33 w34 w35 ∧ W 2 h w22 (t.pk.subs.map sbC) ∧ W 4 h w33 (t.mss.map MsD.cells) ∧ W 1 h w34 (t.cls.map txC) ∧ W 24 h w35 e35 ∧ All2 (PkIn W h) e35 t.pks
def CmdIn (W : SW) (h : H) (v : Value) (c : List ItD) : Prop := ∃ els, W 38 h v els ∧ All2 (ItIn W h) els c

theorem PkIn.map {W W' : SW} {h h' : H} (f : ∀ n v els, W n h v els → W' n h' v els) {x : List Value} {p : PkD} : PkIn W h x p → PkIn W' h' x p
  | ⟨w, e, s⟩ => ⟨w, e, f _ _ _ s⟩
theorem ItIn.map {W W' : SW} {h h' : H} (f : ∀ n v els, W n h v els → W' n h' v els) {x : List Value} {p : ItD} : ItIn W h x p → ItIn W' h' x p
  | ⟨w22, w33, w34, w35, e35, e, s22, s33, s34, s35, a⟩ => ⟨w22, w33, w34, w35, e35, e, f _ _ _ s22, f _ _ _ s33, f _ _ _ s34, f _ _ _ s35, a.mono fun _ _ => PkIn.map f⟩
theorem CmdIn.map {W W' : SW} {h h' : H} (f : ∀ n v els, W n h v els → W' n h' v els) {v : Value} {c : List ItD} : CmdIn W h v c → CmdIn W' h' v c
  | ⟨els, s, a⟩ => ⟨els, f _ _ _ s, a.mono fun _ _ => ItIn.map f⟩
theorem CmdIn.ext {h h' : H} {v : Value} {c : List ItD} (x : CmdIn SliceE h v c) (e : Ext h h') : CmdIn SliceE h' v c := x.map fun _ _ _ s => s.ext e

/-- Memory of blocks of a kind, that may be written. -/
def OwnW (S : Nat → Prop) : SW := fun n h v els => SliceE n h v els ∧ (∀ i, sid v = some i → S i) ∧ (els ≠ [] → ∃ q c, v = .slice (some ⟨q, 0, none⟩) els.length c ∧ h.get q = some (.cells els.flatten (some n)))
theorem OwnW.slice {S : Nat → Prop} {n : Nat} {h : H} {v : Value} {els : List (List Value)} (x : OwnW S n h v els) : SliceE n h v els := x.1
theorem OwnW.extBut {S T : Nat → Prop} {n : Nat} {h h' : H} {v : Value} {els : List (List Value)} (x : OwnW S n h v els) (e : ExtBut T h h') (hs : ∀ i, S i → ¬ T i) : OwnW S n h' v els := by
  refine ⟨x.1.extBut e fun i hi => hs i (x.2.1 i hi), x.2.1, fun hne => ?_⟩
  obtain ⟨q, c, hv, hg⟩ := x.2.2 hne
  have hq : sid v = some q := by rw [hv]; rfl
  exact ⟨q, c, hv, by rw [e.get q (x.1.sid_lt q hq) (hs q (x.2.1 q hq))]; exact hg⟩
theorem OwnW.ext {S : Nat → Prop} {n : Nat} {h h' : H} {v : Value} {els : List (List Value)} (x : OwnW S n h v els) (e : Ext h h') : OwnW S n h' v els := x.extBut (T := fun _ => False) e.but (fun _ _ h => h)
theorem OwnW.mono {S T : Nat → Prop} (hs : ∀ i, S i → T i) {n : Nat} {h : H} {v : Value} {els : List (List Value)} (x : OwnW S n h v els) : OwnW T n h v els := ⟨x.1, fun i hi => hs i (x.2.1 i hi), x.2.2⟩
theorem OwnW.nil (S : Nat → Prop) (n : Nat) (h : H) : OwnW S n h (.slice none 0 0) [] := ⟨⟨by simp, .inl ⟨rfl, rfl⟩⟩, fun i hi => by simp [sid] at hi, fun h => absurd rfl h⟩
/-- A slice that grew. -/
theorem OwnW.vec {S : Nat → Prop} {n : Nat} {h : H} {v : Value} {els : List (List Value)} (x : Vec n h v els) (hs : ∀ i, sid v = some i → S i) : OwnW S n h v els := by
  refine ⟨x.slice, hs, fun hne => ?_⟩
  rcases x.2 with ⟨_, rfl⟩ | ⟨q, hv, _, hg⟩
  · exact absurd rfl hne
  · exact ⟨q, _, hv, hg⟩

/-! Bounds. -/
def PkD.Small (p : PkD) : Prop := p.subs.length ≤ 100
def ItD.Small (x : ItD) : Prop := x.pk.Small ∧ x.mss.length ≤ 20 ∧ x.cls.length ≤ 20 ∧ x.pks.length ≤ 20 ∧ ∀ p ∈ x.pks, p.Small
def SmallC (c : List ItD) : Prop := c.length ≤ 20 ∧ ∀ x ∈ c, x.Small

/-! What is handed in, opened. -/
theorem packet_openD {h : H} {cs : List Value} (ty : Ty Try.prog h 66 cs) : ∃ p, PkIn SliceE h cs p := by
  have pl := ty.fields Try.underlying66
  simp only [TyFs] at pl
  obtain ⟨_, _, rfl, p0, ⟨_, _, rfl, p1, ⟨_, _, rfl, p2, ⟨_, _, rfl, p3, ⟨_, _, rfl, p4, ⟨_, _, rfl, p5, ⟨_, _, rfl, p6, ⟨_, _, rfl, p7, ⟨_, _, rfl, p8, ⟨_, _, rfl, p9, ⟨_, _, rfl, p10, ⟨_, _, rfl, p11, ⟨_, _, rfl, p12, ⟨_, _, rfl, p13, ⟨_, _, rfl, p14, ⟨_, _, rfl, p15, ⟨_, _, rfl, p16, ⟨_, _, rfl, p17, ⟨_, _, rfl, p18, ⟨_, _, rfl, p19, ⟨_, _, rfl, p20, rfl⟩⟩⟩⟩⟩⟩⟩⟩⟩⟩⟩⟩⟩⟩⟩⟩⟩⟩⟩⟩⟩ := pl
  obtain ⟨a4, rfl, _⟩ := p0.int_inv Try.underlying5
  obtain ⟨a5, rfl⟩ := p1.bool_inv Try.underlying4
  obtain ⟨a6, rfl, _⟩ := p2.int_inv Try.underlying5
  obtain ⟨a7, rfl⟩ := p3.bool_inv Try.underlying4
  obtain ⟨a8, rfl, _⟩ := p4.int_inv Try.underlying61
  obtain ⟨a9, rfl, _⟩ := p5.str_inv Try.underlying9
  obtain ⟨a10, rfl, _⟩ := p6.str_inv Try.underlying9
  obtain ⟨a11, rfl, _⟩ := p7.int_inv Try.underlying5
  obtain ⟨a12, rfl⟩ := p8.bool_inv Try.underlying4
  obtain ⟨a13, rfl, _⟩ := p9.int_inv Try.underlying61
  obtain ⟨a14, rfl, _⟩ := p10.str_inv Try.underlying9
  obtain ⟨a15, rfl⟩ := p11.bool_inv Try.underlying4
  obtain ⟨a20, rfl⟩ := p13.bool_inv Try.underlying4
  obtain ⟨a21, rfl⟩ := p14.bool_inv Try.underlying4
  obtain ⟨a22, rfl, _⟩ := p15.str_inv Try.underlying9
  obtain ⟨a23, rfl, _⟩ := p16.str_inv Try.underlying9
  obtain ⟨a24, rfl⟩ := p17.bool_inv Try.underlying4
  obtain ⟨a25, rfl, _⟩ := p18.int_inv Try.underlying5
  obtain ⟨a27, rfl, _⟩ := p20.str_inv Try.underlying9
  obtain ⟨w, els, rfl, hs, hm, he⟩ := p19.slice_inv Try.underlying64
  have wl := p12.fields Try.underlying63
  simp only [TyFs] at wl
  obtain ⟨_, _, rfl, q0, ⟨_, _, rfl, q1, ⟨_, _, rfl, q2, ⟨_, _, rfl, q3, rfl⟩⟩⟩⟩ := wl
  obtain ⟨a16, rfl, _⟩ := q0.str_inv Try.underlying9
  obtain ⟨a17, rfl, _⟩ := q1.str_inv Try.underlying9
  obtain ⟨a18, rfl, _⟩ := q2.int_inv Try.underlying5
  obtain ⟨a19, rfl⟩ := q3.bool_inv Try.underlying4
  obtain ⟨subs, rfl⟩ := map_of (g := sbC) els fun x hx => by
    have xl := (he x hx).fields Try.underlying75
    simp only [TyFs] at xl
    obtain ⟨_, _, rfl, x0, ⟨_, _, rfl, x1, rfl⟩⟩ := xl
    obtain ⟨b0, rfl, _⟩ := x0.str_inv Try.underlying9
    obtain ⟨b1, rfl, _⟩ := x1.int_inv Try.underlying5
    exact ⟨(b0, b1), rfl⟩
  exact ⟨⟨⟨fun k => match k with | 0 => a4 | 2 => a6 | 4 => a8 | 7 => a11 | 9 => a13 | 14 => a18 | 21 => a25 | _ => 0, fun k => match k with | 5 => a9 | 6 => a10 | 10 => a14 | 12 => a16 | 13 => a17 | 18 => a22 | 19 => a23 | 23 => a27 | _ => .empty, fun k => match k with | 1 => a5 | 3 => a7 | 8 => a12 | 11 => a15 | 15 => a19 | 16 => a20 | 17 => a21 | 20 => a24 | _ => false, w⟩, subs⟩, w, rfl, hs⟩

theorem item_openD {h : H} {cs : List Value} (ty : Ty Try.prog h 71 cs) : ∃ x, ItIn SliceE h cs x := by
  have pl := ty.fields Try.underlying71
  simp only [TyFs] at pl
  obtain ⟨_, _, rfl, p0, ⟨_, _, rfl, p1, ⟨_, _, rfl, p2, ⟨_, _, rfl, p3, ⟨_, _, rfl, p4, ⟨_, _, rfl, p5, ⟨_, _, rfl, p6, ⟨_, _, rfl, p7, ⟨_, _, rfl, p8, ⟨_, _, rfl, p9, ⟨_, _, rfl, p10, ⟨_, _, rfl, p11, rfl⟩⟩⟩⟩⟩⟩⟩⟩⟩⟩⟩⟩ := pl
  obtain ⟨a0, rfl, _⟩ := p0.int_inv Try.underlying5
  obtain ⟨a1, rfl, _⟩ := p1.int_inv Try.underlying3
  obtain ⟨a2, rfl, _⟩ := p2.int_inv Try.underlying3
  obtain ⟨a3, rfl, _⟩ := p3.str_inv Try.underlying9
  obtain ⟨a4, rfl, _⟩ := p4.str_inv Try.underlying9
  obtain ⟨pk, w22, rfl, s22⟩ := packet_openD p5
  obtain ⟨w33, e33, rfl, s33, _, t33⟩ := p7.slice_inv Try.underlying67
  obtain ⟨w34, e34, rfl, s34, _, t34⟩ := p8.slice_inv Try.underlying68
  obtain ⟨w35, e35, rfl, s35, _, t35⟩ := p9.slice_inv Try.underlying69
  obtain ⟨a36, rfl, _⟩ := p10.int_inv Try.underlying3
  obtain ⟨a37, rfl, _⟩ := p11.int_inv Try.underlying3
  have ms : ∀ {x : List Value}, Ty Try.prog h 63 x → ∃ m : MsD, x = m.cells := fun {x} tx => by
    have xl := tx.fields Try.underlying63
    simp only [TyFs] at xl
    obtain ⟨_, _, rfl, x0, ⟨_, _, rfl, x1, ⟨_, _, rfl, x2, ⟨_, _, rfl, x3, rfl⟩⟩⟩⟩ := xl
    obtain ⟨y0, rfl, _⟩ := x0.str_inv Try.underlying9
    obtain ⟨y1, rfl, _⟩ := x1.str_inv Try.underlying9
    obtain ⟨y2, rfl, _⟩ := x2.int_inv Try.underlying5
    obtain ⟨y3, rfl⟩ := x3.bool_inv Try.underlying4
    exact ⟨⟨y0, y1, y2, y3⟩, rfl⟩
  obtain ⟨m, rfl⟩ := ms p6
  obtain ⟨mss, rfl⟩ := map_of (g := MsD.cells) e33 fun x hx => ms (t33 x hx)
  obtain ⟨cls, rfl⟩ := map_of (g := txC) e34 fun x hx => by
    obtain ⟨y0, e, _⟩ := (t34 x hx).str_inv Try.underlying9
    exact ⟨y0, e⟩
  obtain ⟨pks, hp⟩ := All2.of (R := PkIn SliceE h) e35 fun x hx => packet_openD (t35 x hx)
  have c63 : Try.prog.cellsOf 63 = 4 := by kernel_rfl
  have c9 : Try.prog.cellsOf 9 = 1 := by kernel_rfl
  have c66 : Try.prog.cellsOf 66 = 24 := by kernel_rfl
  rw [c63] at s33
  rw [c9] at s34
  rw [c66] at s35
  exact ⟨⟨a0, a1, a2, a3, a4, pk, m, mss, cls, pks, a36, a37⟩, w22, w33, w34, w35, e35, rfl, s22, s33, s34, s35, hp⟩

/-! Elements of one slice are what they are. -/
theorem SliceE.inj {n : Nat} {h : H} {v : Value} {a b : List (List Value)} (x : SliceE n h v a) (y : SliceE n h v b) : a = b := by
  have hl : a.length = b.length := by
    have e1 := x.len.2
    have e2 := y.len.2
    omega
  apply List.ext_getElem?
  intro i
  by_cases hi : i < a.length
  · have hb : i < b.length := by omega
    rw [List.getElem?_eq_getElem hi, List.getElem?_eq_getElem hb]
    obtain ⟨id, off, cells, own, e1, _, e3, _, e5, _⟩ := x.at (List.getElem?_eq_getElem hi) .i64
    obtain ⟨id', off', cells', own', e1', _, e3', _, e5', _⟩ := y.at (List.getElem?_eq_getElem hb) .i64
    rw [e1] at e1'
    injection e1' with e1'; injection e1' with e1'; injection e1' with e1'; injection e1' with h1 h2 _
    subst h1; subst h2
    rw [e3] at e3'
    injection e3' with e3'; injection e3' with h3 h4
    subst h3
    rw [← e5, e5']
  · rw [List.getElem?_eq_none_iff.2 (by omega), List.getElem?_eq_none_iff.2 (by omega)]

theorem small_of {h : H} {x : List Value} {t : ItD} (i : ItIn SliceE h x t) (b : ItB h x) : t.Small := by
  obtain ⟨w22, w33, w34, w35, e35, rfl, s22, s33, s34, s35, ap⟩ := i
  obtain ⟨k, op, cn, s3, s4, f, s29, s30, q, r, v33, v34, v35, fr, mn, e22, e33, e34, e35', R, l22, l33, l34, l35, hp⟩ := b
  have E := R.eq
  have g : ∀ j : Nat, (t.cells w22 w33 w34 w35)[j]? = ([k, op, cn, .string s3, .string s4] ++ f.cells ++ [.string s29, .string s30, q, r, v33, v34, v35, fr, mn])[j]? := fun j => by rw [E]
  have g27 : w22 = f.w := Option.some.inj (g 27)
  have g33 : w33 = v33 := Option.some.inj (g 33)
  have g34 : w34 = v34 := Option.some.inj (g 34)
  have g35 : w35 = v35 := Option.some.inj (g 35)
  subst g33; subst g34; subst g35
  have i22 := SliceE.inj s22 (g27 ▸ R.s22)
  have i33 := SliceE.inj s33 R.s33
  have i34 := SliceE.inj s34 R.s34
  have i35 := SliceE.inj s35 R.s35
  subst i35
  refine ⟨?_, ?_, ?_, ?_, fun p hp' => ?_⟩
  · show t.pk.subs.length ≤ 100
    have : (t.pk.subs.map sbC).length = e22.length := by rw [i22]
    simp at this; omega
  · have : (t.mss.map MsD.cells).length = e33.length := by rw [i33]
    simp at this; omega
  · have : (t.cls.map txC).length = e34.length := by rw [i34]
    simp at this; omega
  · have := ap.1; omega
  · obtain ⟨j, hj⟩ := List.mem_iff_getElem?.1 hp'
    obtain ⟨y, hy, w, rfl, sw⟩ := ap.at2 hj
    obtain ⟨f', els, e', sw', _, hl⟩ := hp _ (List.mem_of_getElem? hy)
    have gw : w = f'.w := by
      have : (p.cells w)[22]? = f'.cells[22]? := by rw [e']
      exact Option.some.inj this
    subst gw
    have := SliceE.inj sw sw'
    have : (p.subs.map sbC).length = els.length := by rw [this]
    simp at this
    show p.subs.length ≤ 100
    omega
end Go.Proofs.Ytdjhkdogpbiglaa.MailD
