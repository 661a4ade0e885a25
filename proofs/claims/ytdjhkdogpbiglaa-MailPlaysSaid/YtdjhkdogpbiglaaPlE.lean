import Derived.Test.YtdjhkdogpbiglaaPlG
import Derived.Test.YtdjhkdogpbiglaaPlDb
import Derived.Test.YtdjhkdogpbiglaaProg
import Derived.Test.YtdjhkdogpbiglaaAmDec
namespace Go.Proofs.Ytdjhkdogpbiglaa.MailD
open Go Go.AM
structure MsD where
  t : ByteArray
  p : ByteArray
  q : Int
  r : Bool
def MsD.cells (m : MsD) : List Value := [.string m.t, .string m.p, .int .u8 m.q, .bool m.r]
abbrev SbD := ByteArray × Int
def sbC (x : SbD) : List Value := [.string x.1, .int .u8 x.2]
def txC (x : ByteArray) : List Value := [.string x]
structure PkD where
  f : PkF
  subs : List SbD
def PkD.cells (p : PkD) (w : Value) : List Value := ({ p.f with w := w } : PkF).cells
structure ItD where
  kd : Int
  op : Int
  cn : Int
  s3 : ByteArray
  s4 : ByteArray
  pk : PkD
  ms : MsD
  mss : List MsD
  cls : List ByteArray
  pks : List PkD
  fr : Int
  mn : Int
def ItD.cells (x : ItD) (w22 w33 w34 w35 : Value) : List Value :=
  [.int .u8 x.kd, .int .i64 x.op, .int .i64 x.cn, .string x.s3, .string x.s4] ++ x.pk.cells w22 ++ [.string x.ms.t, .string x.ms.p, .int .u8 x.ms.q, .bool x.ms.r, w33, w34, w35, .int .i64 x.fr, .int .i64 x.mn]
def All2 {α β : Type} (R : α → β → Prop) (a : List α) (b : List β) : Prop := a.length = b.length ∧ ∀ (i : Nat) (x : α) (y : β), a[i]? = some x → b[i]? = some y → R x y
theorem All2.mono {α β : Type} {R S : α → β → Prop} (h : ∀ x y, R x y → S x y) {a : List α} {b : List β} (x : All2 R a b) : All2 S a b := ⟨x.1, fun i u v hu hv => h _ _ (x.2 i u v hu hv)⟩
theorem All2.nil {α β : Type} {R : α → β → Prop} : All2 R [] [] := ⟨rfl, fun i x y hx => by simp at hx⟩
theorem All2.cons {α β : Type} {R : α → β → Prop} {x : α} {y : β} {a : List α} {b : List β} (h : R x y) (t : All2 R a b) : All2 R (x :: a) (y :: b) := ⟨by simp [t.1], fun i u v hu hv => by
  cases i with
  | zero => simp at hu hv; subst hu; subst hv; exact h
  | succ i => exact t.2 i u v (by simpa using hu) (by simpa using hv)⟩
theorem All2.of {α β : Type} {R : α → β → Prop} : ∀ (a : List α), (∀ x ∈ a, ∃ y, R x y) → ∃ b, All2 R a b
  | [], _ => ⟨[], .nil⟩
  | x :: a, h => by
    obtain ⟨y, hy⟩ := h x (by simp)
    obtain ⟨b, hb⟩ := All2.of a fun z hz => h z (by simp [hz])
    exact ⟨y :: b, .cons hy hb⟩
theorem map_of {α β : Type} {g : β → α} : ∀ (a : List α), (∀ x ∈ a, ∃ y, x = g y) → ∃ b : List β, a = b.map g
  | [], _ => ⟨[], rfl⟩
  | x :: a, h => by
    obtain ⟨y, rfl⟩ := h x (by simp)
    obtain ⟨b, rfl⟩ := map_of a fun z hz => h z (by simp [hz])
    exact ⟨y :: b, rfl⟩
theorem All2.at {α β : Type} {R : α → β → Prop} {a : List α} {b : List β} (x : All2 R a b) {i : Nat} {u : α} (hu : a[i]? = some u) : ∃ v, b[i]? = some v ∧ R u v := by
  have hlt := (List.getElem?_eq_some_iff.1 hu).1
  have hb : i < b.length := by have := x.1; omega
  exact ⟨b[i], List.getElem?_eq_getElem hb, x.2 i u b[i] hu (List.getElem?_eq_getElem hb)⟩
theorem All2.at2 {α β : Type} {R : α → β → Prop} {a : List α} {b : List β} (x : All2 R a b) {i : Nat} {v : β} (hv : b[i]? = some v) : ∃ u, a[i]? = some u ∧ R u v := by
  have hlt := (List.getElem?_eq_some_iff.1 hv).1
  have ha : i < a.length := by have := x.1; omega
  exact ⟨a[i], List.getElem?_eq_getElem ha, x.2 i a[i] v (List.getElem?_eq_getElem ha) hv⟩
theorem All2.refl {α : Type} {R : α → α → Prop} (h : ∀ x, R x x) (a : List α) : All2 R a a := ⟨rfl, fun i x y hx hy => by rw [hx] at hy; obtain rfl := Option.some.inj hy; exact h _⟩
theorem All2.symm {α : Type} {R : α → α → Prop} (h : ∀ x y, R x y → R y x) {a b : List α} (x : All2 R a b) : All2 R b a := ⟨x.1.symm, fun i u v hu hv => h _ _ (x.2 i v u hv hu)⟩
def SameP (p q : PkD) : Prop := (p.f.i 0 = q.f.i 0 ∧ p.f.b 1 = q.f.b 1 ∧ p.f.i 2 = q.f.i 2 ∧ p.f.b 3 = q.f.b 3 ∧ p.f.i 4 = q.f.i 4 ∧ p.f.s 5 = q.f.s 5 ∧ p.f.s 6 = q.f.s 6 ∧ p.f.i 7 = q.f.i 7 ∧ p.f.b 8 = q.f.b 8 ∧ p.f.i 9 = q.f.i 9 ∧ p.f.s 10 = q.f.s 10 ∧ p.f.b 11 = q.f.b 11 ∧
  p.f.s 12 = q.f.s 12 ∧ p.f.s 13 = q.f.s 13 ∧ p.f.i 14 = q.f.i 14 ∧ p.f.b 15 = q.f.b 15 ∧ p.f.b 16 = q.f.b 16 ∧ p.f.b 17 = q.f.b 17 ∧ p.f.s 18 = q.f.s 18 ∧ p.f.s 19 = q.f.s 19 ∧ p.f.b 20 = q.f.b 20 ∧ p.f.i 21 = q.f.i 21 ∧ p.f.s 23 = q.f.s 23) ∧ p.subs = q.subs
def SameI (x y : ItD) : Prop := x.kd = y.kd ∧ x.op = y.op ∧ x.cn = y.cn ∧ x.s3 = y.s3 ∧ x.s4 = y.s4 ∧ SameP x.pk y.pk ∧ x.ms = y.ms ∧ x.mss = y.mss ∧ x.cls = y.cls ∧ All2 SameP x.pks y.pks ∧ x.fr = y.fr ∧ x.mn = y.mn
def SameC (a b : List ItD) : Prop := All2 SameI a b
theorem SameP.rfl (p : PkD) : SameP p p := by simp [SameP]
theorem SameP.symm {p q : PkD} (h : SameP p q) : SameP q p := by
  unfold SameP at h ⊢
  simp only [h.1, h.2, and_self]
theorem SameI.rfl (x : ItD) : SameI x x := by simp [SameI, SameP.rfl, All2.refl SameP.rfl]
theorem SameI.symm {x y : ItD} (h : SameI x y) : SameI y x := by
  obtain ⟨h0, h1, h2, h3, h4, h5, h6, h7, h8, h9, h10, h11⟩ := h
  exact ⟨h0.symm, h1.symm, h2.symm, h3.symm, h4.symm, h5.symm, h6.symm, h7.symm, h8.symm, h9.symm fun _ _ => SameP.symm, h10.symm, h11.symm⟩
theorem SameC.rfl (a : List ItD) : SameC a a := All2.refl SameI.rfl a
theorem SameC.symm {a b : List ItD} (h : SameC a b) : SameC b a := All2.symm (fun _ _ => SameI.symm) h
open Classical in
noncomputable instance (p q : PkD) : Decidable (SameP p q) := propDecidable _
open Classical in
noncomputable instance (p q : ItD) : Decidable (SameI p q) := propDecidable _
open Classical in
noncomputable instance (p q : List ItD) : Decidable (SameC p q) := propDecidable _
open Classical in
noncomputable instance {α β : Type} (R : α → β → Prop) (p : List α) (q : List β) : Decidable (All2 R p q) := propDecidable _
open Classical in
noncomputable instance (p q : MsD) : Decidable (p = q) := propDecidable _
abbrev SW := Nat → H → Value → List (List Value) → Prop
def PkIn (W : SW) (h : H) (x : List Value) (p : PkD) : Prop := ∃ w, x = p.cells w ∧ W 2 h w (p.subs.map sbC)
def ItIn (W : SW) (h : H) (x : List Value) (t : ItD) : Prop := ∃ w22 w33 w34 w35 e35, x = t.cells w22 w33 w34 w35 ∧ W 2 h w22 (t.pk.subs.map sbC) ∧ W 4 h w33 (t.mss.map MsD.cells) ∧ W 1 h w34 (t.cls.map txC) ∧ W 24 h w35 e35 ∧ All2 (PkIn W h) e35 t.pks
def CmdIn (W : SW) (h : H) (v : Value) (c : List ItD) : Prop := ∃ els, W 38 h v els ∧ All2 (ItIn W h) els c
theorem PkIn.map {W W' : SW} {h h' : H} (f : ∀ n v els, W n h v els → W' n h' v els) {x : List Value} {p : PkD} : PkIn W h x p → PkIn W' h' x p
  | ⟨w, e, s⟩ => ⟨w, e, f _ _ _ s⟩
theorem ItIn.map {W W' : SW} {h h' : H} (f : ∀ n v els, W n h v els → W' n h' v els) {x : List Value} {p : ItD} : ItIn W h x p → ItIn W' h' x p
  | ⟨w22, w33, w34, w35, e35, e, s22, s33, s34, s35, a⟩ => ⟨w22, w33, w34, w35, e35, e, f _ _ _ s22, f _ _ _ s33, f _ _ _ s34, f _ _ _ s35, a.mono fun _ _ => PkIn.map f⟩
theorem CmdIn.map {W W' : SW} {h h' : H} (f : ∀ n v els, W n h v els → W' n h' v els) {v : Value} {c : List ItD} : CmdIn W h v c → CmdIn W' h' v c
  | ⟨els, s, a⟩ => ⟨els, f _ _ _ s, a.mono fun _ _ => ItIn.map f⟩
theorem CmdIn.ext {h h' : H} {v : Value} {c : List ItD} (x : CmdIn SliceE h v c) (e : Ext h h') : CmdIn SliceE h' v c := x.map fun _ _ _ s => s.ext e
/-- Memory of blocks of a kind, that may be written. -/
def OwnW (S : Nat → Prop) : SW := fun n h v els => SliceE n h v els ∧ (∀ i, sid v = some i → S i) ∧ (els ≠ [] → ∃ q c, v = .slice (some ⟨q, 0, none⟩) els.length c ∧ h.get q = some (.cells els.flatten (some n)))
theorem OwnW.slice {S : Nat → Prop} {n : Nat} {h : H} {v : Value} {els : List (List Value)} (x : OwnW S n h v els) : SliceE n h v els := x.1
theorem OwnW.extBut {S T : Nat → Prop} {n : Nat} {h h' : H} {v : Value} {els : List (List Value)} (x : OwnW S n h v els) (e : ExtBut T h h') (hs : ∀ i, S i → ¬ T i) : OwnW S n h' v els := by
  refine ⟨x.1.extBut e fun i hi => hs i (x.2.1 i hi), x.2.1, fun hne => ?_⟩
  obtain ⟨q, c, hv, hg⟩ := x.2.2 hne
  have hq : sid v = some q := by rw [hv]; rfl
  exact ⟨q, c, hv, by rw [e.get q (x.1.sid_lt q hq) (hs q (x.2.1 q hq))]; exact hg⟩
theorem OwnW.ext {S : Nat → Prop} {n : Nat} {h h' : H} {v : Value} {els : List (List Value)} (x : OwnW S n h v els) (e : Ext h h') : OwnW S n h' v els := x.extBut (T := fun _ => False) e.but (fun _ _ h => h)
theorem OwnW.mono {S T : Nat → Prop} (hs : ∀ i, S i → T i) {n : Nat} {h : H} {v : Value} {els : List (List Value)} (x : OwnW S n h v els) : OwnW T n h v els := ⟨x.1, fun i hi => hs i (x.2.1 i hi), x.2.2⟩
theorem OwnW.nil (S : Nat → Prop) (n : Nat) (h : H) : OwnW S n h (.slice none 0 0) [] := ⟨⟨by simp, .inl ⟨rfl, rfl⟩⟩, fun i hi => by simp [sid] at hi, fun h => absurd rfl h⟩
/-- A slice that grew. -/
theorem OwnW.vec {S : Nat → Prop} {n : Nat} {h : H} {v : Value} {els : List (List Value)} (x : Vec n h v els) (hs : ∀ i, sid v = some i → S i) : OwnW S n h v els := by
  refine ⟨x.slice, hs, fun hne => ?_⟩
  rcases x.2 with ⟨_, rfl⟩ | ⟨q, hv, _, hg⟩
  · exact absurd rfl hne
  · exact ⟨q, _, hv, hg⟩
def PkD.Small (p : PkD) : Prop := p.subs.length ≤ 100
def ItD.Small (x : ItD) : Prop := x.pk.Small ∧ x.mss.length ≤ 20 ∧ x.cls.length ≤ 20 ∧ x.pks.length ≤ 20 ∧ ∀ p ∈ x.pks, p.Small
def SmallC (c : List ItD) : Prop := c.length ≤ 20 ∧ ∀ x ∈ c, x.Small
theorem packet_openD {h : H} {cs : List Value} (ty : Ty Try.prog h 66 cs) : ∃ p, PkIn SliceE h cs p := by
  have pl := ty.fields Try.underlying66
  simp only [TyFs] at pl
  obtain ⟨_, _, rfl, p0, ⟨_, _, rfl, p1, ⟨_, _, rfl, p2, ⟨_, _, rfl, p3, ⟨_, _, rfl, p4, ⟨_, _, rfl, p5, ⟨_, _, rfl, p6, ⟨_, _, rfl, p7, ⟨_, _, rfl, p8, ⟨_, _, rfl, p9, ⟨_, _, rfl, p10, ⟨_, _, rfl, p11, ⟨_, _, rfl, p12, ⟨_, _, rfl, p13, ⟨_, _, rfl, p14, ⟨_, _, rfl, p15, ⟨_, _, rfl, p16, ⟨_, _, rfl, p17, ⟨_, _, rfl, p18, ⟨_, _, rfl, p19, ⟨_, _, rfl, p20, rfl⟩⟩⟩⟩⟩⟩⟩⟩⟩⟩⟩⟩⟩⟩⟩⟩⟩⟩⟩⟩⟩ := pl
  obtain ⟨a4, rfl, _⟩ := p0.int_inv Try.underlying5
  obtain ⟨a5, rfl⟩ := p1.bool_inv Try.underlying4
  obtain ⟨a6, rfl, _⟩ := p2.int_inv Try.underlying5
  obtain ⟨a7, rfl⟩ := p3.bool_inv Try.underlying4
  obtain ⟨a8, rfl, _⟩ := p4.int_inv Try.underlying61
  obtain ⟨a9, rfl, _⟩ := p5.str_inv Try.underlying9
  obtain ⟨a10, rfl, _⟩ := p6.str_inv Try.underlying9
  obtain ⟨a11, rfl, _⟩ := p7.int_inv Try.underlying5
  obtain ⟨a12, rfl⟩ := p8.bool_inv Try.underlying4
  obtain ⟨a13, rfl, _⟩ := p9.int_inv Try.underlying61
  obtain ⟨a14, rfl, _⟩ := p10.str_inv Try.underlying9
  obtain ⟨a15, rfl⟩ := p11.bool_inv Try.underlying4
  obtain ⟨a20, rfl⟩ := p13.bool_inv Try.underlying4
  obtain ⟨a21, rfl⟩ := p14.bool_inv Try.underlying4
  obtain ⟨a22, rfl, _⟩ := p15.str_inv Try.underlying9
  obtain ⟨a23, rfl, _⟩ := p16.str_inv Try.underlying9
  obtain ⟨a24, rfl⟩ := p17.bool_inv Try.underlying4
  obtain ⟨a25, rfl, _⟩ := p18.int_inv Try.underlying5
  obtain ⟨a27, rfl, _⟩ := p20.str_inv Try.underlying9
  obtain ⟨w, els, rfl, hs, hm, he⟩ := p19.slice_inv Try.underlying64
  have wl := p12.fields Try.underlying63
  simp only [TyFs] at wl
  obtain ⟨_, _, rfl, q0, ⟨_, _, rfl, q1, ⟨_, _, rfl, q2, ⟨_, _, rfl, q3, rfl⟩⟩⟩⟩ := wl
  obtain ⟨a16, rfl, _⟩ := q0.str_inv Try.underlying9
  obtain ⟨a17, rfl, _⟩ := q1.str_inv Try.underlying9
  obtain ⟨a18, rfl, _⟩ := q2.int_inv Try.underlying5
  obtain ⟨a19, rfl⟩ := q3.bool_inv Try.underlying4
  obtain ⟨subs, rfl⟩ := map_of (g := sbC) els fun x hx => by
    have xl := (he x hx).fields Try.underlying75
    simp only [TyFs] at xl
    obtain ⟨_, _, rfl, x0, ⟨_, _, rfl, x1, rfl⟩⟩ := xl
    obtain ⟨b0, rfl, _⟩ := x0.str_inv Try.underlying9
    obtain ⟨b1, rfl, _⟩ := x1.int_inv Try.underlying5
    exact ⟨(b0, b1), rfl⟩
  exact ⟨⟨⟨fun k => match k with | 0 => a4 | 2 => a6 | 4 => a8 | 7 => a11 | 9 => a13 | 14 => a18 | 21 => a25 | _ => 0, fun k => match k with | 5 => a9 | 6 => a10 | 10 => a14 | 12 => a16 | 13 => a17 | 18 => a22 | 19 => a23 | 23 => a27 | _ => .empty, fun k => match k with | 1 => a5 | 3 => a7 | 8 => a12 | 11 => a15 | 15 => a19 | 16 => a20 | 17 => a21 | 20 => a24 | _ => false, w⟩, subs⟩, w, rfl, hs⟩
theorem item_openD {h : H} {cs : List Value} (ty : Ty Try.prog h 71 cs) : ∃ x, ItIn SliceE h cs x := by
  have pl := ty.fields Try.underlying71
  simp only [TyFs] at pl
  obtain ⟨_, _, rfl, p0, ⟨_, _, rfl, p1, ⟨_, _, rfl, p2, ⟨_, _, rfl, p3, ⟨_, _, rfl, p4, ⟨_, _, rfl, p5, ⟨_, _, rfl, p6, ⟨_, _, rfl, p7, ⟨_, _, rfl, p8, ⟨_, _, rfl, p9, ⟨_, _, rfl, p10, ⟨_, _, rfl, p11, rfl⟩⟩⟩⟩⟩⟩⟩⟩⟩⟩⟩⟩ := pl
  obtain ⟨a0, rfl, _⟩ := p0.int_inv Try.underlying5
  obtain ⟨a1, rfl, _⟩ := p1.int_inv Try.underlying3
  obtain ⟨a2, rfl, _⟩ := p2.int_inv Try.underlying3
  obtain ⟨a3, rfl, _⟩ := p3.str_inv Try.underlying9
  obtain ⟨a4, rfl, _⟩ := p4.str_inv Try.underlying9
  obtain ⟨pk, w22, rfl, s22⟩ := packet_openD p5
  obtain ⟨w33, e33, rfl, s33, _, t33⟩ := p7.slice_inv Try.underlying67
  obtain ⟨w34, e34, rfl, s34, _, t34⟩ := p8.slice_inv Try.underlying68
  obtain ⟨w35, e35, rfl, s35, _, t35⟩ := p9.slice_inv Try.underlying69
  obtain ⟨a36, rfl, _⟩ := p10.int_inv Try.underlying3
  obtain ⟨a37, rfl, _⟩ := p11.int_inv Try.underlying3
  have ms : ∀ {x : List Value}, Ty Try.prog h 63 x → ∃ m : MsD, x = m.cells := fun {x} tx => by
    have xl := tx.fields Try.underlying63
    simp only [TyFs] at xl
    obtain ⟨_, _, rfl, x0, ⟨_, _, rfl, x1, ⟨_, _, rfl, x2, ⟨_, _, rfl, x3, rfl⟩⟩⟩⟩ := xl
    obtain ⟨y0, rfl, _⟩ := x0.str_inv Try.underlying9
    obtain ⟨y1, rfl, _⟩ := x1.str_inv Try.underlying9
    obtain ⟨y2, rfl, _⟩ := x2.int_inv Try.underlying5
    obtain ⟨y3, rfl⟩ := x3.bool_inv Try.underlying4
    exact ⟨⟨y0, y1, y2, y3⟩, rfl⟩
  obtain ⟨m, rfl⟩ := ms p6
  obtain ⟨mss, rfl⟩ := map_of (g := MsD.cells) e33 fun x hx => ms (t33 x hx)
  obtain ⟨cls, rfl⟩ := map_of (g := txC) e34 fun x hx => by
    obtain ⟨y0, e, _⟩ := (t34 x hx).str_inv Try.underlying9
    exact ⟨y0, e⟩
  obtain ⟨pks, hp⟩ := All2.of (R := PkIn SliceE h) e35 fun x hx => packet_openD (t35 x hx)
  have c63 : Try.prog.cellsOf 63 = 4 := by kernel_rfl
  have c9 : Try.prog.cellsOf 9 = 1 := by kernel_rfl
  have c66 : Try.prog.cellsOf 66 = 24 := by kernel_rfl
  rw [c63] at s33
  rw [c9] at s34
  rw [c66] at s35
  exact ⟨⟨a0, a1, a2, a3, a4, pk, m, mss, cls, pks, a36, a37⟩, w22, w33, w34, w35, e35, rfl, s22, s33, s34, s35, hp⟩
theorem SliceE.inj {n : Nat} {h : H} {v : Value} {a b : List (List Value)} (x : SliceE n h v a) (y : SliceE n h v b) : a = b := by
  have hl : a.length = b.length := by
    have e1 := x.len.2
    have e2 := y.len.2
    omega
  apply List.ext_getElem?
  intro i
  by_cases hi : i < a.length
  · have hb : i < b.length := by omega
    rw [List.getElem?_eq_getElem hi, List.getElem?_eq_getElem hb]
    obtain ⟨id, off, cells, own, e1, _, e3, _, e5, _⟩ := x.at (List.getElem?_eq_getElem hi) .i64
    obtain ⟨id', off', cells', own', e1', _, e3', _, e5', _⟩ := y.at (List.getElem?_eq_getElem hb) .i64
    rw [e1] at e1'
    injection e1' with e1'; injection e1' with e1'; injection e1' with e1'; injection e1' with h1 h2 _
    subst h1; subst h2
    rw [e3] at e3'
    injection e3' with e3'; injection e3' with h3 h4
    subst h3
    rw [← e5, e5']
  · rw [List.getElem?_eq_none_iff.2 (by omega), List.getElem?_eq_none_iff.2 (by omega)]
theorem small_of {h : H} {x : List Value} {t : ItD} (i : ItIn SliceE h x t) (b : ItB h x) : t.Small := by
  obtain ⟨w22, w33, w34, w35, e35, rfl, s22, s33, s34, s35, ap⟩ := i
  obtain ⟨k, op, cn, s3, s4, f, s29, s30, q, r, v33, v34, v35, fr, mn, e22, e33, e34, e35', R, l22, l33, l34, l35, hp⟩ := b
  have E := R.eq
  have g : ∀ j : Nat, (t.cells w22 w33 w34 w35)[j]? = ([k, op, cn, .string s3, .string s4] ++ f.cells ++ [.string s29, .string s30, q, r, v33, v34, v35, fr, mn])[j]? := fun j => by rw [E]
  have g27 : w22 = f.w := Option.some.inj (g 27)
  have g33 : w33 = v33 := Option.some.inj (g 33)
  have g34 : w34 = v34 := Option.some.inj (g 34)
  have g35 : w35 = v35 := Option.some.inj (g 35)
  subst g33; subst g34; subst g35
  have i22 := SliceE.inj s22 (g27 ▸ R.s22)
  have i33 := SliceE.inj s33 R.s33
  have i34 := SliceE.inj s34 R.s34
  have i35 := SliceE.inj s35 R.s35
  subst i35
  refine ⟨?_, ?_, ?_, ?_, fun p hp' => ?_⟩
  · show t.pk.subs.length ≤ 100
    have : (t.pk.subs.map sbC).length = e22.length := by rw [i22]
    simp at this; omega
  · have : (t.mss.map MsD.cells).length = e33.length := by rw [i33]
    simp at this; omega
  · have : (t.cls.map txC).length = e34.length := by rw [i34]
    simp at this; omega
  · have := ap.1; omega
  · obtain ⟨j, hj⟩ := List.mem_iff_getElem?.1 hp'
    obtain ⟨y, hy, w, rfl, sw⟩ := ap.at2 hj
    obtain ⟨f', els, e', sw', _, hl⟩ := hp _ (List.mem_of_getElem? hy)
    have gw : w = f'.w := by
      have : (p.cells w)[22]? = f'.cells[22]? := by rw [e']
      exact Option.some.inj this
    subst gw
    have := SliceE.inj sw sw'
    have : (p.subs.map sbC).length = els.length := by rw [this]
    simp at this
    show p.subs.length ≤ 100
    omega
end Go.Proofs.Ytdjhkdogpbiglaa.MailD

namespace Go.Proofs.Ytdjhkdogpbiglaa.MailD
open Go Go.AM
theorem or_step {α : Type} {p q : Prop} [Decidable p] [Decidable q] {F : Bool → α} {rest : α} (hr : rest = F (!decide q)) : (bif !decide p then F true else rest) = F (!decide (p ∧ q)) := by
  subst hr
  by_cases hp : p <;> simp [hp]
theorem and_step {α : Type} {p q : Prop} [Decidable p] [Decidable q] {F : Bool → α} {rest : α} (hr : rest = F (decide q)) : (bif decide p then rest else F false) = F (decide (p ∧ q)) := by
  subst hr
  by_cases hp : p <;> simp [hp]
theorem load_of {h : H} {id off n : Nat} {cells e : List Value} {own : Option Nat} (e3 : h.get id = some (.cells cells own)) (e4 : off + n ≤ cells.length) (e5 : (cells.drop off).take n = e) : A.load true n (.pointer (some ⟨id, off, none⟩)) h = some (.agg ⟨e⟩) := by
  rw [loadN_eq, e3]
  have : Nat.ble (off + n) cells.length = true := by rw [ble_dec, decide_eq_true_iff]; exact e4
  simp only [this, cond_true, e5]
theorem all2_drop {α : Type} {R : α → α → Prop} {x y : List α} {i : Nat} {u v : α} (hx : x[i]? = some u) (hy : y[i]? = some v) : All2 R (x.drop i) (y.drop i) ↔ R u v ∧ All2 R (x.drop (i + 1)) (y.drop (i + 1)) := by
  have h1 : x.drop i = u :: x.drop (i + 1) := by
    obtain ⟨h, rfl⟩ := List.getElem?_eq_some_iff.1 hx
    exact List.drop_eq_getElem_cons h
  have h2 : y.drop i = v :: y.drop (i + 1) := by
    obtain ⟨h, rfl⟩ := List.getElem?_eq_some_iff.1 hy
    exact List.drop_eq_getElem_cons h
  rw [h1, h2]
  constructor
  · intro h
    exact ⟨h.2 0 _ _ rfl rfl, ⟨by have := h.1; simpa using this, fun j a b ha hb => h.2 (j + 1) a b (by simpa using ha) (by simpa using hb)⟩⟩
  · rintro ⟨h, t⟩
    exact .cons h t
theorem all2_eq {α : Type} {x y : List α} : All2 Eq x y ↔ x = y := by
  constructor
  · intro h
    apply List.ext_getElem?
    intro i
    by_cases hi : i < x.length
    · have hy : i < y.length := by have := h.1; omega
      rw [List.getElem?_eq_getElem hi, List.getElem?_eq_getElem hy]
      exact congrArg some (h.2 i _ _ (List.getElem?_eq_getElem hi) (List.getElem?_eq_getElem hy))
    · have hy : ¬ i < y.length := by have := h.1; omega
      rw [List.getElem?_eq_none_iff.2 (by omega), List.getElem?_eq_none_iff.2 (by omega)]
  · rintro rfl
    exact All2.refl (fun _ => rfl) x
theorem int_beq (a b : Int) : (a == b) = decide (a = b) := rfl
theorem bool_beq (a b : Bool) : (a == b) = decide (a = b) := by cases a <;> cases b <;> rfl
theorem msg_eqv (a b a' b' : ByteArray) (c c' : Int) (d d' : Bool) : A.eqV Try.prog 20 63 (.agg ⟨[.string a, .string b, .int .u8 c, .bool d]⟩) (.agg ⟨[.string a', .string b', .int .u8 c', .bool d']⟩) =
    some (decide (a = a' ∧ b = b' ∧ c = c' ∧ d = d')) := by
  have e : A.eqV Try.prog 20 63 (.agg ⟨[.string a, .string b, .int .u8 c, .bool d]⟩) (.agg ⟨[.string a', .string b', .int .u8 c', .bool d']⟩) =
    (bif (a.data.toList == a'.data.toList) then (bif (b.data.toList == b'.data.toList) then (bif (c == c') then (bif (d == d') then some true else some false) else some false) else some false) else some false) := by kernel_rfl
  rw [e]
  simp only [bytes_beq, int_beq, bool_beq]
  refine and_step (F := some) (and_step (F := some) (and_step (F := some) ?_))
  cases decide (d = d') <;> rfl
theorem msg_conj (m m' : MsD) : (m.t = m'.t ∧ m.p = m'.p ∧ m.q = m'.q ∧ m.r = m'.r) ↔ m = m' := by
  cases m; cases m'; simp
theorem msg_neq (m m' : MsD) : A.bin Try.prog .neq 63 (.agg ⟨m.cells⟩) (.agg ⟨m'.cells⟩) = some (.bool (!decide (m = m'))) := by
  rw [show decide (m = m') = decide (m.t = m'.t ∧ m.p = m'.p ∧ m.q = m'.q ∧ m.r = m'.r) from decide_eq_decide.2 (msg_conj m m').symm]
  exact bin_agg_neq rfl rfl (by kernel_rfl) (msg_eqv ..)
theorem msg4_neq (a b a' b' : ByteArray) (c c' : Int) (d d' : Bool) : A.bin Try.prog .neq 63 (.agg ⟨[.string a, .string b, .int .u8 c, .bool d]⟩) (.agg ⟨[.string a', .string b', .int .u8 c', .bool d']⟩) = some (.bool (!decide (a = a' ∧ b = b' ∧ c = c' ∧ d = d'))) :=
  bin_agg_neq rfl rfl (by kernel_rfl) (msg_eqv ..)
theorem sub_neq (m m' : SbD) : A.bin Try.prog .neq 75 (.agg ⟨sbC m⟩) (.agg ⟨sbC m'⟩) = some (.bool (!decide (m = m'))) := by
  have e : A.eqV Try.prog 20 75 (.agg ⟨sbC m⟩) (.agg ⟨sbC m'⟩) = (bif (m.1.data.toList == m'.1.data.toList) then (bif (m.2 == m'.2) then some true else some false) else some false) := by kernel_rfl
  refine bin_agg_neq rfl rfl (by kernel_rfl) ?_
  rw [e]
  simp only [bytes_beq, int_beq]
  rw [show decide (m = m') = decide (m.1 = m'.1 ∧ m.2 = m'.2) from decide_eq_decide.2 (by obtain ⟨a, b⟩ := m; obtain ⟨c, d⟩ := m'; simp)]
  refine and_step (F := some) ?_
  cases decide (m.2 = m'.2) <;> rfl
/-- Two packets are the same but for their notes. -/
def EqP (f g : PkF) : Prop := f.i 0 = g.i 0 ∧ f.b 1 = g.b 1 ∧ f.i 2 = g.i 2 ∧ f.b 3 = g.b 3 ∧ f.i 4 = g.i 4 ∧ f.s 5 = g.s 5 ∧ f.s 6 = g.s 6 ∧ f.i 7 = g.i 7 ∧ f.b 8 = g.b 8 ∧ f.i 9 = g.i 9 ∧ f.s 10 = g.s 10 ∧ f.b 11 = g.b 11 ∧ f.s 12 = g.s 12 ∧ f.s 13 = g.s 13 ∧ f.i 14 = g.i 14 ∧ f.b 15 = g.b 15 ∧ f.b 16 = g.b 16 ∧ f.b 17 = g.b 17 ∧ f.s 18 = g.s 18 ∧ f.s 19 = g.s 19 ∧ f.b 20 = g.b 20 ∧ f.i 21 = g.i 21 ∧ f.s 23 = g.s 23
instance (f g : PkF) : Decidable (EqP f g) := by unfold EqP; infer_instance
theorem ld_pk {h : H} {t : Nat} {f : PkF} {o : Option Nat} (hg : h.get t = some (.cells f.cells o)) {i : Nat} {v : Value} (hv : f.cells[i]? = some v) : A.load false 1 (.pointer (some ⟨t, i, none⟩)) h = some v := by
  rw [load1_eq, hg]; exact hv
theorem ld_will {h : H} {t : Nat} {f : PkF} {o : Option Nat} (hg : h.get t = some (.cells f.cells o)) : A.load true 4 (.pointer (some ⟨t, 12, none⟩)) h = some (.agg ⟨[.string (f.s 12), .string (f.s 13), .int .u8 (f.i 14), .bool (f.b 15)]⟩) := by
  rw [loadN_eq, hg]; rfl
theorem H47a (C : CF) (L : Nat) {β : Type} {h : H} {t2 t3 : Nat} {f g : PkF} {o2 o3 : Option Nat} (h2 : h.get t2 = some (.cells f.cells o2)) (h3 : h.get t3 = some (.cells g.cells o3)) (kn : Value → Value → Value → H → Option β) : MailD7.p47arll C L (ptrV t3) (ptrV t2) h kn = kn (.bool (!decide (f.i 0 = g.i 0 ∧ f.b 1 = g.b 1 ∧ f.i 2 = g.i 2 ∧ f.b 3 = g.b 3 ∧ f.i 4 = g.i 4 ∧ f.s 5 = g.s 5 ∧ f.s 6 = g.s 6 ∧ f.i 7 = g.i 7 ∧ f.b 8 = g.b 8 ∧ f.i 9 = g.i 9 ∧ f.s 10 = g.s 10))) (ptrV t3) (ptrV t2) h := by
  have a0 := ld_pk h2 (i := 0) (v := .int .u8 (f.i 0)) rfl
  have b0 := ld_pk h3 (i := 0) (v := .int .u8 (g.i 0)) rfl
  have a1 := ld_pk h2 (i := 1) (v := .bool (f.b 1)) rfl
  have b1 := ld_pk h3 (i := 1) (v := .bool (g.b 1)) rfl
  have a2 := ld_pk h2 (i := 2) (v := .int .u8 (f.i 2)) rfl
  have b2 := ld_pk h3 (i := 2) (v := .int .u8 (g.i 2)) rfl
  have a3 := ld_pk h2 (i := 3) (v := .bool (f.b 3)) rfl
  have b3 := ld_pk h3 (i := 3) (v := .bool (g.b 3)) rfl
  have a4 := ld_pk h2 (i := 4) (v := .int .u16 (f.i 4)) rfl
  have b4 := ld_pk h3 (i := 4) (v := .int .u16 (g.i 4)) rfl
  have a5 := ld_pk h2 (i := 5) (v := .string (f.s 5)) rfl
  have b5 := ld_pk h3 (i := 5) (v := .string (g.s 5)) rfl
  have a6 := ld_pk h2 (i := 6) (v := .string (f.s 6)) rfl
  have b6 := ld_pk h3 (i := 6) (v := .string (g.s 6)) rfl
  have a7 := ld_pk h2 (i := 7) (v := .int .u8 (f.i 7)) rfl
  have b7 := ld_pk h3 (i := 7) (v := .int .u8 (g.i 7)) rfl
  have a8 := ld_pk h2 (i := 8) (v := .bool (f.b 8)) rfl
  have b8 := ld_pk h3 (i := 8) (v := .bool (g.b 8)) rfl
  have a9 := ld_pk h2 (i := 9) (v := .int .u16 (f.i 9)) rfl
  have b9 := ld_pk h3 (i := 9) (v := .int .u16 (g.i 9)) rfl
  have a10 := ld_pk h2 (i := 10) (v := .string (f.s 10)) rfl
  have b10 := ld_pk h3 (i := 10) (v := .string (g.s 10)) rfl
  simp only [MailD7.p47arll, fieldAddr_eq, Nat.zero_add, bnd_some, toBK_bool, bin_neq, bin_str_neq, bin_bool_neq Try.underlying4, a0, b0, a1, b1, a2, b2, a3, b3, a4, b4, a5, b5, a6, b6, a7, b7, a8, b8, a9, b9, a10, b10]
  exact or_step (F := fun b => kn (.bool b) (ptrV t3) (ptrV t2) h) (or_step (F := fun b => kn (.bool b) (ptrV t3) (ptrV t2) h) (or_step (F := fun b => kn (.bool b) (ptrV t3) (ptrV t2) h) (or_step (F := fun b => kn (.bool b) (ptrV t3) (ptrV t2) h) (or_step (F := fun b => kn (.bool b) (ptrV t3) (ptrV t2) h) (or_step (F := fun b => kn (.bool b) (ptrV t3) (ptrV t2) h) (or_step (F := fun b => kn (.bool b) (ptrV t3) (ptrV t2) h) (or_step (F := fun b => kn (.bool b) (ptrV t3) (ptrV t2) h) (or_step (F := fun b => kn (.bool b) (ptrV t3) (ptrV t2) h) (or_step (F := fun b => kn (.bool b) (ptrV t3) (ptrV t2) h) (rfl))))))))))
theorem H47b (C : CF) (L : Nat) {β : Type} {h : H} {t2 t3 : Nat} {f g : PkF} {o2 o3 : Option Nat} (h2 : h.get t2 = some (.cells f.cells o2)) (h3 : h.get t3 = some (.cells g.cells o3)) {ef eg : Nat} (lf : A.lenS f.w = some (.int .i64 (ef : Int))) (lg : A.lenS g.w = some (.int .i64 (eg : Int))) (kn : Value → Value → Value → H → Option β) : MailD7.p47arrll C L (ptrV t3) (ptrV t2) h kn = kn (.bool (!decide (f.b 11 = g.b 11 ∧ (f.s 12 = g.s 12 ∧ f.s 13 = g.s 13 ∧ f.i 14 = g.i 14 ∧ f.b 15 = g.b 15) ∧ f.b 16 = g.b 16 ∧ f.b 17 = g.b 17 ∧ f.s 18 = g.s 18 ∧ f.s 19 = g.s 19 ∧ f.b 20 = g.b 20 ∧ f.i 21 = g.i 21 ∧ f.s 23 = g.s 23 ∧ ((ef : Int) = (eg : Int))))) (ptrV t3) (ptrV t2) h := by
  have a11 := ld_pk h2 (i := 11) (v := .bool (f.b 11)) rfl
  have b11 := ld_pk h3 (i := 11) (v := .bool (g.b 11)) rfl
  have a16 := ld_pk h2 (i := 16) (v := .bool (f.b 16)) rfl
  have b16 := ld_pk h3 (i := 16) (v := .bool (g.b 16)) rfl
  have a17 := ld_pk h2 (i := 17) (v := .bool (f.b 17)) rfl
  have b17 := ld_pk h3 (i := 17) (v := .bool (g.b 17)) rfl
  have a18 := ld_pk h2 (i := 18) (v := .string (f.s 18)) rfl
  have b18 := ld_pk h3 (i := 18) (v := .string (g.s 18)) rfl
  have a19 := ld_pk h2 (i := 19) (v := .string (f.s 19)) rfl
  have b19 := ld_pk h3 (i := 19) (v := .string (g.s 19)) rfl
  have a20 := ld_pk h2 (i := 20) (v := .bool (f.b 20)) rfl
  have b20 := ld_pk h3 (i := 20) (v := .bool (g.b 20)) rfl
  have a21 := ld_pk h2 (i := 21) (v := .int .u8 (f.i 21)) rfl
  have b21 := ld_pk h3 (i := 21) (v := .int .u8 (g.i 21)) rfl
  have a23 := ld_pk h2 (i := 23) (v := .string (f.s 23)) rfl
  have b23 := ld_pk h3 (i := 23) (v := .string (g.s 23)) rfl
  have a22 := ld_pk h2 (i := 22) (v := f.w) rfl
  have b22 := ld_pk h3 (i := 22) (v := g.w) rfl
  have aw := ld_will h2
  have bw := ld_will h3
  simp only [MailD7.p47arrll, fieldAddr_eq, Nat.zero_add, bnd_some, toBK_bool, msg4_neq, lf, lg, aw, bw, bin_neq, bin_str_neq, bin_bool_neq Try.underlying4, a11, b11, a16, b16, a17, b17, a18, b18, a19, b19, a20, b20, a21, b21, a23, b23, a22, b22]
  exact or_step (F := fun b => kn (.bool b) (ptrV t3) (ptrV t2) h) (or_step (F := fun b => kn (.bool b) (ptrV t3) (ptrV t2) h) (or_step (F := fun b => kn (.bool b) (ptrV t3) (ptrV t2) h) (or_step (F := fun b => kn (.bool b) (ptrV t3) (ptrV t2) h) (or_step (F := fun b => kn (.bool b) (ptrV t3) (ptrV t2) h) (or_step (F := fun b => kn (.bool b) (ptrV t3) (ptrV t2) h) (or_step (F := fun b => kn (.bool b) (ptrV t3) (ptrV t2) h) (or_step (F := fun b => kn (.bool b) (ptrV t3) (ptrV t2) h) (or_step (F := fun b => kn (.bool b) (ptrV t3) (ptrV t2) h) (rfl)))))))))
theorem lp48 (C : CF) (L : Nat) {β : Type} (kr : Value → H → Option β) (kx : H → Option β) {h : H} {a b : Value} {x y : List (MsD)} (sa : SliceE 4 h a (x.map (MsD.cells))) (sb : SliceE 4 h b (y.map (MsD.cells))) (hl : x.length = y.length) (hx : x.length ≤ 1000) :
    ∀ (d i m : Nat), i + d = x.length → d < m → MailD7.p48arrlrbw C L kr kx m (.int .i64 (i : Int)) b a h = bif decide (All2 Eq (x.drop i) (y.drop i)) then kx h else kr (.bool false) h := by
  have hlen : A.lenS a = some (.int .i64 (x.length : Int)) := by have := sa.len.1; rwa [List.length_map] at this
  intro d
  induction d with
  | zero =>
    intro i m hi hm
    obtain ⟨m, rfl⟩ : ∃ q, m = q + 1 := ⟨m - 1, by omega⟩
    have hd : decide ((i : Int) < (x.length : Int)) = false := by rw [decide_eq_false_iff_not]; omega
    have ha : decide (All2 Eq (x.drop i) (y.drop i)) = true := by rw [decide_eq_true_iff, List.drop_eq_nil_of_le (by omega), List.drop_eq_nil_of_le (by omega)]; exact All2.nil
    simp only [MailD7.p48arrlrbw, MailD7.p48arrlrbo, hlen, bnd_some, bin_lss, hd, toBK_bool, condV_bool, cond_false, ha, cond_true]
  | succ d ih =>
    intro i m hi hm
    obtain ⟨m, rfl⟩ : ∃ q, m = q + 1 := ⟨m - 1, by omega⟩
    have hd : decide ((i : Int) < (x.length : Int)) = true := by rw [decide_eq_true_iff]; omega
    have hwr : IntKind.i64.wrap ((i : Int) + 1) = ((i + 1 : Nat) : Int) := wrap_succ (by omega)
    obtain ⟨u, hu⟩ : ∃ u, x[i]? = some u := ⟨_, List.getElem?_eq_getElem (by omega)⟩
    obtain ⟨v, hv⟩ : ∃ v, y[i]? = some v := ⟨_, List.getElem?_eq_getElem (by omega)⟩
    obtain ⟨id1, off1, cells1, own1, e11, _, e31, e41, e51, e61⟩ := sa.at (e := (MsD.cells) u) (by rw [List.getElem?_map, hu]; rfl) .i64
    have l1 : A.load true 4 (.pointer (some ⟨id1, off1, none⟩)) h = some (.agg ⟨MsD.cells u⟩) := load_of e31 e41 e51
    obtain ⟨id2, off2, cells2, own2, e12, _, e32, e42, e52, e62⟩ := sb.at (e := (MsD.cells) v) (by rw [List.getElem?_map, hv]; rfl) .i64
    have l2 : A.load true 4 (.pointer (some ⟨id2, off2, none⟩)) h = some (.agg ⟨MsD.cells v⟩) := load_of e32 e42 e52
    have hA := all2_drop (R := Eq) hu hv
    by_cases c : u = v
    · have hA2 : decide (All2 Eq (x.drop i) (y.drop i)) = decide (All2 Eq (x.drop (i + 1)) (y.drop (i + 1))) := decide_eq_decide.2 (by rw [hA]; simp [c])
      have c2 : (!decide (u = v)) = false := by simp [c]
      simp only [MailD7.p48arrlrbw, MailD7.p48arrlrbo, hlen, bnd_some, bin_lss, hd, toBK_bool, condV_bool, cond_true, cond_false, e11, e12, l1, l2, msg_neq, c2, bin_add, hwr, hA2]
      exact ih (i + 1) m (by omega) (by omega)
    · have hA2 : decide (All2 Eq (x.drop i) (y.drop i)) = false := by rw [decide_eq_false_iff_not, hA]; exact fun h => c h.1
      have c2 : (!decide (u = v)) = true := by simp [c]
      simp only [MailD7.p48arrlrbw, MailD7.p48arrlrbo, hlen, bnd_some, bin_lss, hd, toBK_bool, condV_bool, cond_true, cond_false, e11, e12, l1, l2, msg_neq, c2, hA2]
theorem lp47 (C : CF) (L : Nat) {β : Type} (kr : Value → H → Option β) (kx : H → Option β) {h : H} {t2 t3 : Nat} {a b : Value} (ga : A.load false 1 (.pointer (some ⟨t2, 22, none⟩)) h = some a) (gb : A.load false 1 (.pointer (some ⟨t3, 22, none⟩)) h = some b) {x y : List (SbD)} (sa : SliceE 2 h a (x.map (sbC))) (sb : SliceE 2 h b (y.map (sbC))) (hl : x.length = y.length) (hx : x.length ≤ 1000) :
    ∀ (d i m : Nat), i + d = x.length → d < m → MailD7.p47arrrlrbw C L kr kx m (.int .i64 (i : Int)) (ptrV t3) (ptrV t2) h = bif decide (All2 Eq (x.drop i) (y.drop i)) then kx h else kr (.bool false) h := by
  have hlen : A.lenS a = some (.int .i64 (x.length : Int)) := by have := sa.len.1; rwa [List.length_map] at this
  intro d
  induction d with
  | zero =>
    intro i m hi hm
    obtain ⟨m, rfl⟩ : ∃ q, m = q + 1 := ⟨m - 1, by omega⟩
    have hd : decide ((i : Int) < (x.length : Int)) = false := by rw [decide_eq_false_iff_not]; omega
    have ha : decide (All2 Eq (x.drop i) (y.drop i)) = true := by rw [decide_eq_true_iff, List.drop_eq_nil_of_le (by omega), List.drop_eq_nil_of_le (by omega)]; exact All2.nil
    simp only [MailD7.p47arrrlrbw, MailD7.p47arrrlrbo, fieldAddr_eq, Nat.zero_add, ga, gb, hlen, bnd_some, bin_lss, hd, toBK_bool, condV_bool, cond_false, ha, cond_true]
  | succ d ih =>
    intro i m hi hm
    obtain ⟨m, rfl⟩ : ∃ q, m = q + 1 := ⟨m - 1, by omega⟩
    have hd : decide ((i : Int) < (x.length : Int)) = true := by rw [decide_eq_true_iff]; omega
    have hwr : IntKind.i64.wrap ((i : Int) + 1) = ((i + 1 : Nat) : Int) := wrap_succ (by omega)
    obtain ⟨u, hu⟩ : ∃ u, x[i]? = some u := ⟨_, List.getElem?_eq_getElem (by omega)⟩
    obtain ⟨v, hv⟩ : ∃ v, y[i]? = some v := ⟨_, List.getElem?_eq_getElem (by omega)⟩
    obtain ⟨id1, off1, cells1, own1, e11, _, e31, e41, e51, e61⟩ := sa.at (e := (sbC) u) (by rw [List.getElem?_map, hu]; rfl) .i64
    have l1 : A.load true 2 (.pointer (some ⟨id1, off1, none⟩)) h = some (.agg ⟨sbC u⟩) := load_of e31 e41 e51
    obtain ⟨id2, off2, cells2, own2, e12, _, e32, e42, e52, e62⟩ := sb.at (e := (sbC) v) (by rw [List.getElem?_map, hv]; rfl) .i64
    have l2 : A.load true 2 (.pointer (some ⟨id2, off2, none⟩)) h = some (.agg ⟨sbC v⟩) := load_of e32 e42 e52
    have hA := all2_drop (R := Eq) hu hv
    by_cases c : u = v
    · have hA2 : decide (All2 Eq (x.drop i) (y.drop i)) = decide (All2 Eq (x.drop (i + 1)) (y.drop (i + 1))) := decide_eq_decide.2 (by rw [hA]; simp [c])
      have c2 : (!decide (u = v)) = false := by simp [c]
      simp only [MailD7.p47arrrlrbw, MailD7.p47arrrlrbo, fieldAddr_eq, Nat.zero_add, ga, gb, hlen, bnd_some, bin_lss, hd, toBK_bool, condV_bool, cond_true, cond_false, e11, e12, l1, l2, sub_neq, c2, bin_add, hwr, hA2]
      exact ih (i + 1) m (by omega) (by omega)
    · have hA2 : decide (All2 Eq (x.drop i) (y.drop i)) = false := by rw [decide_eq_false_iff_not, hA]; exact fun h => c h.1
      have c2 : (!decide (u = v)) = true := by simp [c]
      simp only [MailD7.p47arrrlrbw, MailD7.p47arrrlrbo, fieldAddr_eq, Nat.zero_add, ga, gb, hlen, bnd_some, bin_lss, hd, toBK_bool, condV_bool, cond_true, cond_false, e11, e12, l1, l2, sub_neq, c2, hA2]
theorem lp38 (C : CF) (L : Nat) {β : Type} (kr : Value → H → Option β) (kx : Value → Value → H → Option β) {h : H} {t2 t3 : Nat} {a b : Value} (ga : A.load false 1 (.pointer (some ⟨t2, 34, none⟩)) h = some a) (gb : A.load false 1 (.pointer (some ⟨t3, 34, none⟩)) h = some b) {x y : List (ByteArray)} (sa : SliceE 1 h a (x.map (txC))) (sb : SliceE 1 h b (y.map (txC))) (hl : x.length = y.length) (hx : x.length ≤ 1000) :
    ∀ (d i m : Nat), i + d = x.length → d < m → MailD7.p38arrlrbw C L kr kx m (.int .i64 (i : Int)) (ptrV t2) (ptrV t3) h = bif decide (All2 Eq (x.drop i) (y.drop i)) then kx (ptrV t2) (ptrV t3) h else kr (.bool false) h := by
  have hlen : A.lenS a = some (.int .i64 (x.length : Int)) := by have := sa.len.1; rwa [List.length_map] at this
  intro d
  induction d with
  | zero =>
    intro i m hi hm
    obtain ⟨m, rfl⟩ : ∃ q, m = q + 1 := ⟨m - 1, by omega⟩
    have hd : decide ((i : Int) < (x.length : Int)) = false := by rw [decide_eq_false_iff_not]; omega
    have ha : decide (All2 Eq (x.drop i) (y.drop i)) = true := by rw [decide_eq_true_iff, List.drop_eq_nil_of_le (by omega), List.drop_eq_nil_of_le (by omega)]; exact All2.nil
    simp only [MailD7.p38arrlrbw, MailD7.p38arrlrbo, fieldAddr_eq, Nat.zero_add, ga, gb, hlen, bnd_some, bin_lss, hd, toBK_bool, condV_bool, cond_false, ha, cond_true]
  | succ d ih =>
    intro i m hi hm
    obtain ⟨m, rfl⟩ : ∃ q, m = q + 1 := ⟨m - 1, by omega⟩
    have hd : decide ((i : Int) < (x.length : Int)) = true := by rw [decide_eq_true_iff]; omega
    have hwr : IntKind.i64.wrap ((i : Int) + 1) = ((i + 1 : Nat) : Int) := wrap_succ (by omega)
    obtain ⟨u, hu⟩ : ∃ u, x[i]? = some u := ⟨_, List.getElem?_eq_getElem (by omega)⟩
    obtain ⟨v, hv⟩ : ∃ v, y[i]? = some v := ⟨_, List.getElem?_eq_getElem (by omega)⟩
    obtain ⟨id1, off1, cells1, own1, e11, _, e31, e41, e51, e61⟩ := sa.at (e := (txC) u) (by rw [List.getElem?_map, hu]; rfl) .i64
    have l1 : A.load false 1 (.pointer (some ⟨id1, off1, none⟩)) h = some (.string u) := by rw [load1_eq, e31]; exact e61 0 (by omega)
    obtain ⟨id2, off2, cells2, own2, e12, _, e32, e42, e52, e62⟩ := sb.at (e := (txC) v) (by rw [List.getElem?_map, hv]; rfl) .i64
    have l2 : A.load false 1 (.pointer (some ⟨id2, off2, none⟩)) h = some (.string v) := by rw [load1_eq, e32]; exact e62 0 (by omega)
    have hA := all2_drop (R := Eq) hu hv
    by_cases c : u = v
    · have hA2 : decide (All2 Eq (x.drop i) (y.drop i)) = decide (All2 Eq (x.drop (i + 1)) (y.drop (i + 1))) := decide_eq_decide.2 (by rw [hA]; simp [c])
      have c2 : (!decide (u = v)) = false := by simp [c]
      simp only [MailD7.p38arrlrbw, MailD7.p38arrlrbo, fieldAddr_eq, Nat.zero_add, ga, gb, hlen, bnd_some, bin_lss, hd, toBK_bool, condV_bool, cond_true, cond_false, e11, e12, l1, l2, bin_str_neq, c2, bin_add, hwr, hA2]
      exact ih (i + 1) m (by omega) (by omega)
    · have hA2 : decide (All2 Eq (x.drop i) (y.drop i)) = false := by rw [decide_eq_false_iff_not, hA]; exact fun h => c h.1
      have c2 : (!decide (u = v)) = true := by simp [c]
      simp only [MailD7.p38arrlrbw, MailD7.p38arrlrbo, fieldAddr_eq, Nat.zero_add, ga, gb, hlen, bnd_some, bin_lss, hd, toBK_bool, condV_bool, cond_true, cond_false, e11, e12, l1, l2, bin_str_neq, c2, hA2]
theorem T48 (k : Nat) {h : H} {a b : Value} {x y : List (MsD)} (sa : SliceE 4 h a (x.map (MsD.cells))) (sb : SliceE 4 h b (y.map (MsD.cells))) (hx : x.length ≤ 100) : callB Try.prog 0 [9] (k + 200) 48 [a, b] h = some (.bool (decide (x = y)), h) := by
  have la : A.lenS a = some (.int .i64 (x.length : Int)) := by have := sa.len.1; rwa [List.length_map] at this
  have lb : A.lenS b = some (.int .i64 (y.length : Int)) := by have := sb.len.1; rwa [List.length_map] at this
  rw [MailD7.F48eq [9] rfl]
  by_cases hl : x.length = y.length
  · have c : (!decide ((x.length : Int) = (y.length : Int))) = false := by simp [hl]
    have e := lp48 (callB Try.prog 0 [9] (k + 199)) (k + 199) (fun x4 h => some (x4, h)) (fun h => MailD7.p48arrr (callB Try.prog 0 [9] (k + 199)) (k + 199) h (fun x4 h => some (x4, h))) sa sb hl (by omega) x.length 0 (k + 199) (by omega) (by omega)
    have e' : MailD7.p48arrlrbw (callB Try.prog 0 [9] (k + 199)) (k + 199) (fun x4 h => some (x4, h)) (fun h => MailD7.p48arrr (callB Try.prog 0 [9] (k + 199)) (k + 199) h (fun x4 h => some (x4, h))) (k + 199) (.int .i64 0) b a h = _ := e
    have ee : decide (All2 Eq (x.drop 0) (y.drop 0)) = decide (x = y) := decide_eq_decide.2 (by simp [all2_eq])
    rw [ee] at e'
    simp only [MailD7.F48, MailD7.p48a, MailD7.p48al, MailD7.p48ar, MailD7.p48arl, la, lb, bnd_some, bin_neq, c, toBK_bool, cond_false, MailD7.p48arr, MailD7.p48arrl, MailD7.p48arrll, MailD7.p48arrlr, MailD7.p48arrlrb]
    rw [e']
    by_cases hxy : x = y
    · simp only [decide_eq_true hxy, cond_true, MailD7.p48arrr]
    · simp only [decide_eq_false hxy, cond_false]
  · have c : (!decide ((x.length : Int) = (y.length : Int))) = true := by simp; omega
    have hxy : ¬ x = y := fun e => hl (by rw [e])
    simp only [MailD7.F48, MailD7.p48a, MailD7.p48al, MailD7.p48ar, MailD7.p48arl, la, lb, bnd_some, bin_neq, c, toBK_bool, cond_true, decide_eq_false hxy]
end Go.Proofs.Ytdjhkdogpbiglaa.MailD

namespace Go.Proofs.Ytdjhkdogpbiglaa.MailD
open Go Go.AM
theorem T47 (k : Nat) {h : H} {x y : List Value} {p q : PkD} (px : PkIn SliceE h x p) (py : PkIn SliceE h y q) (hp : p.Small) : ∃ h', callB Try.prog 0 [9] (k + 200) 47 [.agg ⟨x⟩, .agg ⟨y⟩] h = some (.bool (decide (SameP p q)), h') ∧ Ext h h' := by
  obtain ⟨w, rfl, sw⟩ := px
  obtain ⟨v, rfl, sv⟩ := py
  obtain ⟨f, hf⟩ : ∃ f : PkF, f = { p.f with w := w } := ⟨_, rfl⟩
  obtain ⟨g, hg⟩ : ∃ g : PkF, g = { q.f with w := v } := ⟨_, rfl⟩
  have ef : p.cells w = f.cells := by rw [hf]; rfl
  have eg : q.cells v = g.cells := by rw [hg]; rfl
  have hE : SameP p q ↔ EqP f g ∧ p.subs = q.subs := by rw [hf, hg]; exact Iff.rfl
  have sw : SliceE 2 h f.w (p.subs.map sbC) := by rw [hf]; exact sw
  have sv : SliceE 2 h g.w (q.subs.map sbC) := by rw [hg]; exact sv
  rw [ef, eg, MailD7.F47eq [9] rfl]
  clear hf hg ef eg
  obtain ⟨h1, hh1⟩ : ∃ h1, h1 = h.push (.cells f.cells (some 0)) := ⟨_, rfl⟩
  obtain ⟨h2, hh2⟩ : ∃ h2, h2 = h1.push (.cells g.cells (some 0)) := ⟨_, rfl⟩
  have b1 : A.box 24 (.agg ⟨f.cells⟩) h = some (ptrV h.next, h1) := by rw [hh1]; rfl
  have b2 : A.box 24 (.agg ⟨g.cells⟩) h1 = some (ptrV h1.next, h2) := by rw [hh2]; rfl
  have x1 : Ext h h1 := hh1 ▸ Ext.push h _
  have x2 : Ext h1 h2 := hh2 ▸ Ext.push h1 _
  have n1 : h1.next = h.next + 1 := by rw [hh1]; rfl
  have g2 : h2.get h.next = some (.cells f.cells (some 0)) := by rw [x2.get _ (by omega), hh1, H.get_push, if_pos rfl]
  have g3 : h2.get h1.next = some (.cells g.cells (some 0)) := by rw [hh2, H.get_push, if_pos rfl]
  have sw2 := sw.ext (x1.trans x2)
  have sv2 := sv.ext (x1.trans x2)
  have lf : A.lenS f.w = some (.int .i64 (p.subs.length : Int)) := by have := sw.len.1; rwa [List.length_map] at this
  have lg : A.lenS g.w = some (.int .i64 (q.subs.length : Int)) := by have := sv.len.1; rwa [List.length_map] at this
  refine ⟨h2, ?_, x1.trans x2⟩
  have e1 := fun (kn : Value → Value → Value → H → Option (Value × H)) => H47a (callB Try.prog 0 [9] (k + 199)) (k + 199) g2 g3 kn
  have e2 := fun (kn : Value → Value → Value → H → Option (Value × H)) => H47b (callB Try.prog 0 [9] (k + 199)) (k + 199) g2 g3 lf lg kn
  simp only [MailD7.F47, MailD7.p47a, MailD7.p47al, b1, b2, bnd2_some, MailD7.p47ar, MailD7.p47arl]
  rw [e1]
  by_cases ca : f.i 0 = g.i 0 ∧ f.b 1 = g.b 1 ∧ f.i 2 = g.i 2 ∧ f.b 3 = g.b 3 ∧ f.i 4 = g.i 4 ∧ f.s 5 = g.s 5 ∧ f.s 6 = g.s 6 ∧ f.i 7 = g.i 7 ∧ f.b 8 = g.b 8 ∧ f.i 9 = g.i 9 ∧ f.s 10 = g.s 10
  · simp only [decide_eq_true ca, Bool.not_true, MailD7.p47arlr, condV_bool, cond_false, MailD7.p47arr, MailD7.p47arrl]
    rw [e2]
    by_cases cb : f.b 11 = g.b 11 ∧ (f.s 12 = g.s 12 ∧ f.s 13 = g.s 13 ∧ f.i 14 = g.i 14 ∧ f.b 15 = g.b 15) ∧ f.b 16 = g.b 16 ∧ f.b 17 = g.b 17 ∧ f.s 18 = g.s 18 ∧ f.s 19 = g.s 19 ∧ f.b 20 = g.b 20 ∧ f.i 21 = g.i 21 ∧ f.s 23 = g.s 23 ∧ ((p.subs.length : Int) = (q.subs.length : Int))
    · have hl : p.subs.length = q.subs.length := by
        obtain ⟨q11, ⟨q12, q13, q14, q15⟩, q16, q17, q18, q19, q20, q21, q23, ql⟩ := cb
        omega
      have e := lp47 (callB Try.prog 0 [9] (k + 199)) (k + 199) (fun x4 h => some (x4, h)) (fun h => MailD7.p47arrrr (callB Try.prog 0 [9] (k + 199)) (k + 199) h (fun x4 h => some (x4, h))) (ld_pk g2 (i := 22) (v := f.w) rfl) (ld_pk g3 (i := 22) (v := g.w) rfl) sw2 sv2 hl (by have := hp; unfold PkD.Small at this; omega) p.subs.length 0 (k + 199) (by omega) (by have := hp; unfold PkD.Small at this; omega)
      have e' : MailD7.p47arrrlrbw (callB Try.prog 0 [9] (k + 199)) (k + 199) (fun x4 h => some (x4, h)) (fun h => MailD7.p47arrrr (callB Try.prog 0 [9] (k + 199)) (k + 199) h (fun x4 h => some (x4, h))) (k + 199) (.int .i64 0) (ptrV h1.next) (ptrV h.next) h2 = _ := e
      have ee : decide (All2 Eq (p.subs.drop 0) (q.subs.drop 0)) = decide (p.subs = q.subs) := decide_eq_decide.2 (by simp [all2_eq])
      rw [ee] at e'
      simp only [decide_eq_true cb, Bool.not_true, MailD7.p47arrlr, condV_bool, cond_false, MailD7.p47arrr, MailD7.p47arrrl, MailD7.p47arrrll, MailD7.p47arrrlr, MailD7.p47arrrlrb]
      rw [e']
      have hEP : EqP f g := by
        obtain ⟨q0, q1, q2, q3, q4, q5, q6, q7, q8, q9, q10⟩ := ca
        obtain ⟨q11, ⟨q12, q13, q14, q15⟩, q16, q17, q18, q19, q20, q21, q23, ql⟩ := cb
        exact ⟨q0, q1, q2, q3, q4, q5, q6, q7, q8, q9, q10, q11, q12, q13, q14, q15, q16, q17, q18, q19, q20, q21, q23⟩
      by_cases hs : p.subs = q.subs
      · simp only [decide_eq_true hs, cond_true, MailD7.p47arrrr, decide_eq_true (hE.2 ⟨hEP, hs⟩)]
      · have hn : ¬ SameP p q := fun h => hs (hE.1 h).2
        simp only [decide_eq_false hs, cond_false, decide_eq_false hn]
    · have hn : ¬ SameP p q := fun hsm => cb (by
        obtain ⟨⟨q0, q1, q2, q3, q4, q5, q6, q7, q8, q9, q10, q11, q12, q13, q14, q15, q16, q17, q18, q19, q20, q21, q23⟩, hs⟩ := hE.1 hsm
        exact ⟨q11, ⟨q12, q13, q14, q15⟩, q16, q17, q18, q19, q20, q21, q23, by rw [hs]⟩)
      simp only [decide_eq_false cb, Bool.not_false, MailD7.p47arrlr, condV_bool, cond_true, decide_eq_false hn]
  · have hn : ¬ SameP p q := fun hsm => ca (by
      obtain ⟨⟨q0, q1, q2, q3, q4, q5, q6, q7, q8, q9, q10, q11, q12, q13, q14, q15, q16, q17, q18, q19, q20, q21, q23⟩, hs⟩ := hE.1 hsm
      exact ⟨q0, q1, q2, q3, q4, q5, q6, q7, q8, q9, q10⟩)
    simp only [decide_eq_false ca, Bool.not_false, MailD7.p47arlr, condV_bool, cond_true, decide_eq_false hn]
end Go.Proofs.Ytdjhkdogpbiglaa.MailD

set_option linter.unusedVariables false
set_option maxRecDepth 100000
namespace Go.Proofs.Ytdjhkdogpbiglaa.MailD2
open Go Go.AM
noncomputable def Z71 : Value := (.agg ⟨[(.int .u8 0), (.int .i64 0), (.int .i64 0), (.string ⟨⟨[]⟩⟩), (.string ⟨⟨[]⟩⟩), (.int .u8 0), (.bool false), (.int .u8 0), (.bool false), (.int .u16 0), (.string ⟨⟨[]⟩⟩), (.string ⟨⟨[]⟩⟩), (.int .u8 0), (.bool false), (.int .u16 0), (.string ⟨⟨[]⟩⟩), (.bool false), (.string ⟨⟨[]⟩⟩), (.string ⟨⟨[]⟩⟩), (.int .u8 0), (.bool false), (.bool false), (.bool false), (.string ⟨⟨[]⟩⟩), (.string ⟨⟨[]⟩⟩), (.bool false), (.int .u8 0), (.slice none 0 0), (.string ⟨⟨[]⟩⟩), (.string ⟨⟨[]⟩⟩), (.string ⟨⟨[]⟩⟩), (.int .u8 0), (.bool false), (.slice none 0 0), (.slice none 0 0), (.slice none 0 0), (.int .i64 0), (.int .i64 0)]⟩)
noncomputable def Z71L : List Value := [(.int .u8 0), (.int .i64 0), (.int .i64 0), (.string ⟨⟨[]⟩⟩), (.string ⟨⟨[]⟩⟩), (.int .u8 0), (.bool false), (.int .u8 0), (.bool false), (.int .u16 0), (.string ⟨⟨[]⟩⟩), (.string ⟨⟨[]⟩⟩), (.int .u8 0), (.bool false), (.int .u16 0), (.string ⟨⟨[]⟩⟩), (.bool false), (.string ⟨⟨[]⟩⟩), (.string ⟨⟨[]⟩⟩), (.int .u8 0), (.bool false), (.bool false), (.bool false), (.string ⟨⟨[]⟩⟩), (.string ⟨⟨[]⟩⟩), (.bool false), (.int .u8 0), (.slice none 0 0), (.string ⟨⟨[]⟩⟩), (.string ⟨⟨[]⟩⟩), (.string ⟨⟨[]⟩⟩), (.int .u8 0), (.bool false), (.slice none 0 0), (.slice none 0 0), (.slice none 0 0), (.int .i64 0), (.int .i64 0)]
end Go.Proofs.Ytdjhkdogpbiglaa.MailD2

namespace Go.Proofs.Ytdjhkdogpbiglaa.MailD
open Go Go.AM
theorem and_ex {p q : Prop} [Decidable p] [Decidable q] {rest : Option (Value × H)} {E : H → Prop} {h0 : H} (h1 : E h0) (hr : ∃ h', rest = some (.bool (decide q), h') ∧ E h') : ∃ h', (bif decide p then rest else some (.bool false, h0)) = some (.bool (decide (p ∧ q)), h') ∧ E h' := by
  by_cases hp : p
  · obtain ⟨h', e, x⟩ := hr
    exact ⟨h', by simp [hp, e], x⟩
  · exact ⟨h0, by simp [hp], h1⟩
theorem box_put {n : Nat} {z : Value} {zl vs : List Value} {h : H} (hz : cellsL z = some zl) (hzl : zl.length = n) (hv : vs.length = n) : ∃ h1 h2, A.box n z h = some (ptrV h.next, h1) ∧ A.store n (ptrV h.next) (.agg ⟨vs⟩) h1 = some h2 ∧ h2.get h.next = some (.cells vs (some 0)) ∧ Ext h h2 ∧ h2.next = h.next + 1 := by
  refine ⟨h.push (.cells zl (some 0)), (h.push (.cells zl (some 0))).put h.next (.cells vs (some 0)), ?_, ?_, by rw [H.get_put, if_pos rfl], (Ext.push h _).put _ _ (Nat.le_refl _), rfl⟩
  · have : Nat.beq zl.length n = true := by rw [beq_dec', decide_eq_true_iff]; exact hzl
    rw [box_eq, hz]
    simp only [this, cond_true]
  · rw [store_eq, H.get_push, if_pos rfl]
    have c1 : Nat.beq vs.length n = true := by rw [beq_dec', decide_eq_true_iff]; exact hv
    have c2 : Nat.ble (0 + n) zl.length = true := by rw [ble_dec, decide_eq_true_iff]; omega
    have sp : splice zl 0 vs = vs := by simp [splice]; omega
    simp only [cellsL_agg, c1, c2, Bool.and_self, cond_true, sp]
theorem load_box {n t : Nat} {vs : List Value} {h : H} {o : Option Nat} (hg : h.get t = some (.cells vs o)) (hv : vs.length = n) : A.load true n (ptrV t) h = some (.agg ⟨vs⟩) :=
  load_of hg (by omega) (by rw [List.drop_zero, List.take_of_length_le (by omega)])
theorem PkD.len (p : PkD) (w : Value) : (p.cells w).length = 24 := rfl
theorem ItD.len (x : ItD) (a b c d : Value) : (x.cells a b c d).length = 38 := rfl
theorem PkIn.len {W : SW} {h : H} {x : List Value} {p : PkD} (i : PkIn W h x p) : x.length = 24 := by obtain ⟨w, rfl, _⟩ := i; rfl
theorem ItIn.len {W : SW} {h : H} {x : List Value} {p : ItD} (i : ItIn W h x p) : x.length = 38 := by obtain ⟨_, _, _, _, _, rfl, _⟩ := i; rfl
theorem PkIn.ext {h h' : H} {v : List Value} {c : PkD} (x : PkIn SliceE h v c) (e : Ext h h') : PkIn SliceE h' v c := x.map fun _ _ _ s => s.ext e
theorem ItIn.ext {h h' : H} {v : List Value} {c : ItD} (x : ItIn SliceE h v c) (e : Ext h h') : ItIn SliceE h' v c := x.map fun _ _ _ s => s.ext e
theorem lp49 (k L : Nat) {β : Type} (kr : Value → H → Option β) (kx : H → Option β) {h0 : H} {a b : Value} {ea eb : List (List Value)} {x y : List PkD} (sa : SliceE 24 h0 a ea) (sb : SliceE 24 h0 b eb) (pa : All2 (PkIn SliceE h0) ea x) (pb : All2 (PkIn SliceE h0) eb y) (hl : x.length = y.length) (hx : x.length ≤ 1000) (hs : ∀ p ∈ x, p.Small) :
    ∀ (d i m : Nat) (h : H), i + d = x.length → d < m → Ext h0 h → ∃ h', Ext h0 h' ∧ MailD7.p49arrlrbw (callB Try.prog 0 [9] (k + 200)) L kr kx m (.int .i64 (i : Int)) b a h = bif decide (All2 SameP (x.drop i) (y.drop i)) then kx h' else kr (.bool false) h' := by
  have hlen : A.lenS a = some (.int .i64 (x.length : Int)) := by have := sa.len.1; rwa [pa.1] at this
  intro d
  induction d with
  | zero =>
    intro i m h hi hm xx
    obtain ⟨m, rfl⟩ : ∃ q, m = q + 1 := ⟨m - 1, by omega⟩
    have hd : decide ((i : Int) < (x.length : Int)) = false := by rw [decide_eq_false_iff_not]; omega
    have ha : decide (All2 SameP (x.drop i) (y.drop i)) = true := by rw [decide_eq_true_iff, List.drop_eq_nil_of_le (by omega), List.drop_eq_nil_of_le (by omega)]; exact All2.nil
    refine ⟨h, xx, ?_⟩
    simp only [MailD7.p49arrlrbw, MailD7.p49arrlrbo, hlen, bnd_some, bin_lss, hd, toBK_bool, condV_bool, cond_false, ha, cond_true]
  | succ d ih =>
    intro i m h hi hm xx
    obtain ⟨m, rfl⟩ : ∃ q, m = q + 1 := ⟨m - 1, by omega⟩
    have hd : decide ((i : Int) < (x.length : Int)) = true := by rw [decide_eq_true_iff]; omega
    have hwr : IntKind.i64.wrap ((i : Int) + 1) = ((i + 1 : Nat) : Int) := wrap_succ (by omega)
    obtain ⟨p, hp⟩ : ∃ p, x[i]? = some p := ⟨_, List.getElem?_eq_getElem (by omega)⟩
    obtain ⟨q, hq⟩ : ∃ q, y[i]? = some q := ⟨_, List.getElem?_eq_getElem (by omega)⟩
    obtain ⟨u, hu, pu⟩ := pa.at2 hp
    obtain ⟨v, hv, pv⟩ := pb.at2 hq
    have hA := all2_drop (R := SameP) hp hq
    obtain ⟨id1, off1, cells1, own1, e11, _, e31, e41, e51, _⟩ := (sa.ext xx).at hu .i64
    have l1 : A.load true 24 (.pointer (some ⟨id1, off1, none⟩)) h = some (.agg ⟨u⟩) := load_of e31 e41 e51
    obtain ⟨id2, off2, cells2, own2, e12, _, e32, e42, e52, _⟩ := (sb.ext xx).at hv .i64
    have l2 : A.load true 24 (.pointer (some ⟨id2, off2, none⟩)) h = some (.agg ⟨v⟩) := load_of e32 e42 e52
    obtain ⟨h1, ec, x1⟩ := T47 k (pu.ext xx) (pv.ext xx) (hs p (List.mem_of_getElem? hp))
    have xx1 := xx.trans x1
    by_cases c : SameP p q
    · have hA2 : decide (All2 SameP (x.drop i) (y.drop i)) = decide (All2 SameP (x.drop (i + 1)) (y.drop (i + 1))) := decide_eq_decide.2 (by rw [hA]; simp [c])
      obtain ⟨h', x', e⟩ := ih (i + 1) m h1 (by omega) (by omega) xx1
      refine ⟨h', x', ?_⟩
      simp only [MailD7.p49arrlrbw, MailD7.p49arrlrbo, hlen, bnd_some, bin_lss, hd, toBK_bool, condV_bool, cond_true, cond_false, e11, l1, e12, l2, ec, bnd2_some, decide_eq_true c, un_not, Bool.not_true, bin_add, hwr, hA2]
      exact e
    · have hA2 : decide (All2 SameP (x.drop i) (y.drop i)) = false := by rw [decide_eq_false_iff_not, hA]; exact fun h => c h.1
      refine ⟨h1, xx1, ?_⟩
      simp only [MailD7.p49arrlrbw, MailD7.p49arrlrbo, hlen, bnd_some, bin_lss, hd, toBK_bool, condV_bool, cond_true, cond_false, e11, l1, e12, l2, ec, bnd2_some, decide_eq_false c, un_not, Bool.not_false, hA2]
theorem T49 (k : Nat) {h : H} {a b : Value} {ea eb : List (List Value)} {x y : List PkD} (sa : SliceE 24 h a ea) (sb : SliceE 24 h b eb) (pa : All2 (PkIn SliceE h) ea x) (pb : All2 (PkIn SliceE h) eb y) (hx : x.length ≤ 100) (hs : ∀ p ∈ x, p.Small) : ∃ h', callB Try.prog 0 [9] (k + 401) 49 [a, b] h = some (.bool (decide (All2 SameP x y)), h') ∧ Ext h h' := by
  have la : A.lenS a = some (.int .i64 (x.length : Int)) := by have := sa.len.1; rwa [pa.1] at this
  have lb : A.lenS b = some (.int .i64 (y.length : Int)) := by have := sb.len.1; rwa [pb.1] at this
  rw [MailD7.F49eq [9] rfl]
  by_cases hl : x.length = y.length
  · have c : (!decide ((x.length : Int) = (y.length : Int))) = false := by simp [hl]
    obtain ⟨h', x', e⟩ := lp49 (k + 200) (k + 400) (fun x4 h => some (x4, h)) (fun h => MailD7.p49arrr (callB Try.prog 0 [9] (k + 400)) (k + 400) h (fun x4 h => some (x4, h))) sa sb pa pb hl (by omega) hs x.length 0 (k + 400) h (by omega) (by omega) (Ext.refl h)
    have run : MailD7.F49 (callB Try.prog 0 [9] (k + 400)) (k + 400) a b h = MailD7.p49arrlrbw (callB Try.prog 0 [9] (k + 400)) (k + 400) (fun x4 h => some (x4, h)) (fun h => MailD7.p49arrr (callB Try.prog 0 [9] (k + 400)) (k + 400) h (fun x4 h => some (x4, h))) (k + 400) (.int .i64 ((0 : Nat) : Int)) b a h := by
      simp only [MailD7.F49, MailD7.p49a, MailD7.p49al, MailD7.p49ar, MailD7.p49arl, la, lb, bnd_some, bin_neq, c, toBK_bool, cond_false, MailD7.p49arr, MailD7.p49arrl, MailD7.p49arrll, MailD7.p49arrlr, MailD7.p49arrlrb]
      rfl
    refine ⟨h', ?_, x'⟩
    rw [run, e]
    simp only [List.drop_zero]
    by_cases hxy : All2 SameP x y
    · simp only [decide_eq_true hxy, cond_true, MailD7.p49arrr]
    · simp only [decide_eq_false hxy, cond_false]
  · have c : (!decide ((x.length : Int) = (y.length : Int))) = true := by simp; omega
    have hxy : ¬ All2 SameP x y := fun e => hl e.1
    refine ⟨h, ?_, Ext.refl h⟩
    simp only [MailD7.F49, MailD7.p49a, MailD7.p49al, MailD7.p49ar, MailD7.p49arl, la, lb, bnd_some, bin_neq, c, toBK_bool, cond_true, decide_eq_false hxy]
theorem T38 (k : Nat) {h : H} {x y : List Value} {p q : ItD} (px : ItIn SliceE h x p) (py : ItIn SliceE h y q) (hp : p.Small) : ∃ h', callB Try.prog 0 [9] (k + 410) 38 [.agg ⟨x⟩, .agg ⟨y⟩] h = some (.bool (decide (SameI p q)), h') ∧ Ext h h' := by
  rw [MailD7.F38eq [9] rfl]
  obtain ⟨t2, ht2⟩ : ∃ t, t = h.next := ⟨_, rfl⟩
  obtain ⟨h1, hh1⟩ : ∃ h1, h1 = h.push (.cells x (some 0)) := ⟨_, rfl⟩
  obtain ⟨t3, ht3⟩ : ∃ t, t = h1.next := ⟨_, rfl⟩
  obtain ⟨h2, hh2⟩ : ∃ h2, h2 = h1.push (.cells y (some 0)) := ⟨_, rfl⟩
  have b1 : A.box 38 (.agg ⟨x⟩) h = some (ptrV t2, h1) := by
    have : Nat.beq x.length 38 = true := by rw [px.len]; rfl
    rw [box_eq, hh1, ht2]; simp only [cellsL_agg, this, cond_true]
  have b2 : A.box 38 (.agg ⟨y⟩) h1 = some (ptrV t3, h2) := by
    have : Nat.beq y.length 38 = true := by rw [py.len]; rfl
    rw [box_eq, hh2, ht3]; simp only [cellsL_agg, this, cond_true]
  have x1 : Ext h h1 := hh1 ▸ Ext.push h _
  have x2 : Ext h1 h2 := hh2 ▸ Ext.push h1 _
  have n1 : h1.next = h.next + 1 := by rw [hh1]; rfl
  have n2 : h2.next = h1.next + 1 := by rw [hh2]; rfl
  have x12 := x1.trans x2
  have g2 : h2.get t2 = some (.cells x (some 0)) := by rw [x2.get _ (by omega), hh1, H.get_push, if_pos ht2]
  have g3 : h2.get t3 = some (.cells y (some 0)) := by rw [hh2, H.get_push, if_pos ht3]
  clear hh1 hh2
  obtain ⟨p22, p33, p34, p35, pe, rfl, ps22, ps33, ps34, ps35, pap⟩ := px
  obtain ⟨q22, q33, q34, q35, qe, rfl, qs22, qs33, qs34, qs35, qap⟩ := py
  obtain ⟨sm1, sm2, sm3, sm4, sm5⟩ := hp
  have a0 : A.load false 1 (.pointer (some ⟨t2, 0, none⟩)) h2 = some (.int .u8 p.kd) := by rw [load1_eq, g2]; rfl
  have b0 : A.load false 1 (.pointer (some ⟨t3, 0, none⟩)) h2 = some (.int .u8 q.kd) := by rw [load1_eq, g3]; rfl
  have a1 : A.load false 1 (.pointer (some ⟨t2, 1, none⟩)) h2 = some (.int .i64 p.op) := by rw [load1_eq, g2]; rfl
  have b1' : A.load false 1 (.pointer (some ⟨t3, 1, none⟩)) h2 = some (.int .i64 q.op) := by rw [load1_eq, g3]; rfl
  have a2 : A.load false 1 (.pointer (some ⟨t2, 2, none⟩)) h2 = some (.int .i64 p.cn) := by rw [load1_eq, g2]; rfl
  have b2' : A.load false 1 (.pointer (some ⟨t3, 2, none⟩)) h2 = some (.int .i64 q.cn) := by rw [load1_eq, g3]; rfl
  have a3 : A.load false 1 (.pointer (some ⟨t2, 3, none⟩)) h2 = some (.string p.s3) := by rw [load1_eq, g2]; rfl
  have b3 : A.load false 1 (.pointer (some ⟨t3, 3, none⟩)) h2 = some (.string q.s3) := by rw [load1_eq, g3]; rfl
  have a4 : A.load false 1 (.pointer (some ⟨t2, 4, none⟩)) h2 = some (.string p.s4) := by rw [load1_eq, g2]; rfl
  have b4 : A.load false 1 (.pointer (some ⟨t3, 4, none⟩)) h2 = some (.string q.s4) := by rw [load1_eq, g3]; rfl
  have a36 : A.load false 1 (.pointer (some ⟨t2, 36, none⟩)) h2 = some (.int .i64 p.fr) := by rw [load1_eq, g2]; rfl
  have b36 : A.load false 1 (.pointer (some ⟨t3, 36, none⟩)) h2 = some (.int .i64 q.fr) := by rw [load1_eq, g3]; rfl
  have a37 : A.load false 1 (.pointer (some ⟨t2, 37, none⟩)) h2 = some (.int .i64 p.mn) := by rw [load1_eq, g2]; rfl
  have b37 : A.load false 1 (.pointer (some ⟨t3, 37, none⟩)) h2 = some (.int .i64 q.mn) := by rw [load1_eq, g3]; rfl
  have a29 : A.load true 4 (.pointer (some ⟨t2, 29, none⟩)) h2 = some (.agg ⟨p.ms.cells⟩) := by rw [loadN_eq, g2]; rfl
  have b29 : A.load true 4 (.pointer (some ⟨t3, 29, none⟩)) h2 = some (.agg ⟨q.ms.cells⟩) := by rw [loadN_eq, g3]; rfl
  have a34 : A.load false 1 (.pointer (some ⟨t2, 34, none⟩)) h2 = some p34 := by rw [load1_eq, g2]; rfl
  have b34 : A.load false 1 (.pointer (some ⟨t3, 34, none⟩)) h2 = some q34 := by rw [load1_eq, g3]; rfl
  have lf : A.lenS p34 = some (.int .i64 (p.cls.length : Int)) := by have := ps34.len.1; rwa [List.length_map] at this
  have lg : A.lenS q34 = some (.int .i64 (q.cls.length : Int)) := by have := qs34.len.1; rwa [List.length_map] at this
  have hd : ∀ (kn : Value → Value → Value → H → Option (Value × H)), MailD7.p38arll (callB Try.prog 0 [9] (k + 409)) (k + 409) (ptrV t2) (ptrV t3) h2 kn = kn (.bool (!decide (p.kd = q.kd ∧ p.op = q.op ∧ p.cn = q.cn ∧ p.s3 = q.s3 ∧ p.s4 = q.s4 ∧ p.ms = q.ms ∧ p.fr = q.fr ∧ p.mn = q.mn ∧ (p.cls.length : Int) = (q.cls.length : Int)))) (ptrV t2) (ptrV t3) h2 := by
    intro kn
    simp only [MailD7.p38arll, fieldAddr_eq, Nat.zero_add, bnd_some, toBK_bool, bin_neq, bin_str_neq, msg_neq, a0, b0, a1, b1', a2, b2', a3, b3, a4, b4, a29, b29, a36, b36, a37, b37, a34, b34, lf, lg]
    exact or_step (F := fun b => kn (.bool b) (ptrV t2) (ptrV t3) h2) (or_step (F := fun b => kn (.bool b) (ptrV t2) (ptrV t3) h2) (or_step (F := fun b => kn (.bool b) (ptrV t2) (ptrV t3) h2) (or_step (F := fun b => kn (.bool b) (ptrV t2) (ptrV t3) h2) (or_step (F := fun b => kn (.bool b) (ptrV t2) (ptrV t3) h2) (or_step (F := fun b => kn (.bool b) (ptrV t2) (ptrV t3) h2) (or_step (F := fun b => kn (.bool b) (ptrV t2) (ptrV t3) h2) (or_step (F := fun b => kn (.bool b) (ptrV t2) (ptrV t3) h2) (rfl))))))))
  have a5 : A.load true 24 (.pointer (some ⟨t2, 5, none⟩)) h2 = some (.agg ⟨p.pk.cells p22⟩) := by rw [loadN_eq, g2]; rfl
  have b5 : A.load true 24 (.pointer (some ⟨t3, 5, none⟩)) h2 = some (.agg ⟨q.pk.cells q22⟩) := by rw [loadN_eq, g3]; rfl
  obtain ⟨h3, c47, x3⟩ := T47 (k + 209) (h := h2) (p := p.pk) (q := q.pk) ⟨p22, rfl, ps22.ext x12⟩ ⟨q22, rfl, qs22.ext x12⟩ sm1
  have x13 := x12.trans x3
  have g23 : h3.get t2 = some (.cells (p.cells p22 p33 p34 p35) (some 0)) := by rw [x3.get _ (by omega)]; exact g2
  have g33 : h3.get t3 = some (.cells (q.cells q22 q33 q34 q35) (some 0)) := by rw [x3.get _ (by omega)]; exact g3
  have a33 : A.load false 1 (.pointer (some ⟨t2, 33, none⟩)) h3 = some p33 := by rw [load1_eq, g23]; rfl
  have b33 : A.load false 1 (.pointer (some ⟨t3, 33, none⟩)) h3 = some q33 := by rw [load1_eq, g33]; rfl
  have a35 : A.load false 1 (.pointer (some ⟨t2, 35, none⟩)) h3 = some p35 := by rw [load1_eq, g23]; rfl
  have b35 : A.load false 1 (.pointer (some ⟨t3, 35, none⟩)) h3 = some q35 := by rw [load1_eq, g33]; rfl
  have c48 := T48 (k + 209) (ps33.ext x13) (qs33.ext x13) (by omega)
  obtain ⟨h4, c49, x4⟩ := T49 (k + 8) (ps35.ext x13) (qs35.ext x13) (pap.mono fun _ _ i => i.ext x13) (qap.mono fun _ _ i => i.ext x13) (by omega) sm5
  have x14 := x13.trans x4
  simp only [MailD7.F38, MailD7.p38a, MailD7.p38al, b1, b2, bnd2_some, MailD7.p38ar, MailD7.p38arl]
  rw [hd]
  by_cases ca : p.kd = q.kd ∧ p.op = q.op ∧ p.cn = q.cn ∧ p.s3 = q.s3 ∧ p.s4 = q.s4 ∧ p.ms = q.ms ∧ p.fr = q.fr ∧ p.mn = q.mn ∧ (p.cls.length : Int) = (q.cls.length : Int)
  · obtain ⟨d0, d1, d2, d3, d4, d5, d6, d7, d8⟩ := id ca
    have hl : p.cls.length = q.cls.length := by omega
    have e := lp38 (callB Try.prog 0 [9] (k + 409)) (k + 409) (fun x4 h => some (x4, h)) (fun x2 x3 h => MailD7.p38arrr (callB Try.prog 0 [9] (k + 409)) (k + 409) x2 x3 h (fun x4 h => some (x4, h))) a34 b34 (ps34.ext x12) (qs34.ext x12) hl (by omega) p.cls.length 0 (k + 409) (by omega) (by omega)
    have e' : MailD7.p38arrlrbw (callB Try.prog 0 [9] (k + 409)) (k + 409) (fun x4 h => some (x4, h)) (fun x2 x3 h => MailD7.p38arrr (callB Try.prog 0 [9] (k + 409)) (k + 409) x2 x3 h (fun x4 h => some (x4, h))) (k + 409) (.int .i64 0) (ptrV t2) (ptrV t3) h2 = _ := e
    have ee : decide (All2 Eq (p.cls.drop 0) (q.cls.drop 0)) = decide (p.cls = q.cls) := decide_eq_decide.2 (by simp [all2_eq])
    rw [ee] at e'
    simp only [decide_eq_true ca, Bool.not_true, MailD7.p38arlr, condV_bool, cond_false, MailD7.p38arr, MailD7.p38arrl, MailD7.p38arrll, MailD7.p38arrlr, MailD7.p38arrlrb]
    rw [e']
    simp only [MailD7.p38arrr, fieldAddr_eq, Nat.zero_add, bnd_some, a5, b5, c47, bnd2_some, toBK_bool, a33, b33, c48, a35, b35, c49]
    have hI : decide (SameI p q) = decide (p.cls = q.cls ∧ SameP p.pk q.pk ∧ p.mss = q.mss ∧ All2 SameP p.pks q.pks) := decide_eq_decide.2 ⟨fun ⟨_, _, _, _, _, i5, _, i7, i8, i9, _, _⟩ => ⟨i8, i5, i7, i9⟩, fun ⟨i8, i5, i7, i9⟩ => ⟨d0, d1, d2, d3, d4, i5, d5, i7, i8, i9, d6, d7⟩⟩
    rw [hI]
    exact and_ex x12 (and_ex x13 (and_ex x13 ⟨h4, rfl, x14⟩))
  · have hn : ¬ SameI p q := fun ⟨i0, i1, i2, i3, i4, _, i6, _, i8, _, i10, i11⟩ => ca ⟨i0, i1, i2, i3, i4, i6, i10, i11, by rw [i8]⟩
    refine ⟨h2, ?_, x12⟩
    simp only [decide_eq_false ca, Bool.not_false, MailD7.p38arlr, condV_bool, cond_true, decide_eq_false hn]
theorem lp19 (k L : Nat) {β : Type} (kr : Value → H → Option β) (kx : H → Option β) {h0 : H} {a b : Value} {ea eb : List (List Value)} {x y : List ItD} (sa : SliceE 38 h0 a ea) (sb : SliceE 38 h0 b eb) (pa : All2 (ItIn SliceE h0) ea x) (pb : All2 (ItIn SliceE h0) eb y) (hl : x.length = y.length) (hx : x.length ≤ 1000) (hs : ∀ p ∈ x, p.Small) :
    ∀ (d i m : Nat) (h : H), i + d = x.length → d < m → Ext h0 h → ∃ h', Ext h0 h' ∧ MailD7.p19arrlrbw (callB Try.prog 0 [9] (k + 410)) L kr kx m (.int .i64 (i : Int)) b a h = bif decide (All2 SameI (x.drop i) (y.drop i)) then kx h' else kr (.bool false) h' := by
  have hlen : A.lenS a = some (.int .i64 (x.length : Int)) := by have := sa.len.1; rwa [pa.1] at this
  intro d
  induction d with
  | zero =>
    intro i m h hi hm xx
    obtain ⟨m, rfl⟩ : ∃ q, m = q + 1 := ⟨m - 1, by omega⟩
    have hd : decide ((i : Int) < (x.length : Int)) = false := by rw [decide_eq_false_iff_not]; omega
    have ha : decide (All2 SameI (x.drop i) (y.drop i)) = true := by rw [decide_eq_true_iff, List.drop_eq_nil_of_le (by omega), List.drop_eq_nil_of_le (by omega)]; exact All2.nil
    refine ⟨h, xx, ?_⟩
    simp only [MailD7.p19arrlrbw, MailD7.p19arrlrbo, hlen, bnd_some, bin_lss, hd, toBK_bool, condV_bool, cond_false, ha, cond_true]
  | succ d ih =>
    intro i m h hi hm xx
    obtain ⟨m, rfl⟩ : ∃ q, m = q + 1 := ⟨m - 1, by omega⟩
    have hd : decide ((i : Int) < (x.length : Int)) = true := by rw [decide_eq_true_iff]; omega
    have hwr : IntKind.i64.wrap ((i : Int) + 1) = ((i + 1 : Nat) : Int) := wrap_succ (by omega)
    obtain ⟨p, hp⟩ : ∃ p, x[i]? = some p := ⟨_, List.getElem?_eq_getElem (by omega)⟩
    obtain ⟨q, hq⟩ : ∃ q, y[i]? = some q := ⟨_, List.getElem?_eq_getElem (by omega)⟩
    obtain ⟨u, hu, pu⟩ := pa.at2 hp
    obtain ⟨v, hv, pv⟩ := pb.at2 hq
    have hA := all2_drop (R := SameI) hp hq
    obtain ⟨id1, off1, cells1, own1, e11, _, e31, e41, e51, _⟩ := (sa.ext xx).at hu .i64
    have l1 : A.load true 38 (.pointer (some ⟨id1, off1, none⟩)) h = some (.agg ⟨u⟩) := load_of e31 e41 e51
    obtain ⟨id2, off2, cells2, own2, e12, _, e32, e42, e52, _⟩ := (sb.ext xx).at hv .i64
    have l2 : A.load true 38 (.pointer (some ⟨id2, off2, none⟩)) h = some (.agg ⟨v⟩) := load_of e32 e42 e52
    obtain ⟨h1, ec, x1⟩ := T38 k (pu.ext xx) (pv.ext xx) (hs p (List.mem_of_getElem? hp))
    have xx1 := xx.trans x1
    by_cases c : SameI p q
    · have hA2 : decide (All2 SameI (x.drop i) (y.drop i)) = decide (All2 SameI (x.drop (i + 1)) (y.drop (i + 1))) := decide_eq_decide.2 (by rw [hA]; simp [c])
      obtain ⟨h', x', e⟩ := ih (i + 1) m h1 (by omega) (by omega) xx1
      refine ⟨h', x', ?_⟩
      simp only [MailD7.p19arrlrbw, MailD7.p19arrlrbo, hlen, bnd_some, bin_lss, hd, toBK_bool, condV_bool, cond_true, cond_false, e11, l1, e12, l2, ec, bnd2_some, decide_eq_true c, un_not, Bool.not_true, bin_add, hwr, hA2]
      exact e
    · have hA2 : decide (All2 SameI (x.drop i) (y.drop i)) = false := by rw [decide_eq_false_iff_not, hA]; exact fun h => c h.1
      refine ⟨h1, xx1, ?_⟩
      simp only [MailD7.p19arrlrbw, MailD7.p19arrlrbo, hlen, bnd_some, bin_lss, hd, toBK_bool, condV_bool, cond_true, cond_false, e11, l1, e12, l2, ec, bnd2_some, decide_eq_false c, un_not, Bool.not_false, hA2]
theorem T19 (k : Nat) {h : H} {a b : Value} {ea eb : List (List Value)} {x y : List ItD} (sa : SliceE 38 h a ea) (sb : SliceE 38 h b eb) (pa : All2 (ItIn SliceE h) ea x) (pb : All2 (ItIn SliceE h) eb y) (hx : x.length ≤ 100) (hs : ∀ p ∈ x, p.Small) : ∃ h', callB Try.prog 0 [9] (k + 611) 19 [a, b] h = some (.bool (decide (All2 SameI x y)), h') ∧ Ext h h' := by
  have la : A.lenS a = some (.int .i64 (x.length : Int)) := by have := sa.len.1; rwa [pa.1] at this
  have lb : A.lenS b = some (.int .i64 (y.length : Int)) := by have := sb.len.1; rwa [pb.1] at this
  rw [MailD7.F19eq [9] rfl]
  by_cases hl : x.length = y.length
  · have c : (!decide ((x.length : Int) = (y.length : Int))) = false := by simp [hl]
    obtain ⟨h', x', e⟩ := lp19 (k + 200) (k + 610) (fun x4 h => some (x4, h)) (fun h => MailD7.p19arrr (callB Try.prog 0 [9] (k + 610)) (k + 610) h (fun x4 h => some (x4, h))) sa sb pa pb hl (by omega) hs x.length 0 (k + 610) h (by omega) (by omega) (Ext.refl h)
    have run : MailD7.F19 (callB Try.prog 0 [9] (k + 610)) (k + 610) a b h = MailD7.p19arrlrbw (callB Try.prog 0 [9] (k + 610)) (k + 610) (fun x4 h => some (x4, h)) (fun h => MailD7.p19arrr (callB Try.prog 0 [9] (k + 610)) (k + 610) h (fun x4 h => some (x4, h))) (k + 610) (.int .i64 ((0 : Nat) : Int)) b a h := by
      simp only [MailD7.F19, MailD7.p19a, MailD7.p19al, MailD7.p19ar, MailD7.p19arl, la, lb, bnd_some, bin_neq, c, toBK_bool, cond_false, MailD7.p19arr, MailD7.p19arrl, MailD7.p19arrll, MailD7.p19arrlr, MailD7.p19arrlrb]
      rfl
    refine ⟨h', ?_, x'⟩
    rw [run, e]
    simp only [List.drop_zero]
    by_cases hxy : All2 SameI x y
    · simp only [decide_eq_true hxy, cond_true, MailD7.p19arrr]
    · simp only [decide_eq_false hxy, cond_false]
  · have c : (!decide ((x.length : Int) = (y.length : Int))) = true := by simp; omega
    have hxy : ¬ All2 SameI x y := fun e => hl e.1
    refine ⟨h, ?_, Ext.refl h⟩
    simp only [MailD7.F19, MailD7.p19a, MailD7.p19al, MailD7.p19ar, MailD7.p19arl, la, lb, bnd_some, bin_neq, c, toBK_bool, cond_true, decide_eq_false hxy]
/-- The document's Same. -/
theorem S19c (k : Nat) {h : H} {a b : Value} {x y : List ItD} (ca : CmdIn SliceE h a x) (cb : CmdIn SliceE h b y) (hs : SmallC x) : ∃ h', callB Try.prog 0 [9] (k + 611) 19 [a, b] h = some (.bool (decide (SameC x y)), h') ∧ Ext h h' := by
  obtain ⟨ea, sa, pa⟩ := ca
  obtain ⟨eb, sb, pb⟩ := cb
  obtain ⟨h', e, x'⟩ := T19 k sa sb pa pb (by have := hs.1; omega) hs.2
  exact ⟨h', by rw [e]; rfl, x'⟩
end Go.Proofs.Ytdjhkdogpbiglaa.MailD

namespace Go.Proofs.Ytdjhkdogpbiglaa.MailD
open Go Go.AM
/-- Only blocks from b on, of these kinds, may be other ones. -/
def Mv (b : Nat) (tags : List Nat) (h h' : H) : Prop := ExtBut (fun i => b ≤ i ∧ ∃ cs m, h.get i = some (.cells cs (some m)) ∧ m ∈ tags) h h'
theorem Mv.ofExt {b : Nat} {tags : List Nat} {h h' : H} (x : Ext h h') : Mv b tags h h' := x.but
theorem Mv.refl (b : Nat) (tags : List Nat) (h : H) : Mv b tags h h := (Ext.refl h).but
theorem Mv.trans {b : Nat} {tags : List Nat} {h h1 h2 : H} (x : Mv b tags h h1) (y : Mv b tags h1 h2) : Mv b tags h h2 :=
  ⟨Nat.le_trans x.next y.next, fun id hi hs => by
    have e := x.get id hi hs
    rw [y.get id (Nat.lt_of_lt_of_le hi x.next) (fun ⟨hb, cs, m, hg, hm⟩ => hs ⟨hb, cs, m, by rw [← e]; exact hg, hm⟩), e]⟩
theorem Mv.mono {b : Nat} {tags tags' : List Nat} {h h' : H} (x : Mv b tags h h') (ht : ∀ m ∈ tags, m ∈ tags') : Mv b tags' h h' :=
  ⟨x.next, fun id hi hs => x.get id hi fun ⟨hb, cs, m, hg, hm⟩ => hs ⟨hb, cs, m, hg, ht m hm⟩⟩
theorem Mv.put {b : Nat} {tags : List Nat} {h : H} {q m : Nat} {cs : List Value} (hb : b ≤ q) (hg : h.get q = some (.cells cs (some m))) (hm : m ∈ tags) (k : Blk) : Mv b tags h (h.put q k) :=
  ExtBut.put ⟨Nat.le_refl _, fun _ _ _ => rfl⟩ q k ⟨hb, cs, m, hg, hm⟩
theorem Mv.ext {b : Nat} {tags : List Nat} {h0 h h' : H} (x : Ext h0 h) (y : Mv b tags h h') (hb : h0.next ≤ b) : Ext h0 h' :=
  ⟨Nat.le_trans x.next y.next, fun id hi => by rw [y.get id (Nat.lt_of_lt_of_le hi x.next) (fun ⟨h1, _⟩ => by omega)]; exact x.get id hi⟩
theorem Mv.vec {b : Nat} {n : Nat} {h h' : H} {v : Value} {es : List (List Value)} (x : Vec n h v es) (hb : ∀ i, sid v = some i → b ≤ i) (y : ExtBut (fun i => sid v = some i) h h') : Mv b [n] h h' :=
  ⟨y.next, fun id hi hs => y.get id hi fun e => by
    rcases x.2 with ⟨rfl, _⟩ | ⟨q, rfl, _, hg⟩
    · simp [sid] at e
    · have : q = id := by simpa [sid] using e
      subst this
      exact hs ⟨hb _ e, _, n, hg, by simp⟩⟩
theorem OwnW.mv {S : Nat → Prop} {b n : Nat} {tags : List Nat} {h h' : H} {v : Value} {els : List (List Value)} (x : OwnW S n h v els) (e : Mv b tags h h') (hn : n ∉ tags) : OwnW S n h' v els := by
  by_cases hne : els = []
  · subst hne
    refine ⟨⟨by simp, ?_⟩, x.2.1, fun h => absurd rfl h⟩
    rcases x.1.2 with hv | ⟨id, off, c, hv, hl, hi, _⟩
    · exact .inl hv
    · exact .inr ⟨id, off, c, hv, hl, Nat.lt_of_lt_of_le hi e.next, fun h => absurd rfl h⟩
  · obtain ⟨q, c, hv, hg⟩ := x.2.2 hne
    have hq : sid v = some q := by rw [hv]; rfl
    have hq2 := x.1.sid_lt q hq
    have e2 : h'.get q = h.get q := e.get q hq2 fun ⟨_, cs, m, hg', hm⟩ => by
      rw [hg] at hg'
      injection hg' with hg'; injection hg' with _ hg'; injection hg' with hg'
      subst hg'
      exact hn hm
    refine ⟨⟨x.1.1, ?_⟩, x.2.1, fun _ => ⟨q, c, hv, by rw [e2]; exact hg⟩⟩
    rcases x.1.2 with ⟨_, h0⟩ | ⟨id, off, c', hv', hl, hi, h3⟩
    · exact absurd h0 hne
    · have : id = q := by rw [hv'] at hq; simpa [sid] using hq
      subst this
      refine .inr ⟨id, off, c', hv', hl, Nat.lt_of_lt_of_le hi e.next, fun hh => ?_⟩
      obtain ⟨cells, own, hg3, h4, h5⟩ := h3 hh
      exact ⟨cells, own, by rw [e2]; exact hg3, h4, h5⟩
theorem Vec.mv {b n : Nat} {tags : List Nat} {h h' : H} {v : Value} {es : List (List Value)} (x : Vec n h v es) (e : Mv b tags h h') (hn : n ∉ tags) : Vec n h' v es := by
  refine ⟨x.1, ?_⟩
  rcases x.2 with hv | ⟨q, hv, hq, hg⟩
  · exact .inl hv
  · refine .inr ⟨q, hv, Nat.lt_of_lt_of_le hq e.next, ?_⟩
    rw [e.get q hq fun ⟨_, cs, m, hg', hm⟩ => by
      rw [hg] at hg'
      injection hg' with hg'; injection hg' with _ hg'; injection hg' with hg'
      subst hg'
      exact hn hm]
    exact hg
theorem PkIn.mv {S : Nat → Prop} {b : Nat} {tags : List Nat} {h h' : H} {x : List Value} {p : PkD} (i : PkIn (OwnW S) h x p) (e : Mv b tags h h') (h2 : 2 ∉ tags) : PkIn (OwnW S) h' x p := by
  obtain ⟨w, hx, s⟩ := i
  exact ⟨w, hx, s.mv e h2⟩
theorem ItIn.mv {S : Nat → Prop} {b : Nat} {tags : List Nat} {h h' : H} {x : List Value} {p : ItD} (i : ItIn (OwnW S) h x p) (e : Mv b tags h h') (h1 : 1 ∉ tags) (h2 : 2 ∉ tags) (h4 : 4 ∉ tags) (h24 : 24 ∉ tags) : ItIn (OwnW S) h' x p := by
  obtain ⟨a, b, c, d, es, hx, s22, s33, s34, s35, al⟩ := i
  exact ⟨a, b, c, d, es, hx, s22.mv e h2, s33.mv e h4, s34.mv e h1, s35.mv e h24, al.mono fun _ _ i => i.mv e h2⟩
theorem PkIn.own {S T : Nat → Prop} (hs : ∀ i, S i → T i) {h : H} {x : List Value} {p : PkD} (i : PkIn (OwnW S) h x p) : PkIn (OwnW T) h x p := i.map fun _ _ _ s => s.mono hs
/-- append to nil. -/
theorem app_nilD {n bs : Nat} {h : H} {v : Value} {els : List (List Value)} (s : SliceE n h v els) (hb : els.length * bs ≤ 2 ^ 47) (hl : els.length ≤ 2 ^ 47) : ∃ v' h', A.append n bs (.slice none 0 0) v h = some (v', h') ∧ OwnW (fun i => h.next ≤ i) n h' v' els ∧ Ext h h' := by
  obtain ⟨_, hlen⟩ := s.len
  have hel := s.elems
  by_cases h0 : els.length = 0
  · have hz : els = [] := List.length_eq_zero_iff.1 h0
    subst hz
    refine ⟨.slice none 0 0, h, ?_, OwnW.nil _ _ _, Ext.refl h⟩
    have e0 : Nat.beq ([] : List (List Value)).length 0 = true := rfl
    simp only [A.append, hel, hlen, e0, cond_true]
  · have e0 : Nat.beq els.length 0 = false := by rw [T.beq_dec]; simpa using h0
    have e2 : Nat.ble (els.length * bs) (2 ^ 47) = true := ble_iff.2 hb
    have e3 : Nat.ble els.length (2 ^ 47) = true := ble_iff.2 hl
    have hfl : els.flatten.length = els.length * n := flatten_len s.1
    have hg : (h.push (.cells els.flatten (some n))).get h.next = some (.cells els.flatten (some n)) := by rw [H.get_push, if_pos rfl]
    refine ⟨.slice (some ⟨h.next, 0, none⟩) els.length (2 * els.length), h.push (.cells els.flatten (some n)), ?_, ⟨⟨s.1, .inr ⟨h.next, 0, _, rfl, by omega, Nat.lt_succ_self _, fun _ => ⟨_, _, hg, by omega, by rw [List.drop_zero, List.take_of_length_le (by omega)]⟩⟩⟩, fun i hi => ?_, fun _ => ⟨h.next, _, rfl, hg⟩⟩, Ext.push h _⟩
    · simp only [A.append, hel, hlen, e0, cond_false, e2, e3, Bool.and_self, cond_true]
    · have : h.next = i := by simpa [sid] using hi
      omega
/-- slices.Clone's append. -/
theorem clone_appD {n bs : Nat} {h : H} {v : Value} {els : List (List Value)} (s : SliceE n h v els) (z : List Value) (hb : els.length * bs ≤ 2 ^ 47) (hl : els.length ≤ 2 ^ 47) :
    ∃ h1 v' h', A.buildSlice n 0 z [] h = some (.slice (some ⟨h.next, 0, none⟩) 0 1, h1) ∧ A.append n bs (.slice (some ⟨h.next, 0, none⟩) 0 1) v h1 = some (v', h') ∧ OwnW (fun i => h.next ≤ i) n h' v' els ∧ Ext h h' := by
  obtain ⟨h1, hh1⟩ : ∃ h1, h1 = h.push (.cells [] (some n)) := ⟨_, rfl⟩
  have x1 : Ext h h1 := hh1 ▸ Ext.push h _
  have n1 : h1.next = h.next + 1 := by rw [hh1]; rfl
  have gt : h1.get h.next = some (.cells [] (some n)) := by rw [hh1, H.get_push, if_pos rfl]
  have s1 := s.ext x1
  obtain ⟨_, hlen⟩ := s1.len
  have hel := s1.elems
  have bsl : A.buildSlice n 0 z [] h = some (.slice (some ⟨h.next, 0, none⟩) 0 1, h1) := by rw [hh1]; rfl
  by_cases h0 : els = []
  · subst h0
    refine ⟨h1, .slice (some ⟨h.next, 0, none⟩) 0 1, h1, bsl, ?_, ⟨⟨by simp, .inr ⟨h.next, 0, 1, rfl, by simp, by omega, fun h => absurd rfl h⟩⟩, fun i hi => ?_, fun h => absurd rfl h⟩, x1⟩
    · simp only [A.append, hel, hlen]; rfl
    · have e : h.next = i := (by simpa [AM.sid] using hi)
      omega
  · have hpos : 0 < els.length := List.length_pos_iff.2 h0
    have hfl : els.flatten.length = els.length * n := flatten_len s.1
    have hg : (h1.push (.cells els.flatten (some n))).get h1.next = some (.cells els.flatten (some n)) := by rw [H.get_push, if_pos rfl]
    refine ⟨h1, .slice (some ⟨h1.next, 0, none⟩) els.length (2 * els.length), h1.push (.cells els.flatten (some n)), bsl, ?_, ⟨⟨s.1, .inr ⟨h1.next, 0, _, rfl, by omega, Nat.lt_succ_self _, fun _ => ⟨_, _, hg, by omega, by rw [List.drop_zero, List.take_of_length_le (by omega)]⟩⟩⟩, fun i hi => ?_, fun _ => ⟨h1.next, _, rfl, hg⟩⟩, x1.pushed _⟩
    · simp only [A.append, hel, hlen, gt]
      have e0 : Nat.beq els.length 0 = false := by rw [T.beq_dec]; simp; omega
      have e1 : Nat.ble (0 + els.length) (1 / 2) = false := by rw [ble_dec, decide_eq_false_iff_not]; omega
      have e2 : Nat.ble ((0 + els.length) * bs) (2 ^ 47) = true := ble_iff.2 (by simpa using hb)
      have e3 : Nat.ble (0 + els.length) (2 ^ 47) = true := ble_iff.2 (by simpa using hl)
      have e4 : Nat.ble (0 + 0 * n) ([] : List Value).length = true := ble_iff.2 (by simp)
      rw [e0, e1, e2, e3, e4]
      simp
    · have : h1.next = i := by simpa [sid] using hi
      omega
theorem T41D (k : Nat) {h : H} {v : Value} {els : List (List Value)} (s : SliceE 38 h v els) (hl : els.length ≤ 100) : ∃ v' h', callB Try.prog 0 [9] (k + 1) 41 [v] h = some (v', h') ∧ OwnW (fun i => h.next ≤ i) 38 h' v' els ∧ Ext h h' := by
  rw [F41eq [9] rfl]
  rcases s.nil_or with ⟨rfl, rfl⟩ | ⟨a, c, rfl⟩
  · have e : A.bin Try.prog .eql 29 (.slice none 0 0) (.slice none 0 0) = some (.bool true) := by kernel_rfl
    exact ⟨_, h, by simp only [F41, p41a, e, bnd_some, toBK_bool, cond_true], OwnW.nil _ 38 h, Ext.refl h⟩
  · obtain ⟨h1, v', h', e1, e2, c', x'⟩ := clone_appD (bs := 384) s Z71L (by omega) (by omega)
    exact ⟨v', h', by simp only [F41, p41a, bin_slice_nil Try.underlying29, bnd_some, toBK_bool, cond_false, e1, bnd2_some, e2], c', x'⟩
theorem T43D (k : Nat) {h : H} {v : Value} {els : List (List Value)} (s : SliceE 4 h v els) (hl : els.length ≤ 100) : ∃ v' h', callB Try.prog 0 [9] (k + 1) 43 [v] h = some (v', h') ∧ OwnW (fun i => h.next ≤ i) 4 h' v' els ∧ Ext h h' := by
  rw [F43eq [9] rfl]
  rcases s.nil_or with ⟨rfl, rfl⟩ | ⟨a, c, rfl⟩
  · have e : A.bin Try.prog .eql 67 (.slice none 0 0) (.slice none 0 0) = some (.bool true) := by kernel_rfl
    exact ⟨_, h, by simp only [F43, p43a, e, bnd_some, toBK_bool, cond_true], OwnW.nil _ 4 h, Ext.refl h⟩
  · obtain ⟨h1, v', h', e1, e2, c', x'⟩ := clone_appD (bs := 40) s Z63L (by omega) (by omega)
    exact ⟨v', h', by simp only [F43, p43a, bin_slice_nil Try.underlying67, bnd_some, toBK_bool, cond_false, e1, bnd2_some, e2], c', x'⟩
theorem T44D (k : Nat) {h : H} {v : Value} {els : List (List Value)} (s : SliceE 1 h v els) (hl : els.length ≤ 100) : ∃ v' h', callB Try.prog 0 [9] (k + 1) 44 [v] h = some (v', h') ∧ OwnW (fun i => h.next ≤ i) 1 h' v' els ∧ Ext h h' := by
  rw [F44eq [9] rfl]
  rcases s.nil_or with ⟨rfl, rfl⟩ | ⟨a, c, rfl⟩
  · have e : A.bin Try.prog .eql 68 (.slice none 0 0) (.slice none 0 0) = some (.bool true) := by kernel_rfl
    exact ⟨_, h, by simp only [F44, p44a, e, bnd_some, toBK_bool, cond_true], OwnW.nil _ 1 h, Ext.refl h⟩
  · obtain ⟨h1, v', h', e1, e2, c', x'⟩ := clone_appD (bs := 16) s Z9L (by omega) (by omega)
    exact ⟨v', h', by simp only [F44, p44a, bin_slice_nil Try.underlying68, bnd_some, toBK_bool, cond_false, e1, bnd2_some, e2], c', x'⟩
theorem T45D (k : Nat) {h : H} {v : Value} {els : List (List Value)} (s : SliceE 24 h v els) (hl : els.length ≤ 100) : ∃ v' h', callB Try.prog 0 [9] (k + 1) 45 [v] h = some (v', h') ∧ OwnW (fun i => h.next ≤ i) 24 h' v' els ∧ Ext h h' := by
  rw [F45eq [9] rfl]
  rcases s.nil_or with ⟨rfl, rfl⟩ | ⟨a, c, rfl⟩
  · have e : A.bin Try.prog .eql 69 (.slice none 0 0) (.slice none 0 0) = some (.bool true) := by kernel_rfl
    exact ⟨_, h, by simp only [F45, p45a, e, bnd_some, toBK_bool, cond_true], OwnW.nil _ 24 h, Ext.refl h⟩
  · obtain ⟨h1, v', h', e1, e2, c', x'⟩ := clone_appD (bs := 200) s Z66L (by omega) (by omega)
    exact ⟨v', h', by simp only [F45, p45a, bin_slice_nil Try.underlying69, bnd_some, toBK_bool, cond_false, e1, bnd2_some, e2], c', x'⟩
/-- What both texts' Copy of a packet do. -/
theorem copyP {h : H} {x : List Value} {p : PkD} (px : PkIn SliceE h x p) (hp : p.Small) (z : Value) (hz : cellsL z = some Z66L) : ∃ h1 h2 w v' h3 h4 h5 cs, A.box 24 (.agg ⟨x⟩) h = some (ptrV h.next, h1) ∧ A.box 24 z h1 = some (ptrV h1.next, h2) ∧ A.load false 1 (.pointer (some ⟨h.next, 22, none⟩)) h2 = some w ∧
    A.append 2 24 (.slice none 0 0) w h2 = some (v', h3) ∧ A.store 1 (.pointer (some ⟨h.next, 22, none⟩)) v' h3 = some h4 ∧ A.load true 24 (ptrV h.next) h4 = some (.agg ⟨cs⟩) ∧ A.store 24 (ptrV h1.next) (.agg ⟨cs⟩) h4 = some h5 ∧ A.load true 24 (ptrV h1.next) h5 = some (.agg ⟨cs⟩) ∧
    PkIn (OwnW (fun i => h.next ≤ i)) h5 cs p ∧ Ext h h5 := by
  obtain ⟨w, rfl, s⟩ := px
  obtain ⟨h1, hh1⟩ : ∃ h1, h1 = h.push (.cells (p.cells w) (some 0)) := ⟨_, rfl⟩
  have b1 : A.box 24 (.agg ⟨p.cells w⟩) h = some (ptrV h.next, h1) := by rw [hh1]; rfl
  have n1 : h1.next = h.next + 1 := by rw [hh1]; rfl
  have x1 : Ext h h1 := hh1 ▸ Ext.push h _
  have g1 : h1.get h.next = some (.cells (p.cells w) (some 0)) := by rw [hh1, H.get_push, if_pos rfl]
  obtain ⟨h2, hh2⟩ : ∃ h2, h2 = h1.push (.cells Z66L (some 0)) := ⟨_, rfl⟩
  have b2 : A.box 24 z h1 = some (ptrV h1.next, h2) := by rw [box_eq, hz, hh2]; rfl
  have n2 : h2.next = h1.next + 1 := by rw [hh2]; rfl
  have x2 : Ext h1 h2 := hh2 ▸ Ext.push h1 _
  have g2a : h2.get h.next = some (.cells (p.cells w) (some 0)) := by rw [x2.get _ (by omega)]; exact g1
  have g2b : h2.get h1.next = some (.cells Z66L (some 0)) := by rw [hh2, H.get_push, if_pos rfl]
  have l22 : A.load false 1 (.pointer (some ⟨h.next, 22, none⟩)) h2 = some w := by rw [load1_eq, g2a]; rfl
  have hl : (p.subs.map sbC).length ≤ 100 := by rw [List.length_map]; exact hp
  obtain ⟨v', h3, ap, own, x3⟩ := app_nilD (bs := 24) ((s.ext x1).ext x2) (by omega) (by omega)
  have nx3 := x3.next
  have g3a : h3.get h.next = some (.cells (p.cells w) (some 0)) := by rw [x3.get _ (by omega)]; exact g2a
  have g3b : h3.get h1.next = some (.cells Z66L (some 0)) := by rw [x3.get _ (by omega)]; exact g2b
  obtain ⟨h4, hh4⟩ : ∃ h4, h4 = h3.put h.next (.cells (p.cells v') (some 0)) := ⟨_, rfl⟩
  have s1 : A.store 1 (.pointer (some ⟨h.next, 22, none⟩)) v' h3 = some h4 := by
    rw [store_eq, g3a, own.slice.cells, hh4]
    rfl
  have g4a : h4.get h.next = some (.cells (p.cells v') (some 0)) := by rw [hh4, H.get_put, if_pos rfl]
  have g4b : h4.get h1.next = some (.cells Z66L (some 0)) := by rw [hh4, H.get_put, if_neg (by omega)]; exact g3b
  have l4 : A.load true 24 (ptrV h.next) h4 = some (.agg ⟨p.cells v'⟩) := load_box g4a rfl
  obtain ⟨h5, hh5⟩ : ∃ h5, h5 = h4.put h1.next (.cells (p.cells v') (some 0)) := ⟨_, rfl⟩
  have s2 : A.store 24 (ptrV h1.next) (.agg ⟨p.cells v'⟩) h4 = some h5 := by
    rw [store_eq, g4b, hh5]
    rfl
  have g5 : h5.get h1.next = some (.cells (p.cells v') (some 0)) := by rw [hh5, H.get_put, if_pos rfl]
  have l5 : A.load true 24 (ptrV h1.next) h5 = some (.agg ⟨p.cells v'⟩) := load_box g5 rfl
  have m45 : Mv h.next [0] h3 h5 := by
    rw [hh5, hh4] at *
    exact (Mv.put (Nat.le_refl _) g3a (by simp) _).trans (Mv.put (by omega) g4b (by simp) _)
  refine ⟨h1, h2, w, v', h3, h4, h5, p.cells v', b1, b2, l22, ap, s1, l4, s2, l5, ⟨v', rfl, (own.mono (T := fun i => h.next ≤ i) fun i hi => by omega).mv m45 (by simp)⟩, Mv.ext (((x1.trans x2).trans x3)) m45 (Nat.le_refl _)⟩
theorem T42D (k : Nat) {h : H} {x : List Value} {p : PkD} (px : PkIn SliceE h x p) (hp : p.Small) : ∃ cs h', callB Try.prog 0 [9] (k + 1) 42 [.agg ⟨x⟩] h = some (.agg ⟨cs⟩, h') ∧ PkIn (OwnW (fun i => h.next ≤ i)) h' cs p ∧ Ext h h' := by
  rw [F42eq [9] rfl]
  obtain ⟨h1, h2, w, v', h3, h4, h5, cs, b1, b2, l22, ap, s1, l4, s2, l5, own, x5⟩ := copyP px hp Z66 rfl
  refine ⟨cs, h5, ?_, own, x5⟩
  simp only [F42, p42a, b1, bnd2_some, b2, fieldAddr_eq, Nat.zero_add, bnd_some, l22, ap, s1, l4, s2, l5]
  rfl
theorem T37D (k : Nat) {h : H} {x : List Value} {p : PkD} (px : PkIn SliceE h x p) (hp : p.Small) : ∃ cs h', callB Try.prog 0 [9] (k + 1) 37 [.agg ⟨x⟩] h = some (.agg ⟨cs⟩, h') ∧ PkIn (OwnW (fun i => h.next ≤ i)) h' cs p ∧ Ext h h' := by
  rw [MailD7.F37eq [9] rfl]
  obtain ⟨h1, h2, w, v', h3, h4, h5, cs, b1, b2, l22, ap, s1, l4, s2, l5, own, x5⟩ := copyP px hp MailD7.Z66 rfl
  refine ⟨cs, h5, ?_, own, x5⟩
  simp only [MailD7.F37, MailD7.p37a, b1, bnd2_some, b2, fieldAddr_eq, Nat.zero_add, bnd_some, l22, ap, s1, l4, s2, l5]
  rfl
/-- A place of a slice of the call's own. -/
theorem OwnW.at {S : Nat → Prop} {n : Nat} {h : H} {v : Value} {els : List (List Value)} (c : OwnW S n h v els) {i : Nat} (hi : i < els.length) : ∃ q, A.idxS n v (.int .i64 (i : Int)) = some (.pointer (some ⟨q, i * n, none⟩)) ∧ S q ∧ q < h.next ∧ AM.sid v = some q ∧ h.get q = some (.cells els.flatten (some n)) ∧
    A.load true n (.pointer (some ⟨q, i * n, none⟩)) h = some (.agg ⟨els[i]⟩) ∧
    ∀ (w : List Value) (g : H), w.length = n → g.get q = h.get q → h.next ≤ g.next → A.store n (.pointer (some ⟨q, i * n, none⟩)) (.agg ⟨w⟩) g = some (g.put q (.cells (els.set i w).flatten (some n))) ∧ OwnW S n (g.put q (.cells (els.set i w).flatten (some n))) v (els.set i w) := by
  have hne : els ≠ [] := fun e => by subst e; simp at hi
  obtain ⟨q, cc, hv, hg⟩ := c.2.2 hne
  have hsq : sid v = some q := by rw [hv]; rfl
  have hq := c.1.sid_lt q hsq
  have hS := c.2.1 q hsq
  have hfl := flatten_len c.1.1
  have hle : (i + 1) * n ≤ els.length * n := Nat.mul_le_mul_right n hi
  rw [Nat.succ_mul] at hle
  have ix := idxS_eq n q 0 els.length cc i .i64 hi
  rw [Nat.zero_add] at ix
  obtain ⟨id, off, cells, own, e1, _, e3, e4, e5, _⟩ := c.1.at (List.getElem?_eq_getElem hi) .i64
  rw [hv, ix] at e1
  have eid : q = id ∧ i * n = off := by
    injection e1 with e1; injection e1 with e1; injection e1 with e1; injection e1 with a b _
    exact ⟨a, b⟩
  obtain ⟨rfl, rfl⟩ := eid
  refine ⟨q, by rw [hv]; exact ix, hS, hq, hsq, hg, load_of e3 e4 e5, fun w g hw hgq hgn => ?_⟩
  rw [store_eq, hgq, hg]
  have c1 : Nat.beq w.length n = true := by rw [beq_dec', decide_eq_true_iff]; exact hw
  have c2 : Nat.ble (i * n + n) els.flatten.length = true := by rw [ble_dec, decide_eq_true_iff]; omega
  have hall : ∀ e ∈ els.set i w, e.length = n := fun e he => by
    rcases List.mem_or_eq_of_mem_set he with h1 | h1
    · exact c.1.1 e h1
    · rw [h1]; exact hw
  have hgg : (g.put q (.cells (els.set i w).flatten (some n))).get q = some (.cells (els.set i w).flatten (some n)) := by rw [H.get_put, if_pos rfl]
  have hfl2 := flatten_len hall
  rw [List.length_set] at hfl2
  have hcl : els.length ≤ cc / 2 := by
    rcases c.1.2 with ⟨_, h0⟩ | ⟨id, off, c', hv', hl, _⟩
    · exact absurd h0 hne
    · rw [hv] at hv'
      injection hv' with _ _ hc
      subst hc
      exact hl
  refine ⟨?_, ⟨hall, .inr ⟨q, 0, cc, by rw [List.length_set]; exact hv, by rw [List.length_set]; exact hcl, Nat.lt_of_lt_of_le hq hgn, fun _ => ⟨_, _, hgg, by rw [List.length_set]; omega, by rw [List.length_set, List.drop_zero, List.take_of_length_le (by omega)]⟩⟩⟩, c.2.1, fun _ => ⟨q, cc, by rw [List.length_set]; exact hv, hgg⟩⟩
  simp only [cellsL_agg, c1, c2, Bool.and_self, cond_true, flatten_splice els i c.1.1 hw hi]
end Go.Proofs.Ytdjhkdogpbiglaa.MailD

namespace Go.Proofs.Ytdjhkdogpbiglaa.MailD
open Go Go.AM
section
variable {h : H} {t : Nat} {x : ItD} {a b c d v : Value}
theorem stT33 (hg : h.get t = some (.cells (x.cells a b c d) (some 0))) (hv : cellsL v = some [v]) : A.store 1 (.pointer (some ⟨t, 33, none⟩)) v h = some (h.put t (.cells (x.cells a v c d) (some 0))) := by
  rw [store_eq, hg, hv]; rfl
theorem stT34 (hg : h.get t = some (.cells (x.cells a b c d) (some 0))) (hv : cellsL v = some [v]) : A.store 1 (.pointer (some ⟨t, 34, none⟩)) v h = some (h.put t (.cells (x.cells a b v d) (some 0))) := by
  rw [store_eq, hg, hv]; rfl
theorem stT35 (hg : h.get t = some (.cells (x.cells a b c d) (some 0))) (hv : cellsL v = some [v]) : A.store 1 (.pointer (some ⟨t, 35, none⟩)) v h = some (h.put t (.cells (x.cells a b c v) (some 0))) := by
  rw [store_eq, hg, hv]; rfl
theorem stT5 (hg : h.get t = some (.cells (x.cells a b c d) (some 0))) : A.store 24 (.pointer (some ⟨t, 5, none⟩)) (.agg ⟨x.pk.cells v⟩) h = some (h.put t (.cells (x.cells v b c d) (some 0))) := by
  rw [store_eq, hg]; rfl
theorem ldT5 (hg : h.get t = some (.cells (x.cells a b c d) (some 0))) : A.load true 24 (.pointer (some ⟨t, 5, none⟩)) h = some (.agg ⟨x.pk.cells a⟩) := by
  rw [loadN_eq, hg]; rfl
theorem ldT33 (hg : h.get t = some (.cells (x.cells a b c d) (some 0))) : A.load false 1 (.pointer (some ⟨t, 33, none⟩)) h = some b := by
  rw [load1_eq, hg]; rfl
theorem ldT34 (hg : h.get t = some (.cells (x.cells a b c d) (some 0))) : A.load false 1 (.pointer (some ⟨t, 34, none⟩)) h = some c := by
  rw [load1_eq, hg]; rfl
theorem ldT35 (hg : h.get t = some (.cells (x.cells a b c d) (some 0))) : A.load false 1 (.pointer (some ⟨t, 35, none⟩)) h = some d := by
  rw [load1_eq, hg]; rfl
theorem ldT (hg : h.get t = some (.cells (x.cells a b c d) (some 0))) : A.load true 38 (ptrV t) h = some (.agg ⟨x.cells a b c d⟩) := load_box hg rfl
end
theorem get_put_same (h : H) (i : Nat) (b : Blk) : (h.put i b).get i = some b := by rw [H.get_put, if_pos rfl]
/-- One more of a row that grows. -/
theorem append_one {n bs : Nat} {h : H} {v : Value} {es : List (List Value)} {zs vs : List Value} {b : Nat} (vv : Vec n h v es) (hb : ∀ i, sid v = some i → b ≤ i) (hbn : b ≤ h.next) (hz : zs.length = n) (hvs : vs.length = n) (hn : 0 < n) (hs : (es.length + 1) * bs ≤ 2 ^ 47) (hl : es.length + 1 ≤ 2 ^ 47) :
    ∃ u h1 v' h', A.buildSlice n 1 zs [(0, n, .agg ⟨vs⟩)] h = some (u, h1) ∧ A.append n bs v u h1 = some (v', h') ∧ Vec n h' v' (es ++ [vs]) ∧ (∀ i, sid v' = some i → b ≤ i) ∧ Mv b [n] h h' ∧ h.next ≤ h'.next := by
  have hb1 := buildSlice_one (n := n) (zs := zs) (v := .agg ⟨vs⟩) h hz (cellsL_agg vs) hvs
  obtain ⟨h1, hh1⟩ : ∃ h1, h1 = h.push (.cells vs (some n)) := ⟨_, rfl⟩
  rw [← hh1] at hb1
  have x1 : Ext h h1 := hh1 ▸ Ext.push h _
  have n1 : h1.next = h.next + 1 := by rw [hh1]; rfl
  have s1 : SliceE n h1 (.slice (some ⟨h.next, 0, none⟩) 1 3) [vs] := hh1 ▸ slice_one hvs
  obtain ⟨h', e, v', hn', x'⟩ := append_vec (bs := bs) (vv.ext x1) s1 (by simp) hn (by simpa using hs) (by simpa using hl)
  have nx := x'.next
  refine ⟨_, h1, _, h', hb1, e, v', fun i hi => ?_, (Mv.ofExt x1).trans (Mv.vec (vv.ext x1) hb x'), by omega⟩
  have : h1.next = i := by simpa [sid] using hi
  omega
/-- Its packets. -/
theorem pks16 (k L : Nat) {β : Type} (kx : Value → Value → Value → Value → H → Option β) {h0 hS : H} (x0S : Ext h0 hS) {x0 : Value} {els : List (List Value)} (s0 : SliceE 38 h0 x0 els) {i : Nat} {T : ItD} {p22 p33 p34 p35 : Value} (hi : els[i]? = some (T.cells p22 p33 p34 p35)) {pe : List (List Value)} (s35 : SliceE 24 h0 p35 pe) (ap : All2 (PkIn SliceE h0) pe T.pks) (sm : T.Small) {t : Nat} (ht0 : h0.next ≤ t) (htS : t < hS.next) (x3 : Value) :
    ∀ (dd j m : Nat) (h : H) (a b c vk : Value) (eks : List (List Value)), j + dd = T.pks.length → dd < m → ExtBut (fun i => i = t) hS h → h.get t = some (.cells (T.cells a b c vk) (some 0)) → Vec 24 h vk eks → (∀ i, sid vk = some i → hS.next ≤ i) → All2 (PkIn (OwnW (fun i => hS.next ≤ i)) h) eks (T.pks.take j) →
      ∃ h' vk' eks', MailD7.p16arrlrborlbrrrrrrrlrbw (callB Try.prog 0 [9] (k + 1)) L kx m (.int .i64 (j : Int)) x3 (ptrV t) (.int .i64 (i : Int)) x0 h = kx x3 (ptrV t) (.int .i64 (i : Int)) x0 h' ∧ ExtBut (fun i => i = t) hS h' ∧ h'.get t = some (.cells (T.cells a b c vk') (some 0)) ∧ Vec 24 h' vk' eks' ∧ (∀ i, sid vk' = some i → hS.next ≤ i) ∧ All2 (PkIn (OwnW (fun i => hS.next ≤ i)) h') eks' T.pks := by
  have hx0 : ∀ {h : H}, ExtBut (fun i => i = t) hS h → Ext h0 h := fun {h} x => ⟨Nat.le_trans x0S.next x.next, fun id hid => by rw [x.get id (Nat.lt_of_lt_of_le hid x0S.next) (by omega)]; exact x0S.get id hid⟩
  intro dd
  induction dd with
  | zero =>
    intro j m h a b c vk eks hj hm x hg vv hb al
    obtain ⟨m, rfl⟩ : ∃ q, m = q + 1 := ⟨m - 1, by omega⟩
    obtain ⟨id, off, cells, own, e1, _, e3, _, _, e6⟩ := (s0.ext (hx0 x)).at hi .i64
    have l1 : A.load false 1 (.pointer (some ⟨id, off + 35, none⟩)) h = some p35 := by rw [load1_eq, e3]; exact e6 35 (by omega)
    have hlen : A.lenS p35 = some (.int .i64 (T.pks.length : Int)) := by have := s35.len.1; rwa [ap.1] at this
    have hd : decide ((j : Int) < (T.pks.length : Int)) = false := by rw [decide_eq_false_iff_not]; omega
    refine ⟨h, vk, eks, ?_, x, hg, vv, hb, by rw [List.take_of_length_le (by omega)] at al; exact al⟩
    simp only [MailD7.p16arrlrborlbrrrrrrrlrbw, MailD7.p16arrlrborlbrrrrrrrlrbo, MailD7.p16arrlrborlbrrrrrrrlrbol, e1, bnd_some, fieldAddr_eq, l1, hlen, bin_lss, hd, toBK_bool, cond_false]
  | succ dd ih =>
    intro j m h a b c vk eks hj hm x hg vv hb al
    obtain ⟨m, rfl⟩ : ∃ q, m = q + 1 := ⟨m - 1, by omega⟩
    have x0h := hx0 x
    obtain ⟨id, off, cells, own, e1, _, e3, _, _, e6⟩ := (s0.ext x0h).at hi .i64
    have l1 : A.load false 1 (.pointer (some ⟨id, off + 35, none⟩)) h = some p35 := by rw [load1_eq, e3]; exact e6 35 (by omega)
    have hlen : A.lenS p35 = some (.int .i64 (T.pks.length : Int)) := by have := s35.len.1; rwa [ap.1] at this
    have hd : decide ((j : Int) < (T.pks.length : Int)) = true := by rw [decide_eq_true_iff]; omega
    have hjl := sm.2.2.2.1
    have hwr : IntKind.i64.wrap ((j : Int) + 1) = ((j + 1 : Nat) : Int) := wrap_succ (by omega)
    obtain ⟨p, hp⟩ : ∃ p, T.pks[j]? = some p := ⟨_, List.getElem?_eq_getElem (by omega)⟩
    obtain ⟨u, hu, pu⟩ := ap.at2 hp
    obtain ⟨id2, off2, cells2, own2, e12, _, e32, e42, e52, _⟩ := (s35.ext x0h).at hu .i64
    have l2 : A.load true 24 (.pointer (some ⟨id2, off2, none⟩)) h = some (.agg ⟨u⟩) := load_of e32 e42 e52
    have ltk := ldT35 hg
    obtain ⟨cs, h1, ec, pcs, x1⟩ := T37D k ((pu.map fun _ _ _ s => s.ext x0h)) (sm.2.2.2.2 p (List.mem_of_getElem? hp))
    have nx := x.next
    have nx1 := x1.next
    have ht2 : t < h.next := by omega
    have hg1 : h1.get t = some (.cells (T.cells a b c vk) (some 0)) := by rw [x1.get t ht2]; exact hg
    have kc := chk_same _ (ldT35 hg1) vv.slice.same
    have el : eks.length = j := by have := al.1; rw [List.length_take] at this; omega
    obtain ⟨w, h2, vk', h3, eb, ea, vv', hb', mv, nx3⟩ := append_one (bs := 200) (zs := MailD7.Z66L) (vv.ext x1) hb (by omega : hS.next ≤ h1.next) rfl pcs.len (by omega) (by omega) (by omega)
    have hg3 : h3.get t = some (.cells (T.cells a b c vk) (some 0)) := by
      rw [mv.get t (by omega) fun ⟨h1, _⟩ => by omega]
      exact hg1
    have es := stT35 hg3 vv'.slice.cells
    obtain ⟨h4, hh4⟩ : ∃ h4, h4 = h3.put t (.cells (T.cells a b c vk') (some 0)) := ⟨_, rfl⟩
    rw [← hh4] at es
    have m4 : Mv 0 [0] h3 h4 := hh4 ▸ Mv.put (Nat.zero_le _) hg3 (by simp) _
    have hg4 : h4.get t = some (.cells (T.cells a b c vk') (some 0)) := by rw [hh4]; exact get_put_same _ _ _
    have hn4 : h4.next = h3.next := by rw [hh4]; rfl
    have x4 : ExtBut (fun i => i = t) hS h4 := ⟨by omega, fun id hid hne => by
      rw [hh4, H.get_put, if_neg hne, mv.get id (by omega) fun ⟨h1, _⟩ => by omega, x1.get id (by omega)]
      exact x.get id hid hne⟩
    have al' : All2 (PkIn (OwnW (fun i => hS.next ≤ i)) h4) (eks ++ [cs]) (T.pks.take (j + 1)) := by
      have e2 : T.pks.take (j + 1) = T.pks.take j ++ [p] := by
        rw [List.take_add_one, hp]; rfl
      rw [e2]
      refine ⟨by simp [al.1], fun q y z hy hz => ?_⟩
      by_cases hq : q < eks.length
      · rw [List.getElem?_append_left hq] at hy
        rw [List.getElem?_append_left (by rw [← al.1]; exact hq)] at hz
        exact (((al.2 q y z hy hz).mv (b := 0) (tags := [0]) (Mv.ofExt x1) (by simp)).mv mv (by simp)).mv m4 (by simp)
      · have hq2 : q = eks.length := by
          have := (List.getElem?_eq_some_iff.1 hy).1
          simp at this; omega
        subst hq2
        rw [List.getElem?_append_right (Nat.le_refl _)] at hy
        rw [al.1, List.getElem?_append_right (Nat.le_refl _)] at hz
        simp at hy hz
        subst hy; subst hz
        exact ((pcs.own fun i hi => by omega).mv mv (by simp)).mv m4 (by simp)
    have vv4 : Vec 24 h4 vk' (eks ++ [cs]) := Vec.mv vv' m4 (by simp)
    obtain ⟨h', vk2, eks', e, mv', hg', vv2, hb2, al2⟩ := ih (j + 1) m h4 a b c vk' (eks ++ [cs]) (by omega) (by omega) x4 hg4 vv4 hb' al'
    refine ⟨h', vk2, eks', ?_, mv', hg', vv2, hb2, al2⟩
    simp only [MailD7.p16arrlrborlbrrrrrrrlrbw, MailD7.p16arrlrborlbrrrrrrrlrbo, MailD7.p16arrlrborlbrrrrrrrlrbol, e1, bnd_some, fieldAddr_eq, Nat.zero_add, l1, hlen, bin_lss, hd, toBK_bool, cond_true, MailD7.p16arrlrborlbrrrrrrrlrbor, ltk, e12, l2, ec, bnd2_some, kc, Bool.and_true, eb, ea, es, bin_add, hwr]
    exact e
/-- One item. -/
theorem round16 (k L : Nat) (hL : 100 ≤ L) {β : Type} (kn : Value → Value → Value → H → Option β) {h0 h : H} (x : Ext h0 h) {x0 : Value} {els : List (List Value)} (s0 : SliceE 38 h0 x0 els) {i : Nat} {cs : List Value} (hi : els[i]? = some cs) {T : ItD} (it : ItIn SliceE h0 cs T) (sm : T.Small) {x3 : Value} {es : List (List Value)} {ds : List ItD} (vv : Vec 38 h x3 es) (hb : ∀ i, sid x3 = some i → h0.next ≤ i) (al : All2 (ItIn (OwnW (fun i => h0.next ≤ i)) h) es ds) (hlen : es.length ≤ 1000) :
    ∃ h' x3' new, MailD7.p16arrlrborlb (callB Try.prog 0 [9] (k + 1)) L x3 (.int .i64 (i : Int)) x0 h kn = kn (.int .i64 (i : Int)) x0 x3' h' ∧ Ext h0 h' ∧ Vec 38 h' x3' (es ++ [new]) ∧ (∀ i, sid x3' = some i → h0.next ≤ i) ∧ All2 (ItIn (OwnW (fun i => h0.next ≤ i)) h') (es ++ [new]) (ds ++ [T]) := by
  obtain ⟨p22, p33, p34, p35, pe, rfl, s22, s33, s34, s35, ap⟩ := it
  have nx := x.next
  have elem : ∀ {g : H}, Ext h0 g → ∃ id off, A.idxS 38 x0 (.int .i64 (i : Int)) = some (.pointer (some ⟨id, off, none⟩)) ∧ A.load true 38 (.pointer (some ⟨id, off, none⟩)) g = some (.agg ⟨T.cells p22 p33 p34 p35⟩) ∧
      A.load false 1 (.pointer (some ⟨id, off + 33, none⟩)) g = some p33 ∧ A.load false 1 (.pointer (some ⟨id, off + 34, none⟩)) g = some p34 := fun {g} xg => by
    obtain ⟨id, off, cells, own, e1, _, e3, e4, e5, e6⟩ := (s0.ext xg).at hi .i64
    exact ⟨id, off, e1, load_of e3 e4 e5, by rw [load1_eq, e3]; exact e6 33 (by omega), by rw [load1_eq, e3]; exact e6 34 (by omega)⟩
  obtain ⟨id, off, ix, ld0, _, _⟩ := elem x
  have same_id : ∀ {id' off' : Nat}, A.idxS 38 x0 (.int .i64 (i : Int)) = some (.pointer (some ⟨id', off', none⟩)) → id = id' ∧ off = off' := fun {id' off'} e => by
    rw [ix] at e
    injection e with e; injection e with e; injection e with e; injection e with a b _
    exact ⟨a, b⟩
  obtain ⟨g1, h2, eb, est, gt2, x2, n2⟩ := box_put (n := 38) (z := MailD7.Z71) (zl := MailD7.Z71L) (vs := T.cells p22 p33 p34 p35) (h := h) rfl rfl rfl
  obtain ⟨t, ht⟩ : ∃ t, t = h.next := ⟨_, rfl⟩
  rw [← ht] at eb est gt2
  have x02 := x.trans x2
  -- the packet
  obtain ⟨c5, h3, e37, pc5, x3e⟩ := T37D k (h := h2) (x := T.pk.cells p22) (p := T.pk) ⟨p22, rfl, s22.ext x02⟩ sm.1
  obtain ⟨v22, rfl, o22⟩ := pc5
  have nx3 := x3e.next
  have gt3 : h3.get t = some (.cells (T.cells p22 p33 p34 p35) (some 0)) := by rw [x3e.get t (by omega)]; exact gt2
  have st5 := stT5 (v := v22) gt3
  obtain ⟨h4, hh4⟩ : ∃ h4, h4 = h3.put t (.cells (T.cells v22 p33 p34 p35) (some 0)) := ⟨_, rfl⟩
  rw [← hh4] at st5
  have gt4 : h4.get t = some (.cells (T.cells v22 p33 p34 p35) (some 0)) := by rw [hh4]; exact get_put_same _ _ _
  have n4 : h4.next = h3.next := by rw [hh4]; rfl
  have m34 : Mv h0.next [0] h3 h4 := hh4 ▸ Mv.put (by omega) gt3 (by simp) _
  -- the messages
  have st33a := stT33 (v := .slice none 0 0) gt4 rfl
  obtain ⟨h5, hh5⟩ : ∃ h5, h5 = h4.put t (.cells (T.cells v22 (.slice none 0 0) p34 p35) (some 0)) := ⟨_, rfl⟩
  rw [← hh5] at st33a
  have gt5 : h5.get t = some (.cells (T.cells v22 (.slice none 0 0) p34 p35) (some 0)) := by rw [hh5]; exact get_put_same _ _ _
  have n5 : h5.next = h4.next := by rw [hh5]; rfl
  have m45 : Mv h0.next [0] h4 h5 := hh5 ▸ Mv.put (by omega) gt4 (by simp) _
  have mA : Mv h0.next [0] h h5 := ((Mv.ofExt (x2.trans x3e)).trans m34).trans m45
  have x05 := Mv.ext x mA (Nat.le_refl _)
  obtain ⟨id', off', ix', _, l33, _⟩ := elem x05
  obtain ⟨rfl, rfl⟩ := same_id ix'
  have sm2 := sm.2.1
  have sm3 := sm.2.2.1
  obtain ⟨v33, h6, ap33, o33, x6⟩ := app_nilD (bs := 40) (s33.ext x05) (by rw [List.length_map]; omega) (by rw [List.length_map]; omega)
  have nx6 := x6.next
  have gt6 : h6.get t = some (.cells (T.cells v22 (.slice none 0 0) p34 p35) (some 0)) := by rw [x6.get t (by omega)]; exact gt5
  have st33b := stT33 gt6 o33.slice.cells
  obtain ⟨h7, hh7⟩ : ∃ h7, h7 = h6.put t (.cells (T.cells v22 v33 p34 p35) (some 0)) := ⟨_, rfl⟩
  rw [← hh7] at st33b
  have gt7 : h7.get t = some (.cells (T.cells v22 v33 p34 p35) (some 0)) := by rw [hh7]; exact get_put_same _ _ _
  have n7 : h7.next = h6.next := by rw [hh7]; rfl
  have m67 : Mv h0.next [0] h6 h7 := hh7 ▸ Mv.put (by omega) gt6 (by simp) _
  -- the clients
  have st34a := stT34 (v := .slice none 0 0) gt7 rfl
  obtain ⟨h8, hh8⟩ : ∃ h8, h8 = h7.put t (.cells (T.cells v22 v33 (.slice none 0 0) p35) (some 0)) := ⟨_, rfl⟩
  rw [← hh8] at st34a
  have gt8 : h8.get t = some (.cells (T.cells v22 v33 (.slice none 0 0) p35) (some 0)) := by rw [hh8]; exact get_put_same _ _ _
  have n8 : h8.next = h7.next := by rw [hh8]; rfl
  have m78 : Mv h0.next [0] h7 h8 := hh8 ▸ Mv.put (by omega) gt7 (by simp) _
  have mB : Mv h0.next [0] h5 h8 := ((Mv.ofExt x6).trans m67).trans m78
  have x08 := Mv.ext x05 mB (Nat.le_refl _)
  obtain ⟨id', off', ix'', _, _, l34⟩ := elem x08
  obtain ⟨rfl, rfl⟩ := same_id ix''
  obtain ⟨v34, h9, ap34, o34, x9⟩ := app_nilD (bs := 16) (s34.ext x08) (by rw [List.length_map]; omega) (by rw [List.length_map]; omega)
  have nx9 := x9.next
  have gt9 : h9.get t = some (.cells (T.cells v22 v33 (.slice none 0 0) p35) (some 0)) := by rw [x9.get t (by omega)]; exact gt8
  have st34b := stT34 gt9 o34.slice.cells
  obtain ⟨hA, hhA⟩ : ∃ hA, hA = h9.put t (.cells (T.cells v22 v33 v34 p35) (some 0)) := ⟨_, rfl⟩
  rw [← hhA] at st34b
  have gtA : hA.get t = some (.cells (T.cells v22 v33 v34 p35) (some 0)) := by rw [hhA]; exact get_put_same _ _ _
  have nA : hA.next = h9.next := by rw [hhA]; rfl
  have m9A : Mv h0.next [0] h9 hA := hhA ▸ Mv.put (by omega) gt9 (by simp) _
  -- the packets
  have st35a := stT35 (v := .slice none 0 0) gtA rfl
  obtain ⟨hB, hhB⟩ : ∃ hB, hB = hA.put t (.cells (T.cells v22 v33 v34 (.slice none 0 0)) (some 0)) := ⟨_, rfl⟩
  rw [← hhB] at st35a
  have gtB : hB.get t = some (.cells (T.cells v22 v33 v34 (.slice none 0 0)) (some 0)) := by rw [hhB]; exact get_put_same _ _ _
  have nB : hB.next = hA.next := by rw [hhB]; rfl
  have mAB : Mv h0.next [0] hA hB := hhB ▸ Mv.put (by omega) gtA (by simp) _
  have mC : Mv h0.next [0] h8 hB := ((Mv.ofExt x9).trans m9A).trans mAB
  have x0B := Mv.ext x08 mC (Nat.le_refl _)
  have nxB := x0B.next
  have nlt : t < hB.next := by omega
  obtain ⟨hC, v35, pe', e35, mD, gtC, vvp, hbp, alp⟩ := pks16 k L (fun x3 x5 x4 x0 h => MailD7.p16arrlrborlbrrrrrrrr (callB Try.prog 0 [9] (k + 1)) L x3 x5 x4 x0 h kn) x0B s0 hi s35 ap sm (t := t) (by omega) nlt x3 T.pks.length 0 L hB v22 v33 v34 (.slice none 0 0) [] (by omega) (by have := sm.2.2.2.1; omega) (Ext.refl hB).but gtB (Vec.nil 24 hB) (fun i hi => by simp [sid] at hi) (by rw [List.take_zero]; exact All2.nil)
  have e35' : MailD7.p16arrlrborlbrrrrrrrlrbw (callB Try.prog 0 [9] (k + 1)) L (fun x3 x5 x4 x0 h => MailD7.p16arrlrborlbrrrrrrrr (callB Try.prog 0 [9] (k + 1)) L x3 x5 x4 x0 h kn) L (.int .i64 0) x3 (ptrV t) (.int .i64 (i : Int)) x0 hB = _ := e35
  have mD : Mv h0.next [0] hB hC := ⟨mD.next, fun j hj hs => mD.get j hj fun e => hs ⟨by omega, T.cells v22 v33 v34 (.slice none 0 0), 0, by rw [e]; exact gtB, by simp⟩⟩
  have x0C := Mv.ext x0B mD (Nat.le_refl _)
  have mAll : Mv h0.next [0] h hC := ((mA.trans mB).trans mC).trans mD
  -- out
  have ldC := ldT gtC
  obtain ⟨u, hD, x3', hE, ebs, eap, vv', hb', mE, nE⟩ := append_one (bs := 384) (zs := MailD7.Z71L) (vs := T.cells v22 v33 v34 v35) (Vec.mv vv mAll (by simp)) hb (by have := x0C.next; omega) rfl rfl (by omega) (by omega) (by omega)
  refine ⟨hE, x3', T.cells v22 v33 v34 v35, ?_, Mv.ext x0C mE (Nat.le_refl _), vv', hb', ?_⟩
  · simp only [MailD7.p16arrlrborlb, MailD7.p16arrlrborlbl, ix, bnd_some, ld0, eb, bnd2_some, est, MailD7.p16arrlrborlbr, MailD7.p16arrlrborlbrl, fieldAddr_eq, Nat.zero_add, ldT5 gt2, e37, st5, MailD7.p16arrlrborlbrr, MailD7.p16arrlrborlbrrl, st33a, MailD7.p16arrlrborlbrrr, MailD7.p16arrlrborlbrrrl, ldT33 gt5, l33, ap33, st33b,
      MailD7.p16arrlrborlbrrrr, MailD7.p16arrlrborlbrrrrl, st34a, MailD7.p16arrlrborlbrrrrr, MailD7.p16arrlrborlbrrrrrl, ldT34 gt8, l34, ap34, st34b, MailD7.p16arrlrborlbrrrrrr, MailD7.p16arrlrborlbrrrrrrl, st35a, MailD7.p16arrlrborlbrrrrrrr, MailD7.p16arrlrborlbrrrrrrrl, MailD7.p16arrlrborlbrrrrrrrll, MailD7.p16arrlrborlbrrrrrrrlr, MailD7.p16arrlrborlbrrrrrrrlrb]
    refine Eq.trans e35' ?_
    simp only [MailD7.p16arrlrborlbrrrrrrrr, ldC, bnd_some, ebs, bnd2_some, eap]
  · have m3 : Mv h0.next [0] h3 hC := (((m34.trans m45).trans mB).trans mC).trans mD
    have m6 : Mv h0.next [0] h6 hC := ((m67.trans m78).trans mC).trans mD
    have m9 : Mv h0.next [0] h9 hC := (m9A.trans mAB).trans mD
    have nx2 := x2.next
    refine ⟨by simp [al.1], fun q y z hy hz => ?_⟩
    by_cases hq : q < es.length
    · rw [List.getElem?_append_left hq] at hy
      rw [List.getElem?_append_left (by rw [← al.1]; exact hq)] at hz
      exact ((al.2 q y z hy hz).mv mAll (by simp) (by simp) (by simp) (by simp)).mv mE (by simp) (by simp) (by simp) (by simp)
    · have hq2 : q = es.length := by
        have := (List.getElem?_eq_some_iff.1 hy).1
        simp at this; omega
      subst hq2
      rw [List.getElem?_append_right (Nat.le_refl _)] at hy
      rw [al.1, List.getElem?_append_right (Nat.le_refl _)] at hz
      simp at hy hz
      subst hy; subst hz
      exact ⟨v22, v33, v34, v35, pe', rfl, ((o22.mono fun i hi => by omega).mv m3 (by simp)).mv mE (by simp), ((o33.mono fun i hi => by omega).mv m6 (by simp)).mv mE (by simp), ((o34.mono fun i hi => by omega).mv m9 (by simp)).mv mE (by simp), (OwnW.vec vvp (fun i hi => by have := hbp i hi; omega)).mv mE (by simp), alp.mono fun _ _ i => (i.own fun i hi => by omega).mv mE (by simp)⟩
/-- All items. -/
theorem items16 (k L : Nat) (hL : 100 ≤ L) {β : Type} (kx : Value → H → Option β) {h0 : H} {x0 : Value} {els : List (List Value)} {c : List ItD} (s0 : SliceE 38 h0 x0 els) (ac : All2 (ItIn SliceE h0) els c) (sm : SmallC c) :
    ∀ (d i m : Nat) (h : H) (x3 : Value) (es : List (List Value)), i + d = c.length → d < m → Ext h0 h → Vec 38 h x3 es → (∀ i, sid x3 = some i → h0.next ≤ i) → All2 (ItIn (OwnW (fun i => h0.next ≤ i)) h) es (c.take i) →
      ∃ h' x3' es', MailD7.p16arrlrbw (callB Try.prog 0 [9] (k + 1)) L kx m (.int .i64 (i : Int)) x0 x3 h = kx x3' h' ∧ Ext h0 h' ∧ Vec 38 h' x3' es' ∧ (∀ i, sid x3' = some i → h0.next ≤ i) ∧ All2 (ItIn (OwnW (fun i => h0.next ≤ i)) h') es' c := by
  have hlen : A.lenS x0 = some (.int .i64 (c.length : Int)) := by have := s0.len.1; rwa [ac.1] at this
  have h20 := sm.1
  intro d
  induction d with
  | zero =>
    intro i m h x3 es hi hm x vv hb al
    obtain ⟨m, rfl⟩ : ∃ q, m = q + 1 := ⟨m - 1, by omega⟩
    have hd : decide ((i : Int) < (c.length : Int)) = false := by rw [decide_eq_false_iff_not]; omega
    refine ⟨h, x3, es, ?_, x, vv, hb, by rw [List.take_of_length_le (by omega)] at al; exact al⟩
    simp only [MailD7.p16arrlrbw, MailD7.p16arrlrbo, MailD7.p16arrlrbol, hlen, bnd_some, bin_lss, hd, toBK_bool, cond_false]
  | succ d ih =>
    intro i m h x3 es hi hm x vv hb al
    obtain ⟨m, rfl⟩ : ∃ q, m = q + 1 := ⟨m - 1, by omega⟩
    have hd : decide ((i : Int) < (c.length : Int)) = true := by rw [decide_eq_true_iff]; omega
    have hwr : IntKind.i64.wrap ((i : Int) + 1) = ((i + 1 : Nat) : Int) := wrap_succ (by omega)
    obtain ⟨T, hT⟩ : ∃ T, c[i]? = some T := ⟨_, List.getElem?_eq_getElem (by omega)⟩
    obtain ⟨cs, hcs, it⟩ := ac.at2 hT
    have el : es.length = i := by have := al.1; rw [List.length_take] at this; omega
    obtain ⟨h1, x3', new, e1, x1, vv1, hb1, al1⟩ := round16 k L hL (fun x4 x0 x3 h => MailD7.p16arrlrborr (callB Try.prog 0 [9] (k + 1)) L x4 x0 x3 h (fun x4 x0 x3 h => MailD7.p16arrlrbw (callB Try.prog 0 [9] (k + 1)) L kx m x4 x0 x3 h)) x s0 hcs it (sm.2 T (List.mem_of_getElem? hT)) vv hb al (by omega)
    obtain ⟨h', x3'', es', e2, r⟩ := ih (i + 1) m h1 x3' (es ++ [new]) (by omega) (by omega) x1 vv1 hb1 (by
      have : c.take (i + 1) = c.take i ++ [T] := by rw [List.take_add_one, hT]; rfl
      rw [this]; exact al1)
    refine ⟨h', x3'', es', ?_, r⟩
    simp only [MailD7.p16arrlrbw, MailD7.p16arrlrbo, MailD7.p16arrlrbol, hlen, bnd_some, bin_lss, hd, toBK_bool, cond_true, MailD7.p16arrlrbor, MailD7.p16arrlrborl]
    refine Eq.trans e1 ?_
    simp only [MailD7.p16arrlrborr, bin_add, bnd_some, hwr]
    exact e2
/-- The document's Copy. -/
theorem S16 (k : Nat) {h : H} {v : Value} {c : List ItD} (ci : CmdIn SliceE h v c) (sm : SmallC c) : ∃ v' h', callB Try.prog 0 [9] (k + 202) 16 [v] h = some (v', h') ∧ CmdIn (OwnW (fun i => h.next ≤ i)) h' v' c ∧ Ext h h' := by
  obtain ⟨els, s, ac⟩ := ci
  rw [MailD7.F16eq [9] rfl]
  obtain ⟨h', v', es', e, x', vv, hb, al⟩ := items16 (k + 200) (k + 201) (by omega) (fun x3 h => MailD7.p16arrr (callB Try.prog 0 [9] (k + 201)) (k + 201) x3 h (fun x2 h => some (x2, h))) s ac sm c.length 0 (k + 201) h (.slice none 0 0) [] (by omega) (by have := sm.1; omega) (Ext.refl h) (Vec.nil 38 h) (fun i hi => by simp [sid] at hi) (by rw [List.take_zero]; exact All2.nil)
  have e' : MailD7.p16arrlrbw (callB Try.prog 0 [9] (k + 201)) (k + 201) (fun x3 h => MailD7.p16arrr (callB Try.prog 0 [9] (k + 201)) (k + 201) x3 h (fun x2 h => some (x2, h))) (k + 201) (.int .i64 0) v (.slice none 0 0) h = _ := e
  refine ⟨v', h', ?_, ⟨es', OwnW.vec vv hb, al⟩, x'⟩
  simp only [MailD7.F16, MailD7.p16a, MailD7.p16al, MailD7.p16ar, MailD7.p16arl, MailD7.p16arr, MailD7.p16arrl, MailD7.p16arrll, MailD7.p16arrlr, MailD7.p16arrlrb]
  refine Eq.trans e' ?_
  simp only [MailD7.p16arrr]
end Go.Proofs.Ytdjhkdogpbiglaa.MailD

namespace Go.Proofs.Ytdjhkdogpbiglaa.MailD
open Go Go.AM
theorem pks32 (k L : Nat) {β : Type} (kx : Value → Value → Value → Value → Value → Value → H → Option β) {hS hB : H} (xSB : Ext hS hB) {T : ItD} {pe : List (List Value)} (ap : All2 (PkIn SliceE hS) pe T.pks) (sm : T.Small) {t : Nat} (ht0 : hS.next ≤ t) (htB : t < hB.next) {a b c w : Value} (x4 x12 x11 x10 x3 : Value) :
    ∀ (dd j m : Nat) (h : H) (cur : List (List Value)), j + dd = T.pks.length → dd < m → ExtBut (fun i => i = t) hB h → h.get t = some (.cells (T.cells a b c w) (some 0)) → OwnW (fun i => hB.next ≤ i) 24 h w cur → cur.length = T.pks.length → (∀ q, j ≤ q → cur[q]? = pe[q]?) → (∀ q y z, q < j → cur[q]? = some y → T.pks[q]? = some z → PkIn (OwnW (fun i => hB.next ≤ i)) h y z) →
      ∃ h' cur', p32arrlrborrlbrrrrrlrbw (callB Try.prog 0 [9] (k + 1)) L kx m (.int .i64 (T.pks.length : Int)) (.int .i64 (j : Int)) w x4 (ptrV t) x12 x11 x10 x3 h = kx x4 (ptrV t) x12 x11 x10 x3 h' ∧ ExtBut (fun i => i = t) hB h' ∧ h'.get t = some (.cells (T.cells a b c w) (some 0)) ∧ OwnW (fun i => hB.next ≤ i) 24 h' w cur' ∧ All2 (PkIn (OwnW (fun i => hB.next ≤ i)) h') cur' T.pks := by
  have hxS : ∀ {h : H}, ExtBut (fun i => i = t) hB h → Ext hS h := fun {h} x => ⟨Nat.le_trans xSB.next x.next, fun id hid => by rw [x.get id (Nat.lt_of_lt_of_le hid xSB.next) (by omega)]; exact xSB.get id hid⟩
  intro dd
  induction dd with
  | zero =>
    intro j m h cur hj hm x hg own hl hcur hdone
    obtain ⟨m, rfl⟩ : ∃ q, m = q + 1 := ⟨m - 1, by omega⟩
    have hd : decide ((j : Int) < (T.pks.length : Int)) = false := by rw [decide_eq_false_iff_not]; omega
    refine ⟨h, cur, ?_, x, hg, own, hl, fun q y z hy hz => hdone q y z (by have := (List.getElem?_eq_some_iff.1 hz).1; omega) hy hz⟩
    simp only [p32arrlrborrlbrrrrrlrbw, p32arrlrborrlbrrrrrlrbo, bin_lss, hd, bnd_some, condV_bool, cond_false]
  | succ dd ih =>
    intro j m h cur hj hm x hg own hl hcur hdone
    obtain ⟨m, rfl⟩ : ∃ q, m = q + 1 := ⟨m - 1, by omega⟩
    have hd : decide ((j : Int) < (T.pks.length : Int)) = true := by rw [decide_eq_true_iff]; omega
    have hjl := sm.2.2.2.1
    have hwr : IntKind.i64.wrap ((j : Int) + 1) = ((j + 1 : Nat) : Int) := wrap_succ (by omega)
    have hjc : j < cur.length := by omega
    obtain ⟨p, hp⟩ : ∃ p, T.pks[j]? = some p := ⟨_, List.getElem?_eq_getElem (by omega)⟩
    obtain ⟨u, hu, pu⟩ := ap.at2 hp
    have hcu : cur[j] = u := by
      have := hcur j (Nat.le_refl _)
      rw [hu, List.getElem?_eq_getElem hjc] at this
      exact Option.some.inj this
    obtain ⟨q, ix, hq0, hqn, hsq, hgq, ld, st⟩ := own.at hjc
    rw [hcu] at ld
    have nx := x.next
    obtain ⟨g1, h2, b1, s1, gt2, x2, n2⟩ := box_put (n := 24) (z := Z66) (zl := Z66L) (vs := u) (h := h) rfl rfl pu.len
    have hg2 : h2.get t = some (.cells (T.cells a b c w) (some 0)) := by rw [x2.get t (by omega)]; exact hg
    have lw2 := ldT35 hg2
    have l7 := load_box (n := 24) gt2 pu.len
    obtain ⟨cs, h3, e42, pcs, x3'⟩ := T42D k (pu.map fun _ _ _ s => (s.ext (hxS x)).ext x2) (sm.2.2.2.2 p (List.mem_of_getElem? hp))
    have nx2 := x2.next
    have nx3 := x3'.next
    have hg3 : h3.get t = some (.cells (T.cells a b c w) (some 0)) := by rw [x3'.get t (by omega)]; exact hg2
    have kc := chk_same _ (ldT35 hg3) own.slice.same
    have hgq3 : h3.get q = h.get q := by rw [x3'.get q (by omega), x2.get q hqn]
    obtain ⟨es, own4⟩ := st cs h3 pcs.len hgq3 (by omega)
    obtain ⟨h4, hh4⟩ : ∃ h4, h4 = h3.put q (.cells (cur.set j cs).flatten (some 24)) := ⟨_, rfl⟩
    rw [← hh4] at es own4
    have n4 : h4.next = h3.next := by rw [hh4]; rfl
    have m4 : Mv 0 [24] h3 h4 := hh4 ▸ Mv.put (Nat.zero_le _) (by rw [hgq3]; exact hgq) (by simp) _
    have hg4 : h4.get t = some (.cells (T.cells a b c w) (some 0)) := by rw [hh4, H.get_put, if_neg (by omega)]; exact hg3
    have x4' : ExtBut (fun i => i = t) hB h4 := ⟨by omega, fun id hid hne => by
      rw [hh4, H.get_put, if_neg (by omega), x3'.get id (by omega), x2.get id (by omega)]
      exact x.get id hid hne⟩
    obtain ⟨h', cur', e, r⟩ := ih (j + 1) m h4 (cur.set j cs) (by omega) (by omega) x4' hg4 own4 (by rw [List.length_set]; exact hl) (fun q hq => by rw [List.getElem?_set, if_neg (by omega)]; exact hcur q (by omega)) (fun q' y z hq' hy hz => by
      by_cases hqj : q' = j
      · subst hqj
        rw [List.getElem?_set, if_pos rfl, if_pos hjc] at hy
        rw [hp] at hz
        obtain rfl := Option.some.inj hy
        obtain rfl := Option.some.inj hz
        exact (pcs.own fun i hi => by omega).mv m4 (by simp)
      · rw [List.getElem?_set, if_neg (by omega)] at hy
        exact ((hdone q' y z (by omega) hy hz).mv (b := 0) (tags := [24]) (Mv.ofExt (x2.trans x3')) (by simp)).mv m4 (by simp))
    refine ⟨h', cur', ?_, r⟩
    simp only [p32arrlrborrlbrrrrrlrbw, p32arrlrborrlbrrrrrlrbo, bin_lss, hd, bnd_some, condV_bool, cond_true, ix, ld, b1, bnd2_some, s1, fieldAddr_eq, Nat.zero_add, lw2, l7, e42, kc, Bool.and_true, es, bin_add, hwr]
    exact e
/-- One item. -/
theorem round32D (k L : Nat) (hL : 100 ≤ L) {β : Type} (kn : Value → Value → Value → Value → H → Option β) {hS h : H} (x : Ext hS h) {x3 : Value} {cur : List (List Value)} (own : OwnW (fun i => hS.next ≤ i) 38 h x3 cur) {i n : Nat} (hi : i < cur.length) {T : ItD} (it : ItIn SliceE hS cur[i] T) (sm : T.Small) :
    ∃ h' new, p32arrlrborrlb (callB Try.prog 0 [9] (k + 1)) L (.int .i64 (i : Int)) (.int .i64 (n : Int)) x3 x3 h kn = kn (.int .i64 (i : Int)) (.int .i64 (n : Int)) x3 x3 h' ∧ OwnW (fun i => hS.next ≤ i) 38 h' x3 (cur.set i new) ∧ Ext hS h' ∧ ItIn (OwnW (fun i => hS.next ≤ i)) h' new T ∧ Mv hS.next [38] h h' := by
  obtain ⟨q, ix, hq0, hqn, hsq, hgq, ld, st⟩ := own.at hi
  obtain ⟨p22, p33, p34, p35, pe, hcs, s22, s33, s34, s35, ap⟩ := it
  rw [hcs] at ld
  have nx := x.next
  obtain ⟨g1, h2, eb, est, gt2, x2, n2⟩ := box_put (n := 38) (z := Z71) (zl := Z71L) (vs := T.cells p22 p33 p34 p35) (h := h) rfl rfl rfl
  obtain ⟨t, ht⟩ : ∃ t, t = h.next := ⟨_, rfl⟩
  rw [← ht] at eb est gt2
  have x02 := x.trans x2
  -- the packet
  obtain ⟨c5, h3, e42, pc5, x3e⟩ := T42D k (h := h2) (x := T.pk.cells p22) (p := T.pk) ⟨p22, rfl, s22.ext x02⟩ sm.1
  obtain ⟨v22, rfl, o22⟩ := pc5
  have nx3 := x3e.next
  have gt3 : h3.get t = some (.cells (T.cells p22 p33 p34 p35) (some 0)) := by rw [x3e.get t (by omega)]; exact gt2
  have st5 := stT5 (v := v22) gt3
  obtain ⟨h4, hh4⟩ : ∃ h4, h4 = h3.put t (.cells (T.cells v22 p33 p34 p35) (some 0)) := ⟨_, rfl⟩
  rw [← hh4] at st5
  have gt4 : h4.get t = some (.cells (T.cells v22 p33 p34 p35) (some 0)) := by rw [hh4]; exact get_put_same _ _ _
  have n4 : h4.next = h3.next := by rw [hh4]; rfl
  have m34 : Mv h.next [0] h3 h4 := hh4 ▸ Mv.put (by omega) gt3 (by simp) _
  have e04 : Ext h h4 := Mv.ext (x2.trans x3e) m34 (Nat.le_refl _)
  -- the messages
  obtain ⟨v33, h5, e43, o33, x5⟩ := T43D k (s33.ext (x.trans e04)) (by rw [List.length_map]; have := sm.2.1; omega)
  have nx5 := x5.next
  have gt5 : h5.get t = some (.cells (T.cells v22 p33 p34 p35) (some 0)) := by rw [x5.get t (by omega)]; exact gt4
  have st33 := stT33 gt5 o33.slice.cells
  obtain ⟨h6, hh6⟩ : ∃ h6, h6 = h5.put t (.cells (T.cells v22 v33 p34 p35) (some 0)) := ⟨_, rfl⟩
  rw [← hh6] at st33
  have gt6 : h6.get t = some (.cells (T.cells v22 v33 p34 p35) (some 0)) := by rw [hh6]; exact get_put_same _ _ _
  have n6 : h6.next = h5.next := by rw [hh6]; rfl
  have m56 : Mv h.next [0] h5 h6 := hh6 ▸ Mv.put (by omega) gt5 (by simp) _
  have e06 : Ext h h6 := Mv.ext (e04.trans x5) m56 (Nat.le_refl _)
  -- the clients
  obtain ⟨v34, h7, e44, o34, x7⟩ := T44D k (s34.ext (x.trans e06)) (by rw [List.length_map]; have := sm.2.2.1; omega)
  have nx7 := x7.next
  have gt7 : h7.get t = some (.cells (T.cells v22 v33 p34 p35) (some 0)) := by rw [x7.get t (by omega)]; exact gt6
  have st34 := stT34 gt7 o34.slice.cells
  obtain ⟨h8, hh8⟩ : ∃ h8, h8 = h7.put t (.cells (T.cells v22 v33 v34 p35) (some 0)) := ⟨_, rfl⟩
  rw [← hh8] at st34
  have gt8 : h8.get t = some (.cells (T.cells v22 v33 v34 p35) (some 0)) := by rw [hh8]; exact get_put_same _ _ _
  have n8 : h8.next = h7.next := by rw [hh8]; rfl
  have m78 : Mv h.next [0] h7 h8 := hh8 ▸ Mv.put (by omega) gt7 (by simp) _
  have e08 : Ext h h8 := Mv.ext (e06.trans x7) m78 (Nat.le_refl _)
  -- the packets
  have s35' := s35.ext (x.trans e08)
  have lpe : pe.length = T.pks.length := ap.1
  obtain ⟨v35, h9, e45, o35, x9⟩ := T45D k s35' (by have := sm.2.2.2.1; omega)
  have nx9 := x9.next
  have gt9 : h9.get t = some (.cells (T.cells v22 v33 v34 p35) (some 0)) := by rw [x9.get t (by omega)]; exact gt8
  have st35 := stT35 gt9 o35.slice.cells
  obtain ⟨hA, hhA⟩ : ∃ hA, hA = h9.put t (.cells (T.cells v22 v33 v34 v35) (some 0)) := ⟨_, rfl⟩
  rw [← hhA] at st35
  have gtA : hA.get t = some (.cells (T.cells v22 v33 v34 v35) (some 0)) := by rw [hhA]; exact get_put_same _ _ _
  have nA : hA.next = h9.next := by rw [hhA]; rfl
  have m9A : Mv h.next [0] h9 hA := hhA ▸ Mv.put (by omega) gt9 (by simp) _
  have xA : ExtBut (fun i => i = t) h8 hA := by rw [hhA]; exact ExtBut.put x9.but t _ rfl
  have oA : OwnW (fun i => h8.next ≤ i) 24 hA v35 pe := o35.mv m9A (by simp)
  have hlen : A.lenS v35 = some (.int .i64 (T.pks.length : Int)) := by have := o35.slice.len.1; rwa [lpe] at this
  obtain ⟨hC, pe', e35, xC, gtC, oC, alp⟩ := pks32 k L (fun x4 x5 x12 x11 x10 x3 h => p32arrlrborrlbrrrrrr (callB Try.prog 0 [9] (k + 1)) L x4 x5 x12 x11 x10 x3 h kn) (x.trans e08) ap sm (t := t) (by omega) (by omega) (.int .i64 (i : Int)) (.int .i64 (i : Int)) (.int .i64 (n : Int)) x3 x3 T.pks.length 0 L hA pe (by omega) (by have := sm.2.2.2.1; omega) xA gtA oA lpe (fun _ _ => rfl) (fun q y z hq => by omega)
  have e35' : p32arrlrborrlbrrrrrlrbw (callB Try.prog 0 [9] (k + 1)) L (fun x4 x5 x12 x11 x10 x3 h => p32arrlrborrlbrrrrrr (callB Try.prog 0 [9] (k + 1)) L x4 x5 x12 x11 x10 x3 h kn) L (.int .i64 (T.pks.length : Int)) (.int .i64 0) v35 (.int .i64 (i : Int)) (ptrV t) (.int .i64 (i : Int)) (.int .i64 (n : Int)) x3 x3 hA = _ := e35
  have nxC := xC.next
  have e0C : Ext h hC := ⟨by omega, fun j hj => by
    rw [xC.get j (by omega) (by omega)]
    exact e08.get j hj⟩
  have m8C : Mv h.next [0] h8 hC := ⟨xC.next, fun j hj hs => xC.get j hj fun e => hs ⟨by omega, T.cells v22 v33 v34 p35, 0, by rw [e]; exact gt8, by simp⟩⟩
  have ldC := ldT gtC
  obtain ⟨es, own'⟩ := st (T.cells v22 v33 v34 v35) hC rfl (e0C.get q hqn) e0C.next
  obtain ⟨hE, hhE⟩ : ∃ hE, hE = hC.put q (.cells (cur.set i (T.cells v22 v33 v34 v35)).flatten (some 38)) := ⟨_, rfl⟩
  rw [← hhE] at es own'
  have mE : Mv hS.next [38] hC hE := hhE ▸ Mv.put hq0 (by rw [e0C.get q hqn]; exact hgq) (by simp) _
  refine ⟨hE, T.cells v22 v33 v34 v35, ?_, own', Mv.ext (x.trans e0C) mE (Nat.le_refl _), ⟨v22, v33, v34, v35, pe', rfl, ?_, ?_, ?_, ?_, ?_⟩, (Mv.ofExt e0C).trans mE⟩
  · simp only [p32arrlrborrlb, p32arrlrborrlbl, ix, bnd_some, ld, eb, bnd2_some, est, p32arrlrborrlbr, p32arrlrborrlbrl, fieldAddr_eq, Nat.zero_add, ldT5 gt2, e42, st5, p32arrlrborrlbrr, p32arrlrborrlbrrl, ldT33 gt4, e43, st33, p32arrlrborrlbrrr, p32arrlrborrlbrrrl, ldT34 gt6, e44, st34,
      p32arrlrborrlbrrrr, p32arrlrborrlbrrrrl, ldT35 gt8, e45, st35, p32arrlrborrlbrrrrr, p32arrlrborrlbrrrrrl, p32arrlrborrlbrrrrrll, ldT35 gtA, hlen, p32arrlrborrlbrrrrrlr, p32arrlrborrlbrrrrrlrb]
    refine Eq.trans e35' ?_
    simp only [p32arrlrborrlbrrrrrr, ldC, bnd_some, ix, es]
  · have m3 : Mv h.next [0] h3 hC := ((((m34.trans (Mv.ofExt x5)).trans m56).trans (Mv.ofExt x7)).trans m78).trans m8C
    exact ((o22.mono (T := fun i => hS.next ≤ i) fun i hi => by omega).mv m3 (by simp)).mv mE (by simp)
  · have m5 : Mv h.next [0] h5 hC := ((m56.trans (Mv.ofExt x7)).trans m78).trans m8C
    exact ((o33.mono (T := fun i => hS.next ≤ i) fun i hi => by omega).mv m5 (by simp)).mv mE (by simp)
  · have m7 : Mv h.next [0] h7 hC := m78.trans m8C
    exact ((o34.mono (T := fun i => hS.next ≤ i) fun i hi => by omega).mv m7 (by simp)).mv mE (by simp)
  · exact (oC.mono (T := fun i => hS.next ≤ i) fun i hi => by omega).mv mE (by simp)
  · exact alp.mono fun _ _ p => (p.own fun i hi => by omega).mv mE (by simp)
/-- All items. -/
theorem items32 (k L : Nat) (hL : 100 ≤ L) {β : Type} (kx : Value → H → Option β) {hS : H} {x3 : Value} {els : List (List Value)} {c : List ItD} (ac : All2 (ItIn SliceE hS) els c) (sm : SmallC c) :
    ∀ (d i m : Nat) (h : H) (cur : List (List Value)), i + d = c.length → d < m → Ext hS h → OwnW (fun i => hS.next ≤ i) 38 h x3 cur → cur.length = c.length → (∀ j, i ≤ j → cur[j]? = els[j]?) → (∀ q y z, q < i → cur[q]? = some y → c[q]? = some z → ItIn (OwnW (fun i => hS.next ≤ i)) h y z) →
      ∃ h', p32arrlrbw (callB Try.prog 0 [9] (k + 1)) L kx m (.int .i64 (c.length : Int)) (.int .i64 (i : Int)) x3 x3 h = kx x3 h' ∧ Ext hS h' ∧ CmdIn (OwnW (fun i => hS.next ≤ i)) h' x3 c := by
  have h20 := sm.1
  intro d
  induction d with
  | zero =>
    intro i m h cur hi hm x own hl hcur hdone
    obtain ⟨m, rfl⟩ : ∃ q, m = q + 1 := ⟨m - 1, by omega⟩
    have hd : decide ((i : Int) < (c.length : Int)) = false := by rw [decide_eq_false_iff_not]; omega
    refine ⟨h, ?_, x, cur, own, hl, fun q y z hy hz => hdone q y z (by have := (List.getElem?_eq_some_iff.1 hz).1; omega) hy hz⟩
    simp only [p32arrlrbw, p32arrlrbo, p32arrlrbol, bin_lss, hd, bnd_some, p32arrlrbor, p32arrlrborl, condV_bool, cond_false]
  | succ d ih =>
    intro i m h cur hi hm x own hl hcur hdone
    obtain ⟨m, rfl⟩ : ∃ q, m = q + 1 := ⟨m - 1, by omega⟩
    have hd : decide ((i : Int) < (c.length : Int)) = true := by rw [decide_eq_true_iff]; omega
    have hwr : IntKind.i64.wrap ((i : Int) + 1) = ((i + 1 : Nat) : Int) := wrap_succ (by omega)
    have hic : i < cur.length := by omega
    obtain ⟨T, hT⟩ : ∃ T, c[i]? = some T := ⟨_, List.getElem?_eq_getElem (by omega)⟩
    obtain ⟨cs, hcs, it⟩ := ac.at2 hT
    have hci : cur[i] = cs := by
      have := hcur i (Nat.le_refl _)
      rw [hcs, List.getElem?_eq_getElem hic] at this
      exact Option.some.inj this
    obtain ⟨h1, new, e1, own1, x1, itn, mv⟩ := round32D k L hL (fun x12 x11 x10 x3 h => p32arrlrborrr (callB Try.prog 0 [9] (k + 1)) L x12 x11 x10 x3 h (fun x11 x12 x10 x3 h => p32arrlrbw (callB Try.prog 0 [9] (k + 1)) L kx m x11 x12 x10 x3 h)) x own (n := c.length) hic (T := T) (by rw [hci]; exact it) (sm.2 T (List.mem_of_getElem? hT))
    obtain ⟨h', e2, r⟩ := ih (i + 1) m h1 (cur.set i new) (by omega) (by omega) x1 own1 (by rw [List.length_set]; exact hl) (fun j hj => by rw [List.getElem?_set, if_neg (by omega)]; exact hcur j (by omega)) (fun q y z hq hy hz => by
      by_cases hqi : q = i
      · subst hqi
        rw [List.getElem?_set, if_pos rfl, if_pos hic] at hy
        rw [hT] at hz
        obtain rfl := Option.some.inj hy
        obtain rfl := Option.some.inj hz
        exact itn
      · rw [List.getElem?_set, if_neg (by omega)] at hy
        exact (hdone q y z (by omega) hy hz).mv mv (by simp) (by simp) (by simp) (by simp))
    refine ⟨h', ?_, r⟩
    simp only [p32arrlrbw, p32arrlrbo, p32arrlrbol, bin_lss, hd, bnd_some, p32arrlrbor, p32arrlrborl, condV_bool, cond_true, p32arrlrborr, p32arrlrborrl]
    refine Eq.trans e1 ?_
    simp only [p32arrlrborrr, bin_add, bnd_some, hwr]
    exact e2
/-- Copy. -/
theorem S32 (k : Nat) {h : H} {v : Value} {c : List ItD} (ci : CmdIn SliceE h v c) (sm : SmallC c) : ∃ v' h', callB Try.prog 0 [9] (k + 202) 32 [v] h = some (v', h') ∧ CmdIn (OwnW (fun i => h.next ≤ i)) h' v' c ∧ Ext h h' := by
  obtain ⟨els, s, ac⟩ := ci
  rw [F32eq [9] rfl]
  obtain ⟨x3, h1, e41, own, x1⟩ := T41D (k + 200) s (by have := ac.1; have := sm.1; omega)
  have hlen : A.lenS x3 = some (.int .i64 (c.length : Int)) := by have := own.slice.len.1; rwa [ac.1] at this
  obtain ⟨h', e, x', ci'⟩ := items32 (k + 200) (k + 201) (by omega) (fun x3 h => p32arrr (callB Try.prog 0 [9] (k + 201)) (k + 201) x3 h (fun x2 h => some (x2, h))) (hS := h) (x3 := x3) ac sm c.length 0 (k + 201) h1 els (by omega) (by have := sm.1; omega) x1 own ac.1 (fun _ _ => rfl) (fun q y z hq => by omega)
  have e' : p32arrlrbw (callB Try.prog 0 [9] (k + 201)) (k + 201) (fun x3 h => p32arrr (callB Try.prog 0 [9] (k + 201)) (k + 201) x3 h (fun x2 h => some (x2, h))) (k + 201) (.int .i64 (c.length : Int)) (.int .i64 0) x3 x3 h1 = _ := e
  refine ⟨x3, h', ?_, ci', x'⟩
  simp only [F32, p32a, p32al, p32ar, p32arl, e41, bnd2_some, p32arr, p32arrl, p32arrll, hlen, bnd_some, p32arrlr, p32arrlrb]
  refine Eq.trans e' ?_
  simp only [p32arrr]
end Go.Proofs.Ytdjhkdogpbiglaa.MailD

namespace Go.Proofs.Ytdjhkdogpbiglaa.MailD
open Go Go.AM
/-- What stays where a command is written over. -/
def Kp (m i : Nat) : Prop := (m = 38 ∧ i % 38 ≠ 1) ∨ (m = 24 ∧ i % 24 ≠ 4)
/-- Blocks of S may be written over. -/
def Sp (S : Nat → Prop) (h h' : H) : Prop := h.next ≤ h'.next ∧ ∀ id, id < h.next → h'.get id = h.get id ∨ (S id ∧ ∃ cs cs' m, h.get id = some (.cells cs (some m)) ∧ h'.get id = some (.cells cs' (some m)) ∧ cs'.length = cs.length ∧ ∀ i, Kp m i → cs'[i]? = cs[i]?)
theorem Sp.refl (S : Nat → Prop) (h : H) : Sp S h h := ⟨Nat.le_refl _, fun _ _ => .inl rfl⟩
theorem Sp.but {S : Nat → Prop} {h h' : H} (s : Sp S h h') : ExtBut S h h' := ⟨s.1, fun id hi hs => by
  rcases s.2 id hi with e | ⟨h1, _⟩
  · exact e
  · exact absurd h1 hs⟩
theorem Sp.ext {S : Nat → Prop} {h0 h h' : H} (s : Sp S h0 h) (x : Ext h h') : Sp S h0 h' := ⟨Nat.le_trans s.1 x.next, fun id hi => by
  rw [x.get id (Nat.lt_of_lt_of_le hi s.1)]
  exact s.2 id hi⟩
theorem Sp.at {S : Nat → Prop} {n : Nat} {h0 h : H} {v : Value} {els : List (List Value)} (own : OwnW S n h0 v els) (sp : Sp S h0 h) {j : Nat} (hj : j < els.length) : ∃ q cs, A.idxS n v (.int .i64 (j : Int)) = some (.pointer (some ⟨q, j * n, none⟩)) ∧ S q ∧ q < h0.next ∧ h.get q = some (.cells cs (some n)) ∧ cs.length = els.length * n ∧ (∀ i, Kp n i → cs[i]? = els.flatten[i]?) ∧ (j + 1) * n ≤ els.length * n := by
  obtain ⟨q, ix, hS, hq, hsq, hg, _, _⟩ := own.at hj
  have hfl := flatten_len own.1.1
  have hle : (j + 1) * n ≤ els.length * n := Nat.mul_le_mul_right n hj
  rcases sp.2 q hq with e | ⟨_, cs, cs', m, h1, h2, h3, h4⟩
  · exact ⟨q, els.flatten, ix, hS, hq, by rw [e]; exact hg, hfl, fun _ _ => rfl, hle⟩
  · rw [hg] at h1
    injection h1 with h1; injection h1 with h5 h6; injection h6 with h6
    subst h5; subst h6
    exact ⟨q, cs', ix, hS, hq, h2, by rw [h3]; exact hfl, h4, hle⟩
theorem Sp.store {S : Nat → Prop} {n : Nat} {h0 h : H} (sp : Sp S h0 h) {q o : Nat} {cs : List Value} (hS : S q) (hq : q < h0.next) (hg : h.get q = some (.cells cs (some n))) (ho : o < cs.length) (hk : ¬ Kp n o) {v : Value} (hv : cellsL v = some [v]) :
    ∃ h', A.store 1 (.pointer (some ⟨q, o, none⟩)) v h = some h' ∧ Sp S h0 h' ∧ ∀ id, h0.next ≤ id → h'.get id = h.get id := by
  refine ⟨h.put q (.cells (cs.set o v) (some n)), ?_, ⟨sp.1, fun id hid => ?_⟩, fun id hid => by rw [H.get_put, if_neg (by omega)]⟩
  · rw [store_eq, hg, hv]
    have c1 : Nat.beq [v].length 1 = true := rfl
    have c2 : Nat.ble (o + 1) cs.length = true := by rw [ble_dec, decide_eq_true_iff]; omega
    simp only [c1, c2, Bool.and_self, cond_true]
    rw [splice_one ho]
  · rw [H.get_put]
    by_cases e : id = q
    · subst e
      rw [if_pos rfl]
      have key : ∀ i, Kp n i → (cs.set o v)[i]? = cs[i]? := fun i hi => by
        rw [List.getElem?_set, if_neg (fun e => by subst e; exact hk hi)]
      rcases sp.2 id hid with e | ⟨_, c0, c1, m, h1, h2, h3, h4⟩
      · exact .inr ⟨hS, cs, cs.set o v, n, by rw [← e]; exact hg, rfl, by simp, key⟩
      · rw [hg] at h2
        injection h2 with h2; injection h2 with h5 h6; injection h6 with h6
        subst h5; subst h6
        exact .inr ⟨hS, c0, cs.set o v, n, h1, rfl, by simp [h3], fun i hi => (key i hi).trans (h4 i hi)⟩
    · rw [if_neg e]
      exact sp.2 id hid
theorem flat_at {n : Nat} {els : List (List Value)} (hn : ∀ e ∈ els, e.length = n) {j o : Nat} {e : List Value} (he : els[j]? = some e) (ho : o < n) : els.flatten[j * n + o]? = e[o]? := by
  rw [flatten_get hn j o ho, he]; rfl
theorem ldb {h : H} {t i : Nat} {bx : List Value} {v : Value} (hg : h.get t = some (.cells bx (some 0))) (hv : bx[i]? = some v) : A.load false 1 (.pointer (some ⟨t, i, none⟩)) h = some v := by
  rw [load1_eq, hg]; exact hv
theorem spA (C : CF) (L : Nat) {β : Type} (kx : Value → Value → Value → H → Option β) {S : Nat → Prop} {h0 : H} {w : Value} {els : List (List Value)} (own : OwnW S 4 h0 w els) (hl : els.length ≤ 1000) {t : Nat} (ht : h0.next ≤ t) {bx : List Value} (hbx : bx[33]? = some w) (x2 x0 : Value) :
    ∀ (d j m : Nat) (h : H), j + d = els.length → d < m → Sp S h0 h → h.get t = some (.cells bx (some 0)) → ∃ h', MailD7.p20arborlbrlrbw C L kx m (.int .i64 (j : Int)) (ptrV t) x2 x0 h = kx (ptrV t) x2 x0 h' ∧ Sp S h0 h' ∧ h'.get t = some (.cells bx (some 0)) := by
  have hlen : A.lenS w = some (.int .i64 (els.length : Int)) := own.slice.len.1
  intro d
  induction d with
  | zero =>
    intro j m h hj hm sp hg
    obtain ⟨m, rfl⟩ : ∃ q, m = q + 1 := ⟨m - 1, by omega⟩
    have hd : decide ((j : Int) < (els.length : Int)) = false := by rw [decide_eq_false_iff_not]; omega
    have lw := ldb hg hbx
    refine ⟨h, ?_, sp, hg⟩
    simp only [MailD7.p20arborlbrlrbw, MailD7.p20arborlbrlrbo, fieldAddr_eq, Nat.zero_add, Nat.add_zero, Nat.reduceAdd, bnd_some, lw, hlen, bin_lss, hd, toBK_bool, cond_false]
  | succ d ih =>
    intro j m h hj hm sp hg
    obtain ⟨m, rfl⟩ : ∃ q, m = q + 1 := ⟨m - 1, by omega⟩
    have hd : decide ((j : Int) < (els.length : Int)) = true := by rw [decide_eq_true_iff]; omega
    have hwr : IntKind.i64.wrap ((j : Int) + 1) = ((j + 1 : Nat) : Int) := wrap_succ (by omega)
    have lw := ldb hg hbx
    obtain ⟨q, cs, ix, hS, hq, hgq, hcl, _, hle⟩ := Sp.at own sp (j := j) (by omega)
    rw [Nat.succ_mul] at hle
    obtain ⟨h1, es, sp1, keep⟩ := sp.store hS hq hgq (o := j * 4) (by omega) (by simp [Kp]) (v := .string ⟨⟨[115, 112, 111, 105, 108, 116]⟩⟩) rfl
    obtain ⟨h', e, r⟩ := ih (j + 1) m h1 (by omega) (by omega) sp1 (by rw [keep t ht]; exact hg)
    refine ⟨h', ?_, r⟩
    simp only [MailD7.p20arborlbrlrbw, MailD7.p20arborlbrlrbo, fieldAddr_eq, Nat.zero_add, Nat.add_zero, Nat.reduceAdd, bnd_some, lw, hlen, bin_lss, hd, toBK_bool, cond_true, ix, es, bin_add, hwr]
    exact e
theorem spB (C : CF) (L : Nat) {β : Type} (kx : Value → Value → Value → H → Option β) {S : Nat → Prop} {h0 : H} {w : Value} {els : List (List Value)} (own : OwnW S 1 h0 w els) (hl : els.length ≤ 1000) {t : Nat} (ht : h0.next ≤ t) {bx : List Value} (hbx : bx[34]? = some w) (x2 x0 : Value) :
    ∀ (d j m : Nat) (h : H), j + d = els.length → d < m → Sp S h0 h → h.get t = some (.cells bx (some 0)) → ∃ h', MailD7.p20arborlbrrlrbw C L kx m (.int .i64 (j : Int)) (ptrV t) x2 x0 h = kx (ptrV t) x2 x0 h' ∧ Sp S h0 h' ∧ h'.get t = some (.cells bx (some 0)) := by
  have hlen : A.lenS w = some (.int .i64 (els.length : Int)) := own.slice.len.1
  intro d
  induction d with
  | zero =>
    intro j m h hj hm sp hg
    obtain ⟨m, rfl⟩ : ∃ q, m = q + 1 := ⟨m - 1, by omega⟩
    have hd : decide ((j : Int) < (els.length : Int)) = false := by rw [decide_eq_false_iff_not]; omega
    have lw := ldb hg hbx
    refine ⟨h, ?_, sp, hg⟩
    simp only [MailD7.p20arborlbrrlrbw, MailD7.p20arborlbrrlrbo, fieldAddr_eq, Nat.zero_add, Nat.add_zero, Nat.reduceAdd, bnd_some, lw, hlen, bin_lss, hd, toBK_bool, cond_false]
  | succ d ih =>
    intro j m h hj hm sp hg
    obtain ⟨m, rfl⟩ : ∃ q, m = q + 1 := ⟨m - 1, by omega⟩
    have hd : decide ((j : Int) < (els.length : Int)) = true := by rw [decide_eq_true_iff]; omega
    have hwr : IntKind.i64.wrap ((j : Int) + 1) = ((j + 1 : Nat) : Int) := wrap_succ (by omega)
    have lw := ldb hg hbx
    obtain ⟨q, cs, ix, hS, hq, hgq, hcl, _, hle⟩ := Sp.at own sp (j := j) (by omega)
    rw [Nat.succ_mul] at hle
    obtain ⟨h1, es, sp1, keep⟩ := sp.store hS hq hgq (o := j * 1) (by omega) (by simp [Kp]) (v := .string ⟨⟨[115, 112, 111, 105, 108, 116]⟩⟩) rfl
    obtain ⟨h', e, r⟩ := ih (j + 1) m h1 (by omega) (by omega) sp1 (by rw [keep t ht]; exact hg)
    refine ⟨h', ?_, r⟩
    simp only [MailD7.p20arborlbrrlrbw, MailD7.p20arborlbrrlrbo, fieldAddr_eq, Nat.zero_add, Nat.add_zero, Nat.reduceAdd, bnd_some, lw, hlen, bin_lss, hd, toBK_bool, cond_true, ix, es, bin_add, hwr]
    exact e
theorem spD (C : CF) (L : Nat) {β : Type} (kx : Value → Value → H → Option β) {S : Nat → Prop} {h0 : H} {w : Value} {els : List (List Value)} (own : OwnW S 2 h0 w els) (hl : els.length ≤ 1000) {t : Nat} (ht : h0.next ≤ t) {bx : List Value} (hbx : bx[27]? = some w) (x2 x0 : Value) :
    ∀ (d j m : Nat) (h : H), j + d = els.length → d < m → Sp S h0 h → h.get t = some (.cells bx (some 0)) → ∃ h', MailD7.p20arborlbrrrrlrbw C L kx m (.int .i64 (j : Int)) (ptrV t) x2 x0 h = kx x2 x0 h' ∧ Sp S h0 h' ∧ h'.get t = some (.cells bx (some 0)) := by
  have hlen : A.lenS w = some (.int .i64 (els.length : Int)) := own.slice.len.1
  intro d
  induction d with
  | zero =>
    intro j m h hj hm sp hg
    obtain ⟨m, rfl⟩ : ∃ q, m = q + 1 := ⟨m - 1, by omega⟩
    have hd : decide ((j : Int) < (els.length : Int)) = false := by rw [decide_eq_false_iff_not]; omega
    have lw := ldb hg hbx
    refine ⟨h, ?_, sp, hg⟩
    simp only [MailD7.p20arborlbrrrrlrbw, MailD7.p20arborlbrrrrlrbo, fieldAddr_eq, Nat.zero_add, Nat.add_zero, Nat.reduceAdd, bnd_some, lw, hlen, bin_lss, hd, toBK_bool, cond_false]
  | succ d ih =>
    intro j m h hj hm sp hg
    obtain ⟨m, rfl⟩ : ∃ q, m = q + 1 := ⟨m - 1, by omega⟩
    have hd : decide ((j : Int) < (els.length : Int)) = true := by rw [decide_eq_true_iff]; omega
    have hwr : IntKind.i64.wrap ((j : Int) + 1) = ((j + 1 : Nat) : Int) := wrap_succ (by omega)
    have lw := ldb hg hbx
    obtain ⟨q, cs, ix, hS, hq, hgq, hcl, _, hle⟩ := Sp.at own sp (j := j) (by omega)
    rw [Nat.succ_mul] at hle
    obtain ⟨h1, es, sp1, keep⟩ := sp.store hS hq hgq (o := j * 2) (by omega) (by simp [Kp]) (v := .string ⟨⟨[115, 112, 111, 105, 108, 116]⟩⟩) rfl
    obtain ⟨h', e, r⟩ := ih (j + 1) m h1 (by omega) (by omega) sp1 (by rw [keep t ht]; exact hg)
    refine ⟨h', ?_, r⟩
    simp only [MailD7.p20arborlbrrrrlrbw, MailD7.p20arborlbrrrrlrbo, fieldAddr_eq, Nat.zero_add, Nat.add_zero, Nat.reduceAdd, bnd_some, lw, hlen, bin_lss, hd, toBK_bool, cond_true, ix, es, bin_add, hwr]
    exact e
theorem spC2 (C : CF) (L : Nat) {β : Type} (kx : Value → Value → Value → Value → H → Option β) {S : Nat → Prop} {h0 : H} {w : Value} {els : List (List Value)} (own : OwnW S 24 h0 w els) (hl : els.length ≤ 1000) {t : Nat} (ht : h0.next ≤ t) {bx : List Value} (hbx : bx[35]? = some w) {k : Nat} {p : PkD} {wk : Value} (hk : els[k]? = some (p.cells wk)) (own2 : OwnW S 2 h0 wk (p.subs.map sbC)) (sm : p.Small) (x2 x0 : Value) :
    ∀ (d j m : Nat) (h : H), j + d = p.subs.length → d < m → Sp S h0 h → h.get t = some (.cells bx (some 0)) → ∃ h', MailD7.p20arborlbrrrlrborlblrbw C L kx m (.int .i64 (j : Int)) (.int .i64 (k : Int)) (ptrV t) x2 x0 h = kx (.int .i64 (k : Int)) (ptrV t) x2 x0 h' ∧ Sp S h0 h' ∧ h'.get t = some (.cells bx (some 0)) := by
  have hkl : k < els.length := (List.getElem?_eq_some_iff.1 hk).1
  have hlen : A.lenS wk = some (.int .i64 (p.subs.length : Int)) := by have := own2.slice.len.1; rwa [List.length_map] at this
  have sm : p.subs.length ≤ 100 := sm
  have hwk : ∀ {h : H}, Sp S h0 h → ∃ q, A.idxS 24 w (.int .i64 (k : Int)) = some (.pointer (some ⟨q, k * 24, none⟩)) ∧ A.load false 1 (.pointer (some ⟨q, k * 24 + 22, none⟩)) h = some wk := fun {h} sp => by
    obtain ⟨q, cs, ix, hS, hq, hgq, hcl, hkp, hle⟩ := Sp.at own sp hkl
    refine ⟨q, ix, ?_⟩
    rw [load1_eq, hgq]
    show cs[k * 24 + 22]? = some wk
    rw [hkp _ (.inr ⟨rfl, by omega⟩), flat_at own.1.1 hk (by omega)]
    rfl
  intro d
  induction d with
  | zero =>
    intro j m h hj hm sp hg
    obtain ⟨m, rfl⟩ : ∃ q, m = q + 1 := ⟨m - 1, by omega⟩
    have hd : decide ((j : Int) < (p.subs.length : Int)) = false := by rw [decide_eq_false_iff_not]; omega
    have lw := ldb hg hbx
    obtain ⟨q, ix, lk⟩ := hwk sp
    refine ⟨h, ?_, sp, hg⟩
    simp only [MailD7.p20arborlbrrrlrborlblrbw, MailD7.p20arborlbrrrlrborlblrbo, fieldAddr_eq, Nat.zero_add, Nat.add_zero, bnd_some, lw, ix, lk, hlen, bin_lss, hd, toBK_bool, cond_false]
  | succ d ih =>
    intro j m h hj hm sp hg
    obtain ⟨m, rfl⟩ : ∃ q, m = q + 1 := ⟨m - 1, by omega⟩
    have hd : decide ((j : Int) < (p.subs.length : Int)) = true := by rw [decide_eq_true_iff]; omega
    have hwr : IntKind.i64.wrap ((j : Int) + 1) = ((j + 1 : Nat) : Int) := wrap_succ (by omega)
    have lw := ldb hg hbx
    obtain ⟨q0, ix, lk⟩ := hwk sp
    obtain ⟨q, cs, ix2, hS, hq, hgq, hcl, _, hle⟩ := Sp.at own2 sp (j := j) (by rw [List.length_map]; omega)
    rw [Nat.succ_mul] at hle
    obtain ⟨h1, es, sp1, keep⟩ := sp.store hS hq hgq (o := j * 2) (by omega) (by simp [Kp]) (v := .string ⟨⟨[115, 112, 111, 105, 108, 116]⟩⟩) rfl
    obtain ⟨h', e, r⟩ := ih (j + 1) m h1 (by omega) (by omega) sp1 (by rw [keep t ht]; exact hg)
    refine ⟨h', ?_, r⟩
    simp only [MailD7.p20arborlbrrrlrborlblrbw, MailD7.p20arborlbrrrlrborlblrbo, fieldAddr_eq, Nat.zero_add, Nat.add_zero, bnd_some, lw, ix, lk, hlen, bin_lss, hd, toBK_bool, cond_true, ix2, es, bin_add, hwr]
    exact e
theorem spC (C : CF) (L : Nat) (hL : 200 ≤ L) {β : Type} (kx : Value → Value → Value → H → Option β) {S : Nat → Prop} {h0 : H} {w : Value} {els : List (List Value)} {pks : List PkD} (own : OwnW S 24 h0 w els) (ap : All2 (PkIn (OwnW S) h0) els pks) (hl : els.length ≤ 20) (hsm : ∀ p ∈ pks, p.Small) {t : Nat} (ht : h0.next ≤ t) {bx : List Value} (hbx : bx[35]? = some w) (x2 x0 : Value) :
    ∀ (d j m : Nat) (h : H), j + d = els.length → d < m → Sp S h0 h → h.get t = some (.cells bx (some 0)) → ∃ h', MailD7.p20arborlbrrrlrbw C L kx m (.int .i64 (j : Int)) (ptrV t) x2 x0 h = kx (ptrV t) x2 x0 h' ∧ Sp S h0 h' ∧ h'.get t = some (.cells bx (some 0)) := by
  have hlen : A.lenS w = some (.int .i64 (els.length : Int)) := own.slice.len.1
  intro d
  induction d with
  | zero =>
    intro j m h hj hm sp hg
    obtain ⟨m, rfl⟩ : ∃ q, m = q + 1 := ⟨m - 1, by omega⟩
    have hd : decide ((j : Int) < (els.length : Int)) = false := by rw [decide_eq_false_iff_not]; omega
    have lw := ldb hg hbx
    refine ⟨h, ?_, sp, hg⟩
    simp only [MailD7.p20arborlbrrrlrbw, MailD7.p20arborlbrrrlrbo, MailD7.p20arborlbrrrlrbol, fieldAddr_eq, Nat.zero_add, bnd_some, lw, hlen, bin_lss, hd, toBK_bool, cond_false]
  | succ d ih =>
    intro j m h hj hm sp hg
    obtain ⟨m, rfl⟩ : ∃ q, m = q + 1 := ⟨m - 1, by omega⟩
    have hd : decide ((j : Int) < (els.length : Int)) = true := by rw [decide_eq_true_iff]; omega
    have hwr : IntKind.i64.wrap ((j : Int) + 1) = ((j + 1 : Nat) : Int) := wrap_succ (by omega)
    have lw := ldb hg hbx
    obtain ⟨cs0, hcs⟩ : ∃ u, els[j]? = some u := ⟨_, List.getElem?_eq_getElem (by omega)⟩
    obtain ⟨p, hp, wk, rfl, own2⟩ := ap.at hcs
    have sm := hsm p (List.mem_of_getElem? hp)
    obtain ⟨h1, e1, sp1, hg1⟩ := spC2 C L (fun x6 x3 x2 x0 h => MailD7.p20arborlbrrrlrborlbr C L x6 x3 x2 x0 h (fun x6 x3 x2 x0 h => MailD7.p20arborlbrrrlrborr C L x6 x3 x2 x0 h (fun x6 x3 x2 x0 h => MailD7.p20arborlbrrrlrbw C L kx m x6 x3 x2 x0 h))) own (by omega) ht hbx hcs own2 sm x2 x0 p.subs.length 0 L h (by omega) (by unfold PkD.Small at sm; omega) sp hg
    have e1' : MailD7.p20arborlbrrrlrborlblrbw C L (fun x6 x3 x2 x0 h => MailD7.p20arborlbrrrlrborlbr C L x6 x3 x2 x0 h (fun x6 x3 x2 x0 h => MailD7.p20arborlbrrrlrborr C L x6 x3 x2 x0 h (fun x6 x3 x2 x0 h => MailD7.p20arborlbrrrlrbw C L kx m x6 x3 x2 x0 h))) L (.int .i64 0) (.int .i64 (j : Int)) (ptrV t) x2 x0 h = _ := e1
    have lw1 := ldb hg1 hbx
    obtain ⟨q, cs, ix, hS, hq, hgq, hcl, _, hle⟩ := Sp.at own sp1 (j := j) (by omega)
    rw [Nat.succ_mul] at hle
    obtain ⟨h2, es, sp2, keep⟩ := sp1.store hS hq hgq (o := j * 24 + 4) (by omega) (by unfold Kp; omega) (v := .int .u16 9999) rfl
    obtain ⟨h', e, r⟩ := ih (j + 1) m h2 (by omega) (by omega) sp2 (by rw [keep t ht]; exact hg1)
    refine ⟨h', ?_, r⟩
    simp only [MailD7.p20arborlbrrrlrbw, MailD7.p20arborlbrrrlrbo, MailD7.p20arborlbrrrlrbol, fieldAddr_eq, Nat.zero_add, bnd_some, lw, hlen, bin_lss, hd, toBK_bool, cond_true, MailD7.p20arborlbrrrlrbor, MailD7.p20arborlbrrrlrborl, MailD7.p20arborlbrrrlrborlb, MailD7.p20arborlbrrrlrborlbl, MailD7.p20arborlbrrrlrborlbll, MailD7.p20arborlbrrrlrborlblr, MailD7.p20arborlbrrrlrborlblrb]
    refine Eq.trans e1' ?_
    simp only [MailD7.p20arborlbrrrlrborlbr, fieldAddr_eq, Nat.zero_add, bnd_some, lw1, ix, es, MailD7.p20arborlbrrrlrborr, bin_add, hwr]
    exact e
theorem sp_round (C : CF) (L : Nat) (hL : 200 ≤ L) {β : Type} (kn : Value → Value → H → Option β) {S : Nat → Prop} {h0 h : H} {x0 : Value} {els : List (List Value)} (own : OwnW S 38 h0 x0 els) {i : Nat} {cs0 : List Value} (hi : els[i]? = some cs0) {T : ItD} (it : ItIn (OwnW S) h0 cs0 T) (sm : T.Small) (sp : Sp S h0 h) :
    ∃ h', MailD7.p20arborlb C L (.int .i64 (i : Int)) x0 h kn = kn (.int .i64 (i : Int)) x0 h' ∧ Sp S h0 h' := by
  obtain ⟨p22, p33, p34, p35, pe, rfl, s22, s33, s34, s35, ap⟩ := it
  have hil : i < els.length := (List.getElem?_eq_some_iff.1 hi).1
  obtain ⟨q, cs, ix, hS, hq, hgq, hcl, hkp, hle⟩ := Sp.at own sp hil
  rw [Nat.succ_mul] at hle
  obtain ⟨bx, hbx⟩ : ∃ bx, bx = (cs.drop (i * 38)).take 38 := ⟨_, rfl⟩
  have bl : bx.length = 38 := by rw [hbx, List.length_take, List.length_drop]; omega
  have ld : A.load true 38 (.pointer (some ⟨q, i * 38, none⟩)) h = some (.agg ⟨bx⟩) := load_of hgq (by omega) hbx.symm
  have hb : ∀ o v, o < 38 → o ≠ 1 → (T.cells p22 p33 p34 p35)[o]? = some v → bx[o]? = some v := fun o v ho h1 hv => by
    rw [hbx, List.getElem?_take, if_pos ho, List.getElem?_drop, hkp _ (.inl ⟨rfl, by omega⟩), flat_at own.1.1 hi ho]
    exact hv
  obtain ⟨g1, h2, eb, est, gt2, x2, n2⟩ := box_put (n := 38) (z := MailD7.Z71) (zl := MailD7.Z71L) (vs := bx) (h := h) rfl rfl bl
  obtain ⟨t, ht⟩ : ∃ t, t = h.next := ⟨_, rfl⟩
  rw [← ht] at eb est gt2
  have ht0 : h0.next ≤ t := by have := sp.1; omega
  have sp2 := sp.ext x2
  obtain ⟨sm1, sm2, sm3, sm4, sm5⟩ := sm
  have sm1 : T.pk.subs.length ≤ 100 := sm1
  have l35 := ap.1
  obtain ⟨h3, e3, sp3, g3⟩ := spA C L (fun x3 x2 x0 h => MailD7.p20arborlbrr C L x3 x2 x0 h kn) s33 (by rw [List.length_map]; omega) ht0 (hb 33 p33 (by omega) (by omega) rfl) (.int .i64 (i : Int)) x0 (T.mss.map MsD.cells).length 0 L h2 (by omega) (by rw [List.length_map]; omega) sp2 gt2
  have e3' : MailD7.p20arborlbrlrbw C L (fun x3 x2 x0 h => MailD7.p20arborlbrr C L x3 x2 x0 h kn) L (.int .i64 0) (ptrV t) (.int .i64 (i : Int)) x0 h2 = _ := e3
  obtain ⟨h4, e4, sp4, g4⟩ := spB C L (fun x3 x2 x0 h => MailD7.p20arborlbrrr C L x3 x2 x0 h kn) s34 (by rw [List.length_map]; omega) ht0 (hb 34 p34 (by omega) (by omega) rfl) (.int .i64 (i : Int)) x0 (T.cls.map txC).length 0 L h3 (by omega) (by rw [List.length_map]; omega) sp3 g3
  have e4' : MailD7.p20arborlbrrlrbw C L (fun x3 x2 x0 h => MailD7.p20arborlbrrr C L x3 x2 x0 h kn) L (.int .i64 0) (ptrV t) (.int .i64 (i : Int)) x0 h3 = _ := e4
  obtain ⟨h5, e5, sp5, g5⟩ := spC C L hL (fun x3 x2 x0 h => MailD7.p20arborlbrrrr C L x3 x2 x0 h kn) s35 ap (by omega) sm5 ht0 (hb 35 p35 (by omega) (by omega) rfl) (.int .i64 (i : Int)) x0 pe.length 0 L h4 (by omega) (by omega) sp4 g4
  have e5' : MailD7.p20arborlbrrrlrbw C L (fun x3 x2 x0 h => MailD7.p20arborlbrrrr C L x3 x2 x0 h kn) L (.int .i64 0) (ptrV t) (.int .i64 (i : Int)) x0 h4 = _ := e5
  obtain ⟨h6, e6, sp6, g6⟩ := spD C L (fun x2 x0 h => MailD7.p20arborlbrrrrr C L x2 x0 h kn) s22 (by rw [List.length_map]; omega) ht0 (hb 27 p22 (by omega) (by omega) rfl) (.int .i64 (i : Int)) x0 (T.pk.subs.map sbC).length 0 L h5 (by omega) (by rw [List.length_map]; omega) sp5 g5
  have e6' : MailD7.p20arborlbrrrrlrbw C L (fun x2 x0 h => MailD7.p20arborlbrrrrr C L x2 x0 h kn) L (.int .i64 0) (ptrV t) (.int .i64 (i : Int)) x0 h5 = _ := e6
  obtain ⟨q', cs', ix', hS', hq', hgq', hcl', _, hle'⟩ := Sp.at own sp6 hil
  rw [Nat.succ_mul] at hle'
  obtain ⟨h7, es, sp7, _⟩ := sp6.store hS' hq' hgq' (o := i * 38 + 1) (by omega) (by unfold Kp; omega) (v := .int .i64 (-99)) rfl
  refine ⟨h7, ?_, sp7⟩
  simp only [MailD7.p20arborlb, MailD7.p20arborlbl, ix, bnd_some, ld, eb, bnd2_some, est, MailD7.p20arborlbr, MailD7.p20arborlbrl, MailD7.p20arborlbrll, MailD7.p20arborlbrlr, MailD7.p20arborlbrlrb]
  refine Eq.trans e3' ?_
  simp only [MailD7.p20arborlbrr, MailD7.p20arborlbrrl, MailD7.p20arborlbrrll, MailD7.p20arborlbrrlr, MailD7.p20arborlbrrlrb]
  refine Eq.trans e4' ?_
  simp only [MailD7.p20arborlbrrr, MailD7.p20arborlbrrrl, MailD7.p20arborlbrrrll, MailD7.p20arborlbrrrlr, MailD7.p20arborlbrrrlrb]
  refine Eq.trans e5' ?_
  simp only [MailD7.p20arborlbrrrr, MailD7.p20arborlbrrrrl, MailD7.p20arborlbrrrrll, MailD7.p20arborlbrrrrlr, MailD7.p20arborlbrrrrlrb]
  refine Eq.trans e6' ?_
  simp only [MailD7.p20arborlbrrrrr, ix', bnd_some, fieldAddr_eq, es]
theorem sp_all (C : CF) (L : Nat) (hL : 200 ≤ L) {β : Type} (kx : H → Option β) {S : Nat → Prop} {h0 : H} {x0 : Value} {els : List (List Value)} {c : List ItD} (own : OwnW S 38 h0 x0 els) (ac : All2 (ItIn (OwnW S) h0) els c) (sm : SmallC c) :
    ∀ (d i m : Nat) (h : H), i + d = c.length → d < m → Sp S h0 h → ∃ h', MailD7.p20arbw C L kx m (.int .i64 (i : Int)) x0 h = kx h' ∧ Sp S h0 h' := by
  have hlen : A.lenS x0 = some (.int .i64 (c.length : Int)) := by have := own.slice.len.1; rwa [ac.1] at this
  have h20 := sm.1
  intro d
  induction d with
  | zero =>
    intro i m h hi hm sp
    obtain ⟨m, rfl⟩ : ∃ q, m = q + 1 := ⟨m - 1, by omega⟩
    have hd : decide ((i : Int) < (c.length : Int)) = false := by rw [decide_eq_false_iff_not]; omega
    refine ⟨h, ?_, sp⟩
    simp only [MailD7.p20arbw, MailD7.p20arbo, MailD7.p20arbol, hlen, bnd_some, bin_lss, hd, toBK_bool, cond_false]
  | succ d ih =>
    intro i m h hi hm sp
    obtain ⟨m, rfl⟩ : ∃ q, m = q + 1 := ⟨m - 1, by omega⟩
    have hd : decide ((i : Int) < (c.length : Int)) = true := by rw [decide_eq_true_iff]; omega
    have hwr : IntKind.i64.wrap ((i : Int) + 1) = ((i + 1 : Nat) : Int) := wrap_succ (by omega)
    obtain ⟨T, hT⟩ : ∃ T, c[i]? = some T := ⟨_, List.getElem?_eq_getElem (by omega)⟩
    obtain ⟨cs, hcs, it⟩ := ac.at2 hT
    obtain ⟨h1, e1, sp1⟩ := sp_round C L hL (fun x2 x0 h => MailD7.p20arborr C L x2 x0 h (fun x2 x0 h => MailD7.p20arbw C L kx m x2 x0 h)) own hcs it (sm.2 T (List.mem_of_getElem? hT)) sp
    obtain ⟨h', e2, r⟩ := ih (i + 1) m h1 (by omega) (by omega) sp1
    refine ⟨h', ?_, r⟩
    simp only [MailD7.p20arbw, MailD7.p20arbo, MailD7.p20arbol, hlen, bnd_some, bin_lss, hd, toBK_bool, cond_true, MailD7.p20arbor, MailD7.p20arborl]
    refine Eq.trans e1 ?_
    simp only [MailD7.p20arborr, bin_add, bnd_some, hwr]
    exact e2
/-- spoil. -/
theorem S20 (k : Nat) {S : Nat → Prop} {h : H} {v : Value} {c : List ItD} (ci : CmdIn (OwnW S) h v c) (sm : SmallC c) : ∃ h', callB Try.prog 0 [9] (k + 301) 20 [v] h = some (.tuple ⟨[]⟩, h') ∧ Sp S h h' := by
  obtain ⟨els, own, ac⟩ := ci
  rw [MailD7.F20eq [9] rfl]
  obtain ⟨h', e, sp⟩ := sp_all (callB Try.prog 0 [9] (k + 300)) (k + 300) (by omega) (fun h => some (Value.tuple ⟨[]⟩, h)) own ac sm c.length 0 (k + 300) h (by omega) (by have := sm.1; omega) (Sp.refl S h)
  have e' : MailD7.p20arbw (callB Try.prog 0 [9] (k + 300)) (k + 300) (fun h => some (Value.tuple ⟨[]⟩, h)) (k + 300) (.int .i64 0) v h = _ := e
  refine ⟨h', ?_, sp⟩
  simp only [MailD7.F20, MailD7.p20a, MailD7.p20al, MailD7.p20ar, MailD7.p20arb]
  exact e'
end Go.Proofs.Ytdjhkdogpbiglaa.MailD

namespace Go.Proofs.Ytdjhkdogpbiglaa.MailD
open Go Go.AM
theorem OwnW.lt {S : Nat → Prop} {n : Nat} {h : H} {v : Value} {els : List (List Value)} (x : OwnW S n h v els) : OwnW (fun i => S i ∧ i < h.next) n h v els := ⟨x.1, fun i hi => ⟨x.2.1 i hi, x.1.sid_lt i hi⟩, x.2.2⟩
/-- A command handed in. -/
theorem cmd_open {h : H} {cs : List Value} (ty : Ty Try.prog h 29 cs) : ∃ v els c, cs = [v] ∧ SliceE 38 h v els ∧ (∀ x ∈ els, ItC h x) ∧ All2 (ItIn SliceE h) els c := by
  obtain ⟨v, els, rfl, s, _, t⟩ := ty.slice_inv Try.underlying29
  have c71 : Try.prog.cellsOf 71 = 38 := by kernel_rfl
  rw [c71] at s
  obtain ⟨c, ac⟩ := All2.of (R := ItIn SliceE h) els fun x hx => item_openD (t x hx)
  exact ⟨v, els, c, rfl, s, fun x hx => item_open (t x hx), ac⟩
theorem small_all {h : H} {els : List (List Value)} {c : List ItD} (ac : All2 (ItIn SliceE h) els c) (hl : els.length ≤ 20) (hb : ∀ y ∈ els, ItB h y) : SmallC c := ⟨by have := ac.1; omega, fun x hx => by
  obtain ⟨j, hj⟩ := List.mem_iff_getElem?.1 hx
  obtain ⟨y, hy, i⟩ := ac.at2 hj
  exact small_of i (hb y (List.mem_of_getElem? hy))⟩
end Go.Proofs.Ytdjhkdogpbiglaa.MailD
