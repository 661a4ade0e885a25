/-
  What the cells of a note hold.
-/
import Derived.Test.YtlhppeikbgolbaaRecD
import Derived.Test.YtlhppeikbgolbaaAmVc
namespace Go.Proofs.Ytlhppeikbgolbaa.RecD
open Go Go.AM

/-- What the cells of a note hold. -/
structure NoteF where
  i : Nat → Int
  s : Nat → ByteArray
  b : Nat → Bool
  w : Value

/-- A note's cells. -/
def NoteF.cells (f : NoteF) : List Value :=
  [.int .u8 (f.i 0), .int .i64 (f.i 1), .int .i64 (f.i 2), .string (f.s 3), .int .u8 (f.i 4), .bool (f.b 5), .int .u8 (f.i 6), .bool (f.b 7), .int .u16 (f.i 8), .string (f.s 9), .string (f.s 10), .int .u8 (f.i 11), .bool (f.b 12), .int .u16 (f.i 13), .string (f.s 14), .bool (f.b 15), .string (f.s 16), .string (f.s 17), .int .u8 (f.i 18), .bool (f.b 19), .bool (f.b 20), .bool (f.b 21), .string (f.s 22), .string (f.s 23), .bool (f.b 24), .int .u8 (f.i 25), f.w, .string (f.s 27), .string (f.s 28), .string (f.s 29), .int .u8 (f.i 30), .bool (f.b 31), .string (f.s 32), .bool (f.b 33), .int .u8 (f.i 34)]

theorem note_open {h : H} {cs : List Value} (ty : Ty Try.prog h 36 cs) : ∃ (f : NoteF) (els : List (List Value)), cs = f.cells ∧ SliceE 2 h f.w els ∧ (∀ x ∈ els, Ty Try.prog h 57 x) ∧ els.length ≤ maxLen := by
  have fl := ty.fields Try.underlying36
  simp only [TyFs] at fl
  obtain ⟨_, _, rfl, u0, ⟨_, _, rfl, u1, ⟨_, _, rfl, u2, ⟨_, _, rfl, u3, ⟨_, _, rfl, u4, ⟨_, _, rfl, u5, ⟨_, _, rfl, u6, ⟨_, _, rfl, u7, ⟨_, _, rfl, u8, rfl⟩⟩⟩⟩⟩⟩⟩⟩⟩ := fl
  obtain ⟨a0, rfl, _⟩ := u0.int_inv Try.underlying5
  obtain ⟨a1, rfl, _⟩ := u1.int_inv Try.underlying3
  obtain ⟨a2, rfl, _⟩ := u2.int_inv Try.underlying3
  obtain ⟨a3, rfl, _⟩ := u3.str_inv Try.underlying9
  obtain ⟨a32, rfl, _⟩ := u6.str_inv Try.underlying9
  obtain ⟨a33, rfl⟩ := u7.bool_inv Try.underlying4
  obtain ⟨a34, rfl, _⟩ := u8.int_inv Try.underlying5
  have pl := u4.fields Try.underlying34
  simp only [TyFs] at pl
  obtain ⟨_, _, rfl, p0, ⟨_, _, rfl, p1, ⟨_, _, rfl, p2, ⟨_, _, rfl, p3, ⟨_, _, rfl, p4, ⟨_, _, rfl, p5, ⟨_, _, rfl, p6, ⟨_, _, rfl, p7, ⟨_, _, rfl, p8, ⟨_, _, rfl, p9, ⟨_, _, rfl, p10, ⟨_, _, rfl, p11, ⟨_, _, rfl, p12, ⟨_, _, rfl, p13, ⟨_, _, rfl, p14, ⟨_, _, rfl, p15, ⟨_, _, rfl, p16, ⟨_, _, rfl, p17, ⟨_, _, rfl, p18, ⟨_, _, rfl, p19, ⟨_, _, rfl, p20, rfl⟩⟩⟩⟩⟩⟩⟩⟩⟩⟩⟩⟩⟩⟩⟩⟩⟩⟩⟩⟩⟩ := pl
  obtain ⟨a4, rfl, _⟩ := p0.int_inv Try.underlying5
  obtain ⟨a5, rfl⟩ := p1.bool_inv Try.underlying4
  obtain ⟨a6, rfl, _⟩ := p2.int_inv Try.underlying5
  obtain ⟨a7, rfl⟩ := p3.bool_inv Try.underlying4
  obtain ⟨a8, rfl, _⟩ := p4.int_inv Try.underlying29
  obtain ⟨a9, rfl, _⟩ := p5.str_inv Try.underlying9
  obtain ⟨a10, rfl, _⟩ := p6.str_inv Try.underlying9
  obtain ⟨a11, rfl, _⟩ := p7.int_inv Try.underlying5
  obtain ⟨a12, rfl⟩ := p8.bool_inv Try.underlying4
  obtain ⟨a13, rfl, _⟩ := p9.int_inv Try.underlying29
  obtain ⟨a14, rfl, _⟩ := p10.str_inv Try.underlying9
  obtain ⟨a15, rfl⟩ := p11.bool_inv Try.underlying4
  obtain ⟨a20, rfl⟩ := p13.bool_inv Try.underlying4
  obtain ⟨a21, rfl⟩ := p14.bool_inv Try.underlying4
  obtain ⟨a22, rfl, _⟩ := p15.str_inv Try.underlying9
  obtain ⟨a23, rfl, _⟩ := p16.str_inv Try.underlying9
  obtain ⟨a24, rfl⟩ := p17.bool_inv Try.underlying4
  obtain ⟨a25, rfl, _⟩ := p18.int_inv Try.underlying5
  obtain ⟨a27, rfl, _⟩ := p20.str_inv Try.underlying9
  obtain ⟨w, els, rfl, hs, hm, he⟩ := p19.slice_inv Try.underlying32
  have wl := p12.fields Try.underlying31
  simp only [TyFs] at wl
  obtain ⟨_, _, rfl, q0, ⟨_, _, rfl, q1, ⟨_, _, rfl, q2, ⟨_, _, rfl, q3, rfl⟩⟩⟩⟩ := wl
  obtain ⟨a16, rfl, _⟩ := q0.str_inv Try.underlying9
  obtain ⟨a17, rfl, _⟩ := q1.str_inv Try.underlying9
  obtain ⟨a18, rfl, _⟩ := q2.int_inv Try.underlying5
  obtain ⟨a19, rfl⟩ := q3.bool_inv Try.underlying4
  have ml := u5.fields Try.underlying31
  simp only [TyFs] at ml
  obtain ⟨_, _, rfl, m0, ⟨_, _, rfl, m1, ⟨_, _, rfl, m2, ⟨_, _, rfl, m3, rfl⟩⟩⟩⟩ := ml
  obtain ⟨a28, rfl, _⟩ := m0.str_inv Try.underlying9
  obtain ⟨a29, rfl, _⟩ := m1.str_inv Try.underlying9
  obtain ⟨a30, rfl, _⟩ := m2.int_inv Try.underlying5
  obtain ⟨a31, rfl⟩ := m3.bool_inv Try.underlying4
  exact ⟨⟨fun k => match k with | 0 => a0 | 1 => a1 | 2 => a2 | 4 => a4 | 6 => a6 | 8 => a8 | 11 => a11 | 13 => a13 | 18 => a18 | 25 => a25 | 30 => a30 | 34 => a34 | _ => 0, fun k => match k with | 3 => a3 | 9 => a9 | 10 => a10 | 14 => a14 | 16 => a16 | 17 => a17 | 22 => a22 | 23 => a23 | 27 => a27 | 28 => a28 | 29 => a29 | 32 => a32 | _ => .empty, fun k => match k with | 5 => a5 | 7 => a7 | 12 => a12 | 15 => a15 | 19 => a19 | 20 => a20 | 21 => a21 | 24 => a24 | 31 => a31 | 33 => a33 | _ => false, w⟩, els, rfl, hs, he, hm⟩

end Go.Proofs.Ytlhppeikbgolbaa.RecD
