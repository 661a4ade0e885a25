/-
  The law's guard over a row of notes; a log that is filled with them.
-/
import Derived.Test.YtlhppeikbgolbaaRecS1
namespace Go.Proofs.Ytlhppeikbgolbaa.RecD
open Go Go.AM

@[simp] theorem NoteF.cell0 (f : NoteF) : f.cells[0]? = some (.int .u8 (f.i 0)) := (rfl)
@[simp] theorem NoteF.cellg0 (f : NoteF) (h : 0 < f.cells.length) : f.cells[0] = .int .u8 (f.i 0) := (rfl)
@[simp] theorem NoteF.cell1 (f : NoteF) : f.cells[1]? = some (.int .i64 (f.i 1)) := (rfl)
@[simp] theorem NoteF.cellg1 (f : NoteF) (h : 1 < f.cells.length) : f.cells[1] = .int .i64 (f.i 1) := (rfl)
@[simp] theorem NoteF.cell2 (f : NoteF) : f.cells[2]? = some (.int .i64 (f.i 2)) := (rfl)
@[simp] theorem NoteF.cellg2 (f : NoteF) (h : 2 < f.cells.length) : f.cells[2] = .int .i64 (f.i 2) := (rfl)
@[simp] theorem NoteF.cell3 (f : NoteF) : f.cells[3]? = some (.string (f.s 3)) := (rfl)
@[simp] theorem NoteF.cellg3 (f : NoteF) (h : 3 < f.cells.length) : f.cells[3] = .string (f.s 3) := (rfl)
@[simp] theorem NoteF.cell4 (f : NoteF) : f.cells[4]? = some (.int .u8 (f.i 4)) := (rfl)
@[simp] theorem NoteF.cellg4 (f : NoteF) (h : 4 < f.cells.length) : f.cells[4] = .int .u8 (f.i 4) := (rfl)
@[simp] theorem NoteF.cell5 (f : NoteF) : f.cells[5]? = some (.bool (f.b 5)) := (rfl)
@[simp] theorem NoteF.cellg5 (f : NoteF) (h : 5 < f.cells.length) : f.cells[5] = .bool (f.b 5) := (rfl)
@[simp] theorem NoteF.cell6 (f : NoteF) : f.cells[6]? = some (.int .u8 (f.i 6)) := (rfl)
@[simp] theorem NoteF.cellg6 (f : NoteF) (h : 6 < f.cells.length) : f.cells[6] = .int .u8 (f.i 6) := (rfl)
@[simp] theorem NoteF.cell7 (f : NoteF) : f.cells[7]? = some (.bool (f.b 7)) := (rfl)
@[simp] theorem NoteF.cellg7 (f : NoteF) (h : 7 < f.cells.length) : f.cells[7] = .bool (f.b 7) := (rfl)
@[simp] theorem NoteF.cell8 (f : NoteF) : f.cells[8]? = some (.int .u16 (f.i 8)) := (rfl)
@[simp] theorem NoteF.cellg8 (f : NoteF) (h : 8 < f.cells.length) : f.cells[8] = .int .u16 (f.i 8) := (rfl)
@[simp] theorem NoteF.cell9 (f : NoteF) : f.cells[9]? = some (.string (f.s 9)) := (rfl)
@[simp] theorem NoteF.cellg9 (f : NoteF) (h : 9 < f.cells.length) : f.cells[9] = .string (f.s 9) := (rfl)
@[simp] theorem NoteF.cell10 (f : NoteF) : f.cells[10]? = some (.string (f.s 10)) := (rfl)
@[simp] theorem NoteF.cellg10 (f : NoteF) (h : 10 < f.cells.length) : f.cells[10] = .string (f.s 10) := (rfl)
@[simp] theorem NoteF.cell11 (f : NoteF) : f.cells[11]? = some (.int .u8 (f.i 11)) := (rfl)
@[simp] theorem NoteF.cellg11 (f : NoteF) (h : 11 < f.cells.length) : f.cells[11] = .int .u8 (f.i 11) := (rfl)
@[simp] theorem NoteF.cell12 (f : NoteF) : f.cells[12]? = some (.bool (f.b 12)) := (rfl)
@[simp] theorem NoteF.cellg12 (f : NoteF) (h : 12 < f.cells.length) : f.cells[12] = .bool (f.b 12) := (rfl)
@[simp] theorem NoteF.cell13 (f : NoteF) : f.cells[13]? = some (.int .u16 (f.i 13)) := (rfl)
@[simp] theorem NoteF.cellg13 (f : NoteF) (h : 13 < f.cells.length) : f.cells[13] = .int .u16 (f.i 13) := (rfl)
@[simp] theorem NoteF.cell14 (f : NoteF) : f.cells[14]? = some (.string (f.s 14)) := (rfl)
@[simp] theorem NoteF.cellg14 (f : NoteF) (h : 14 < f.cells.length) : f.cells[14] = .string (f.s 14) := (rfl)
@[simp] theorem NoteF.cell15 (f : NoteF) : f.cells[15]? = some (.bool (f.b 15)) := (rfl)
@[simp] theorem NoteF.cellg15 (f : NoteF) (h : 15 < f.cells.length) : f.cells[15] = .bool (f.b 15) := (rfl)
@[simp] theorem NoteF.cell16 (f : NoteF) : f.cells[16]? = some (.string (f.s 16)) := (rfl)
@[simp] theorem NoteF.cellg16 (f : NoteF) (h : 16 < f.cells.length) : f.cells[16] = .string (f.s 16) := (rfl)
@[simp] theorem NoteF.cell17 (f : NoteF) : f.cells[17]? = some (.string (f.s 17)) := (rfl)
@[simp] theorem NoteF.cellg17 (f : NoteF) (h : 17 < f.cells.length) : f.cells[17] = .string (f.s 17) := (rfl)
@[simp] theorem NoteF.cell18 (f : NoteF) : f.cells[18]? = some (.int .u8 (f.i 18)) := (rfl)
@[simp] theorem NoteF.cellg18 (f : NoteF) (h : 18 < f.cells.length) : f.cells[18] = .int .u8 (f.i 18) := (rfl)
@[simp] theorem NoteF.cell19 (f : NoteF) : f.cells[19]? = some (.bool (f.b 19)) := (rfl)
@[simp] theorem NoteF.cellg19 (f : NoteF) (h : 19 < f.cells.length) : f.cells[19] = .bool (f.b 19) := (rfl)
@[simp] theorem NoteF.cell20 (f : NoteF) : f.cells[20]? = some (.bool (f.b 20)) := (rfl)
@[simp] theorem NoteF.cellg20 (f : NoteF) (h : 20 < f.cells.length) : f.cells[20] = .bool (f.b 20) := (rfl)
@[simp] theorem NoteF.cell21 (f : NoteF) : f.cells[21]? = some (.bool (f.b 21)) := (rfl)
@[simp] theorem NoteF.cellg21 (f : NoteF) (h : 21 < f.cells.length) : f.cells[21] = .bool (f.b 21) := (rfl)
@[simp] theorem NoteF.cell22 (f : NoteF) : f.cells[22]? = some (.string (f.s 22)) := (rfl)
@[simp] theorem NoteF.cellg22 (f : NoteF) (h : 22 < f.cells.length) : f.cells[22] = .string (f.s 22) := (rfl)
@[simp] theorem NoteF.cell23 (f : NoteF) : f.cells[23]? = some (.string (f.s 23)) := (rfl)
@[simp] theorem NoteF.cellg23 (f : NoteF) (h : 23 < f.cells.length) : f.cells[23] = .string (f.s 23) := (rfl)
@[simp] theorem NoteF.cell24 (f : NoteF) : f.cells[24]? = some (.bool (f.b 24)) := (rfl)
@[simp] theorem NoteF.cellg24 (f : NoteF) (h : 24 < f.cells.length) : f.cells[24] = .bool (f.b 24) := (rfl)
@[simp] theorem NoteF.cell25 (f : NoteF) : f.cells[25]? = some (.int .u8 (f.i 25)) := (rfl)
@[simp] theorem NoteF.cellg25 (f : NoteF) (h : 25 < f.cells.length) : f.cells[25] = .int .u8 (f.i 25) := (rfl)
@[simp] theorem NoteF.cell26 (f : NoteF) : f.cells[26]? = some (f.w) := (rfl)
@[simp] theorem NoteF.cellg26 (f : NoteF) (h : 26 < f.cells.length) : f.cells[26] = f.w := (rfl)
@[simp] theorem NoteF.cell27 (f : NoteF) : f.cells[27]? = some (.string (f.s 27)) := (rfl)
@[simp] theorem NoteF.cellg27 (f : NoteF) (h : 27 < f.cells.length) : f.cells[27] = .string (f.s 27) := (rfl)
@[simp] theorem NoteF.cell28 (f : NoteF) : f.cells[28]? = some (.string (f.s 28)) := (rfl)
@[simp] theorem NoteF.cellg28 (f : NoteF) (h : 28 < f.cells.length) : f.cells[28] = .string (f.s 28) := (rfl)
@[simp] theorem NoteF.cell29 (f : NoteF) : f.cells[29]? = some (.string (f.s 29)) := (rfl)
@[simp] theorem NoteF.cellg29 (f : NoteF) (h : 29 < f.cells.length) : f.cells[29] = .string (f.s 29) := (rfl)
@[simp] theorem NoteF.cell30 (f : NoteF) : f.cells[30]? = some (.int .u8 (f.i 30)) := (rfl)
@[simp] theorem NoteF.cellg30 (f : NoteF) (h : 30 < f.cells.length) : f.cells[30] = .int .u8 (f.i 30) := (rfl)
@[simp] theorem NoteF.cell31 (f : NoteF) : f.cells[31]? = some (.bool (f.b 31)) := (rfl)
@[simp] theorem NoteF.cellg31 (f : NoteF) (h : 31 < f.cells.length) : f.cells[31] = .bool (f.b 31) := (rfl)
@[simp] theorem NoteF.cell32 (f : NoteF) : f.cells[32]? = some (.string (f.s 32)) := (rfl)
@[simp] theorem NoteF.cellg32 (f : NoteF) (h : 32 < f.cells.length) : f.cells[32] = .string (f.s 32) := (rfl)
@[simp] theorem NoteF.cell33 (f : NoteF) : f.cells[33]? = some (.bool (f.b 33)) := (rfl)
@[simp] theorem NoteF.cellg33 (f : NoteF) (h : 33 < f.cells.length) : f.cells[33] = .bool (f.b 33) := (rfl)
@[simp] theorem NoteF.cell34 (f : NoteF) : f.cells[34]? = some (.int .u8 (f.i 34)) := (rfl)
@[simp] theorem NoteF.cellg34 (f : NoteF) (h : 34 < f.cells.length) : f.cells[34] = .int .u8 (f.i 34) := (rfl)

/-- A note's packet. -/
def NoteF.packet (f : NoteF) : List Value := [.int .u8 (f.i 4), .bool (f.b 5), .int .u8 (f.i 6), .bool (f.b 7), .int .u16 (f.i 8), .string (f.s 9), .string (f.s 10), .int .u8 (f.i 11), .bool (f.b 12), .int .u16 (f.i 13), .string (f.s 14), .bool (f.b 15), .string (f.s 16), .string (f.s 17), .int .u8 (f.i 18), .bool (f.b 19), .bool (f.b 20), .bool (f.b 21), .string (f.s 22), .string (f.s 23), .bool (f.b 24), .int .u8 (f.i 25), f.w, .string (f.s 27)]
theorem NoteF.packet_eq (f : NoteF) : (f.cells.drop 4).take 24 = f.packet := rfl
@[simp] theorem NoteF.packet_length (f : NoteF) : f.packet.length = 24 := (rfl)
@[simp] theorem NoteF.cells_length (f : NoteF) : f.cells.length = 35 := (rfl)
@[simp] theorem NoteF.pcell0 (f : NoteF) : f.packet[0]? = some (.int .u8 (f.i 4)) := (rfl)
@[simp] theorem NoteF.pcellg0 (f : NoteF) (h : 0 < f.packet.length) : f.packet[0] = .int .u8 (f.i 4) := (rfl)
@[simp] theorem NoteF.pcell1 (f : NoteF) : f.packet[1]? = some (.bool (f.b 5)) := (rfl)
@[simp] theorem NoteF.pcellg1 (f : NoteF) (h : 1 < f.packet.length) : f.packet[1] = .bool (f.b 5) := (rfl)
@[simp] theorem NoteF.pcell2 (f : NoteF) : f.packet[2]? = some (.int .u8 (f.i 6)) := (rfl)
@[simp] theorem NoteF.pcellg2 (f : NoteF) (h : 2 < f.packet.length) : f.packet[2] = .int .u8 (f.i 6) := (rfl)
@[simp] theorem NoteF.pcell3 (f : NoteF) : f.packet[3]? = some (.bool (f.b 7)) := (rfl)
@[simp] theorem NoteF.pcellg3 (f : NoteF) (h : 3 < f.packet.length) : f.packet[3] = .bool (f.b 7) := (rfl)
@[simp] theorem NoteF.pcell4 (f : NoteF) : f.packet[4]? = some (.int .u16 (f.i 8)) := (rfl)
@[simp] theorem NoteF.pcellg4 (f : NoteF) (h : 4 < f.packet.length) : f.packet[4] = .int .u16 (f.i 8) := (rfl)
@[simp] theorem NoteF.pcell5 (f : NoteF) : f.packet[5]? = some (.string (f.s 9)) := (rfl)
@[simp] theorem NoteF.pcellg5 (f : NoteF) (h : 5 < f.packet.length) : f.packet[5] = .string (f.s 9) := (rfl)
@[simp] theorem NoteF.pcell6 (f : NoteF) : f.packet[6]? = some (.string (f.s 10)) := (rfl)
@[simp] theorem NoteF.pcellg6 (f : NoteF) (h : 6 < f.packet.length) : f.packet[6] = .string (f.s 10) := (rfl)
@[simp] theorem NoteF.pcell7 (f : NoteF) : f.packet[7]? = some (.int .u8 (f.i 11)) := (rfl)
@[simp] theorem NoteF.pcellg7 (f : NoteF) (h : 7 < f.packet.length) : f.packet[7] = .int .u8 (f.i 11) := (rfl)
@[simp] theorem NoteF.pcell8 (f : NoteF) : f.packet[8]? = some (.bool (f.b 12)) := (rfl)
@[simp] theorem NoteF.pcellg8 (f : NoteF) (h : 8 < f.packet.length) : f.packet[8] = .bool (f.b 12) := (rfl)
@[simp] theorem NoteF.pcell9 (f : NoteF) : f.packet[9]? = some (.int .u16 (f.i 13)) := (rfl)
@[simp] theorem NoteF.pcellg9 (f : NoteF) (h : 9 < f.packet.length) : f.packet[9] = .int .u16 (f.i 13) := (rfl)
@[simp] theorem NoteF.pcell10 (f : NoteF) : f.packet[10]? = some (.string (f.s 14)) := (rfl)
@[simp] theorem NoteF.pcellg10 (f : NoteF) (h : 10 < f.packet.length) : f.packet[10] = .string (f.s 14) := (rfl)
@[simp] theorem NoteF.pcell11 (f : NoteF) : f.packet[11]? = some (.bool (f.b 15)) := (rfl)
@[simp] theorem NoteF.pcellg11 (f : NoteF) (h : 11 < f.packet.length) : f.packet[11] = .bool (f.b 15) := (rfl)
@[simp] theorem NoteF.pcell12 (f : NoteF) : f.packet[12]? = some (.string (f.s 16)) := (rfl)
@[simp] theorem NoteF.pcellg12 (f : NoteF) (h : 12 < f.packet.length) : f.packet[12] = .string (f.s 16) := (rfl)
@[simp] theorem NoteF.pcell13 (f : NoteF) : f.packet[13]? = some (.string (f.s 17)) := (rfl)
@[simp] theorem NoteF.pcellg13 (f : NoteF) (h : 13 < f.packet.length) : f.packet[13] = .string (f.s 17) := (rfl)
@[simp] theorem NoteF.pcell14 (f : NoteF) : f.packet[14]? = some (.int .u8 (f.i 18)) := (rfl)
@[simp] theorem NoteF.pcellg14 (f : NoteF) (h : 14 < f.packet.length) : f.packet[14] = .int .u8 (f.i 18) := (rfl)
@[simp] theorem NoteF.pcell15 (f : NoteF) : f.packet[15]? = some (.bool (f.b 19)) := (rfl)
@[simp] theorem NoteF.pcellg15 (f : NoteF) (h : 15 < f.packet.length) : f.packet[15] = .bool (f.b 19) := (rfl)
@[simp] theorem NoteF.pcell16 (f : NoteF) : f.packet[16]? = some (.bool (f.b 20)) := (rfl)
@[simp] theorem NoteF.pcellg16 (f : NoteF) (h : 16 < f.packet.length) : f.packet[16] = .bool (f.b 20) := (rfl)
@[simp] theorem NoteF.pcell17 (f : NoteF) : f.packet[17]? = some (.bool (f.b 21)) := (rfl)
@[simp] theorem NoteF.pcellg17 (f : NoteF) (h : 17 < f.packet.length) : f.packet[17] = .bool (f.b 21) := (rfl)
@[simp] theorem NoteF.pcell18 (f : NoteF) : f.packet[18]? = some (.string (f.s 22)) := (rfl)
@[simp] theorem NoteF.pcellg18 (f : NoteF) (h : 18 < f.packet.length) : f.packet[18] = .string (f.s 22) := (rfl)
@[simp] theorem NoteF.pcell19 (f : NoteF) : f.packet[19]? = some (.string (f.s 23)) := (rfl)
@[simp] theorem NoteF.pcellg19 (f : NoteF) (h : 19 < f.packet.length) : f.packet[19] = .string (f.s 23) := (rfl)
@[simp] theorem NoteF.pcell20 (f : NoteF) : f.packet[20]? = some (.bool (f.b 24)) := (rfl)
@[simp] theorem NoteF.pcellg20 (f : NoteF) (h : 20 < f.packet.length) : f.packet[20] = .bool (f.b 24) := (rfl)
@[simp] theorem NoteF.pcell21 (f : NoteF) : f.packet[21]? = some (.int .u8 (f.i 25)) := (rfl)
@[simp] theorem NoteF.pcellg21 (f : NoteF) (h : 21 < f.packet.length) : f.packet[21] = .int .u8 (f.i 25) := (rfl)
@[simp] theorem NoteF.pcell22 (f : NoteF) : f.packet[22]? = some (f.w) := (rfl)
@[simp] theorem NoteF.pcellg22 (f : NoteF) (h : 22 < f.packet.length) : f.packet[22] = f.w := (rfl)
@[simp] theorem NoteF.pcell23 (f : NoteF) : f.packet[23]? = some (.string (f.s 27)) := (rfl)
@[simp] theorem NoteF.pcellg23 (f : NoteF) (h : 23 < f.packet.length) : f.packet[23] = .string (f.s 27) := (rfl)

/-- Subs have a filter and a Qos. -/
def SubsT (els : List (List Value)) : Prop := ∀ x ∈ els, ∃ (s : ByteArray) (q : Int), x = [.string s, .int .u8 q]

/-- A row of notes that may only be read. -/
structure RowR (h : H) (v : Value) (fs : List (NoteF × List (List Value))) : Prop where
  row : SliceE 35 h v (fs.map fun d => d.1.cells)
  subs : ∀ d ∈ fs, SliceE 2 h d.1.w d.2 ∧ SubsT d.2

theorem RowR.ext {h h' : H} {v : Value} {fs : List (NoteF × List (List Value))} (r : RowR h v fs) (x : Ext h h') : RowR h' v fs :=
  ⟨r.row.ext x, fun d hd => ⟨(r.subs d hd).1.ext x, (r.subs d hd).2⟩⟩

theorem RowR.len {h : H} {v : Value} {fs : List (NoteF × List (List Value))} (r : RowR h v fs) : A.lenS v = some (.int .i64 fs.length) := by
  have := r.row.len.1
  simpa using this

theorem sub_open {h : H} {x : List Value} (ty : Ty Try.prog h 57 x) : ∃ (s : ByteArray) (q : Int), x = [.string s, .int .u8 q] := by
  have fl := ty.fields Try.underlying57
  simp only [TyFs] at fl
  obtain ⟨_, _, rfl, u0, _, _, rfl, u1, rfl⟩ := fl
  obtain ⟨a0, rfl, _⟩ := u0.str_inv Try.underlying9
  obtain ⟨a1, rfl, _⟩ := u1.int_inv Try.underlying5
  exact ⟨a0, a1, rfl⟩

theorem row_open {h : H} {v : Value} (ty : TyV Try.prog h 22 v) : ∃ fs, RowR h v fs ∧ fs.length ≤ maxLen := by
  cases ty with
  | agg hu _ => rw [Try.underlying22] at hu; simp at hu
  | one hu ty =>
    obtain ⟨v', els, hv, hs, hm, he⟩ := ty.slice_inv Try.underlying22
    simp only [List.cons.injEq, and_true] at hv
    subst hv
    have hc : Try.prog.cellsOf 36 = 35 := by kernel_rfl
    rw [hc] at hs
    have key : ∀ els : List (List Value), (∀ x ∈ els, Ty Try.prog h 36 x) → ∃ fs : List (NoteF × List (List Value)), els = fs.map (fun d => d.1.cells) ∧ ∀ d ∈ fs, SliceE 2 h d.1.w d.2 ∧ SubsT d.2 := by
      intro els
      induction els with
      | nil => intro _; exact ⟨[], rfl, by simp⟩
      | cons x els ih =>
        intro hx
        obtain ⟨fs, h1, h2⟩ := ih fun y hy => hx y (by simp [hy])
        obtain ⟨f, sub, h3, h4, h5, _⟩ := note_open (hx x (by simp))
        refine ⟨(f, sub) :: fs, by simp [h1, h3], fun d hd => ?_⟩
        rcases List.mem_cons.1 hd with rfl | hd
        · exact ⟨h4, fun y hy => sub_open (h5 y hy)⟩
        · exact h2 d hd
    obtain ⟨fs, h1, h2⟩ := key els he
    subst h1
    exact ⟨fs, ⟨hs, h2⟩, by simpa using hm⟩

/-- Texts that are too long. -/
theorem LT {C : CF} {L : Nat} {β : Type} {kr : Value → H → Option β} {kx : Value → Value → Value → H → Option β} {h : H} {v x4 x3 x0 : Value} {ss : List ByteArray} (s : SliceE 1 h v (ss.map fun b => [.string b])) (hb : ss.length < 100) :
    ∀ (n i : Nat), i ≤ ss.length → ss.length - i < n →
    p9arlrborlbrrlrbw C L kr kx n (.int .i64 i) v x4 x3 x0 h = kr (.bool true) h ∨ p9arlrborlbrrlrbw C L kr kx n (.int .i64 i) v x4 x3 x0 h = kx x4 x3 x0 h := by
  intro n
  induction n with
  | zero => intro i _ h1; omega
  | succ n ih =>
    intro i hi hn
    have hlen := s.len.1
    simp only [List.length_map] at hlen
    by_cases hlt : i < ss.length
    · obtain ⟨id, off, cells, own, h1, h2, h3, h4, _, h6⟩ := s.at (i := i) (e := [.string ss[i]]) (by simp [hlt]) .i64
      have h6' := h6 0 (by omega)
      simp only [Nat.add_zero, List.getElem?_cons_zero] at h6'
      have hc : ((i : Int) < (ss.length : Int)) := by omega
      have hw := wrap_succ (n := i) (by omega)
      by_cases hl : (300 : Int) < (ss[i].size : Int)
      · left
        simp [p9arlrborlbrrlrbw, p9arlrborlbrrlrbo, hlen, hc, h1, h3, h6', hl]
      · have hstep : p9arlrborlbrrlrbw C L kr kx (n + 1) (.int .i64 i) v x4 x3 x0 h = p9arlrborlbrrlrbw C L kr kx n (.int .i64 ((i + 1 : Nat) : Int)) v x4 x3 x0 h := by
          conv => lhs; simp only [p9arlrborlbrrlrbw, p9arlrborlbrrlrbo]
          rw [← hw]
          simp [hlen, hc, h1, h3, h6', hl]
        rw [hstep]
        exact ih (i + 1) (by omega) (by omega)
    · right
      have hc : ¬ ((i : Int) < (ss.length : Int)) := by omega
      simp [p9arlrborlbrrlrbw, p9arlrborlbrrlrbo, hlen, hc]

/-- Subs that are too many, or with too long a filter. -/
theorem LS {C : CF} {L : Nat} {β : Type} {kr : Value → H → Option β} {kx : Value → Value → H → Option β} {h : H} {x3 x0 : Value} {t : Nat} {f : NoteF} {els : List (List Value)} {own : Option Nat}
    (ht : h.get t = some (.cells f.packet own)) (s : SliceE 2 h f.w els) (hT : SubsT els) :
    ∀ (n i : Nat), i ≤ els.length → i ≤ 20 → 20 - i < n →
    p9arlrborlbrrrrbw C L kr kx n (.int .i64 i) (.pointer (some ⟨t, 0, none⟩)) x3 x0 h = kr (.bool true) h ∨ (p9arlrborlbrrrrbw C L kr kx n (.int .i64 i) (.pointer (some ⟨t, 0, none⟩)) x3 x0 h = kx x3 x0 h ∧ els.length ≤ 20) := by
  intro n
  induction n with
  | zero => intro i _ _ h1; omega
  | succ n ih =>
    intro i hi h20 hn
    have hlen := s.len.1
    by_cases hlt : i < els.length
    · obtain ⟨b, q, hb⟩ := hT els[i] (List.getElem_mem _)
      obtain ⟨id, off, cells, own', h1, h2, h3, h4, _, h6⟩ := s.at (i := i) (e := [.string b, .int .u8 q]) (by rw [List.getElem?_eq_getElem hlt, hb]) .i64
      have h6' := h6 0 (by omega)
      simp only [Nat.add_zero, List.getElem?_cons_zero] at h6'
      have hc : ((i : Int) < (els.length : Int)) := by omega
      have hw := wrap_succ (n := i) (by omega)
      by_cases hl : (300 : Int) < (b.size : Int)
      · left
        simp [p9arlrborlbrrrrbw, p9arlrborlbrrrrbo, p9arlrborlbrrrrbol, p9arlrborlbrrrrbor, p9arlrborlbrrrrborl, p9arlrborlbrrrrborlb, p9arlrborlbrrrrborr, ht, hlen, hc, h1, h3, h6', hl]
      · by_cases hi20 : (20 : Int) ≤ (i : Int)
        · left
          simp [p9arlrborlbrrrrbw, p9arlrborlbrrrrbo, p9arlrborlbrrrrbol, p9arlrborlbrrrrbor, p9arlrborlbrrrrborl, p9arlrborlbrrrrborlb, p9arlrborlbrrrrborr, ht, hlen, hc, h1, h3, h6', hl, hi20]
        · have hstep : p9arlrborlbrrrrbw C L kr kx (n + 1) (.int .i64 i) (.pointer (some ⟨t, 0, none⟩)) x3 x0 h = p9arlrborlbrrrrbw C L kr kx n (.int .i64 ((i + 1 : Nat) : Int)) (.pointer (some ⟨t, 0, none⟩)) x3 x0 h := by
            conv => lhs; simp only [p9arlrborlbrrrrbw, p9arlrborlbrrrrbo, p9arlrborlbrrrrbol, p9arlrborlbrrrrbor, p9arlrborlbrrrrborl, p9arlrborlbrrrrborlb, p9arlrborlbrrrrborr]
            rw [← hw]
            simp [ht, hlen, hc, h1, h3, h6', hl, hi20]
          rw [hstep]
          exact ih (i + 1) (by omega) (by omega) (by omega)
    · right
      have hc : ¬ ((i : Int) < (els.length : Int)) := by omega
      refine ⟨?_, by omega⟩
      simp [p9arlrborlbrrrrbw, p9arlrborlbrrrrbo, p9arlrborlbrrrrbol, ht, hlen, hc]

theorem sub_at {cells e : List Value} {off n a m : Nat} (h : (cells.drop off).take n = e) (ham : a + m ≤ n) : (cells.drop (off + a)).take m = (e.drop a).take m := by
  subst h
  rw [List.drop_take, List.drop_drop, List.take_take, Nat.min_eq_left (by omega)]

theorem bs12 (h : H) (a0 a1 a2 a3 a4 a5 a6 a7 a8 a9 a10 a11 : ByteArray) :
    A.buildSlice 1 12 Z9L [(0, 1, .string a0), (1, 1, .string a1), (2, 1, .string a2), (3, 1, .string a3), (4, 1, .string a4), (5, 1, .string a5), (6, 1, .string a6), (7, 1, .string a7), (8, 1, .string a8), (9, 1, .string a9), (10, 1, .string a10), (11, 1, .string a11)] h =
      some (.slice (some ⟨h.next, 0, none⟩) 12 25, h.push (.cells ([a0, a1, a2, a3, a4, a5, a6, a7, a8, a9, a10, a11].map .string) (some 1))) := by kernel_rfl

theorem tx_slice (h : H) (l : List ByteArray) (hl : l.length = 12) : SliceE 1 (h.push (.cells (l.map .string) (some 1))) (.slice (some ⟨h.next, 0, none⟩) 12 25) (l.map fun b => [.string b]) := by
  have : ∀ l : List ByteArray, (l.map fun b => [Value.string b]).flatten = l.map .string := by
    intro l; induction l with
    | nil => rfl
    | cons a l ih => simp only [List.map_cons, List.flatten_cons, ih]; rfl
  refine ⟨by simp, .inr ⟨h.next, 0, 25, by simp [hl], by simp [hl], by simp, fun _ => ⟨l.map .string, some 1, by simp [H.get_push], by simp, ?_⟩⟩⟩
  rw [this, List.drop_zero, List.take_of_length_le (by simp)]

theorem splice_packet (f : NoteF) : splice Z34L 0 f.packet = f.packet := by kernel_rfl

theorem Q0 {C : CF} {L : Nat} {β : Type} {kn : Value → Value → H → Option β} {kx0 : Value → H → Option β} {v : Value} {i l : Nat} {h : H} (hlen : A.lenS v = some (.int .i64 l)) (hi : i < l) :
    p9arlrbol C L (.int .i64 i) v h kn kx0 = kn (.int .i64 i) v h := by
  have hc : ((i : Int) < (l : Int)) := by omega
  simp [p9arlrbol, hlen, hc]

theorem Q1 {C : CF} {L : Nat} {β : Type} {kn : Value → Value → Value → H → Option β} {h : H} {v : Value} {i id off : Nat} {cells : List Value} {own : Option Nat} {f : NoteF}
    (g1 : A.idxS 35 v (.int .i64 i) = some (.pointer (some ⟨id, off, none⟩))) (g3 : h.get id = some (.cells cells own)) (hn4 : off + 4 + 24 ≤ cells.length) (gp : (cells.drop (off + 4)).take 24 = f.packet) :
    p9arlrborlbl C L (.int .i64 i) v h kn = kn (.pointer (some ⟨h.next, 0, none⟩)) (.int .i64 i) v ((h.push (.cells Z34L (some 0))).put h.next (.cells f.packet (some 0))) := by
  have hz : cellsL Z34 = some Z34L := rfl
  have hz2 : Z34L.length = 24 := rfl
  have hsp := splice_packet f
  simp [p9arlrborlbl, g1, g3, hn4, gp, hz, hz2, H.get_push, hsp]

theorem Q2 {C : CF} {L : Nat} {β : Type} {kn : Value → Value → Value → Value → H → Option β} {h : H} {v : Value} {i id off t : Nat} {cells : List Value} {own : Option Nat} {f : NoteF}
    (g1 : A.idxS 35 v (.int .i64 i) = some (.pointer (some ⟨id, off, none⟩))) (g3 : h.get id = some (.cells cells own)) (g6 : ∀ j, j < 35 → cells[off + j]? = f.cells[j]?)
    (ht : h.get t = some (.cells f.packet (some 0))) :
    p9arlrborlbrl C L (.pointer (some ⟨t, 0, none⟩)) (.int .i64 i) v h kn =
      kn (.slice (some ⟨h.next, 0, none⟩) 12 25) (.pointer (some ⟨t, 0, none⟩)) (.int .i64 i) v (h.push (.cells ([f.s 3, f.s 32, f.s 28, f.s 29, f.s 9, f.s 10, f.s 14, f.s 16, f.s 17, f.s 22, f.s 23, f.s 27].map .string) (some 1))) := by
  have a3 := g6 3 (by omega)
  have a32 := g6 32 (by omega)
  have a28 := g6 28 (by omega)
  have a29 := g6 29 (by omega)
  simp only [NoteF.cell3, NoteF.cell32, NoteF.cell28, NoteF.cell29] at a3 a32 a28 a29
  simp only [p9arlrborlbrl, g1, bnd_some, bnd2_some, fieldAddr_eq, load1_eq, g3, ht, Nat.add_assoc, Nat.add_zero, Nat.zero_add, Nat.reduceAdd, a3, a32, a28, a29,
    NoteF.pcell5, NoteF.pcell6, NoteF.pcell10, NoteF.pcell12, NoteF.pcell13, NoteF.pcell18, NoteF.pcell19, NoteF.pcell23, bs12]

theorem L9 {C : CF} {L : Nat} (hL : 30 ≤ L) {β : Type} {kr : Value → H → Option β} {kx0 : Value → H → Option β} {h1 : H} {v : Value} {fs : List (NoteF × List (List Value))} (r : RowR h1 v fs) (hm : fs.length ≤ maxLen) :
    ∀ (n i : Nat) (h : H), i ≤ fs.length → fs.length - i < n → Ext h1 h →
    (∃ h', p9arlrbw C L kr kx0 n (.int .i64 i) v h = kr (.bool true) h' ∧ Ext h1 h') ∨ (∃ h', p9arlrbw C L kr kx0 n (.int .i64 i) v h = kx0 v h' ∧ Ext h1 h' ∧ ∀ d ∈ fs.drop i, d.2.length ≤ 20) := by
  intro n
  induction n with
  | zero => intro i h _ h1; omega
  | succ n ih =>
    intro i h hi hn hx
    have hlen := r.len
    have hml : maxLen = 9223372036854775807 := rfl
    by_cases hlt : i < fs.length
    · have r' := r.ext hx
      obtain ⟨id, off, cells, own, g1, g2, g3, g4, g5, g6⟩ := r'.row.at (i := i) (e := fs[i].1.cells) (by simp [hlt]) .i64
      obtain ⟨ss, sT⟩ := r'.subs fs[i] (List.getElem_mem _)
      have gp : (cells.drop (off + 4)).take 24 = fs[i].1.packet := sub_at g5 (by omega)
      have hc : ((i : Int) < (fs.length : Int)) := by omega
      have hw := wrap_succ (n := i) (by omega)
      have hn4 : off + 4 + 24 ≤ cells.length := by omega
      -- the packet's copy
      obtain ⟨h2, hh2⟩ : ∃ h2, h2 = (h.push (.cells Z34L (some 0))).put h.next (.cells fs[i].1.packet (some 0)) := ⟨_, rfl⟩
      have hx2 : Ext h h2 := by rw [hh2]; exact (Ext.push h _).put _ _ (Nat.le_refl _)
      have e2 : h2.get h.next = some (.cells fs[i].1.packet (some 0)) := by simp [hh2, H.get_put]
      have e2i : h2.get id = some (.cells cells own) := by rw [hx2.get _ g2]; exact g3
      -- the texts
      obtain ⟨tx, htx⟩ : ∃ tx : List ByteArray, tx = [fs[i].1.s 3, fs[i].1.s 32, fs[i].1.s 28, fs[i].1.s 29, fs[i].1.s 9, fs[i].1.s 10, fs[i].1.s 14, fs[i].1.s 16, fs[i].1.s 17, fs[i].1.s 22, fs[i].1.s 23, fs[i].1.s 27] := ⟨_, rfl⟩
      obtain ⟨h3, hh3⟩ : ∃ h3, h3 = h2.push (.cells (tx.map .string) (some 1)) := ⟨_, rfl⟩
      have hx3 : Ext h h3 := by rw [hh3]; exact hx2.pushed _
      have htl : tx.length = 12 := by rw [htx]; rfl
      have e3 : h3.get h.next = some (.cells fs[i].1.packet (some 0)) := by
        have : h.next < h2.next := by simp [hh2]
        rw [hh3, (Ext.push h2 _).get _ this]; exact e2
      have hz : cellsL Z34 = some Z34L := rfl
      have hz2 : Z34L.length = 24 := rfl
      have hbs := bs12 h2 (fs[i].1.s 3) (fs[i].1.s 32) (fs[i].1.s 28) (fs[i].1.s 29) (fs[i].1.s 9) (fs[i].1.s 10) (fs[i].1.s 14) (fs[i].1.s 16) (fs[i].1.s 17) (fs[i].1.s 22) (fs[i].1.s 23) (fs[i].1.s 27)
      rw [← htx, ← hh3] at hbs
      have hst := tx_slice h2 tx htl
      rw [← hh3] at hst
      have hsp := splice_packet fs[i].1
      have q1 := Q1 (C := C) (L := L) (kn := fun x4 x3 x0 h => p9arlrborlbr C L x4 x3 x0 h kr (fun x3 x0 h => p9arlrborr C L x3 x0 h (fun x3 x0 h => p9arlrbw C L kr kx0 n x3 x0 h))) g1 g3 hn4 gp
      rw [← hh2] at q1
      have q2 := Q2 (C := C) (L := L) (kn := fun x5 x4 x3 x0 h => p9arlrborlbrr C L x5 x4 x3 x0 h kr (fun x3 x0 h => p9arlrborr C L x3 x0 h (fun x3 x0 h => p9arlrbw C L kr kx0 n x3 x0 h))) g1 e2i g6 e2
      rw [← htx, ← hh3] at q2
      have hunf : p9arlrbw C L kr kx0 (n + 1) (.int .i64 i) v h =
          p9arlrborlbrr C L (.slice (some ⟨h2.next, 0, none⟩) 12 25) (.pointer (some ⟨h.next, 0, none⟩)) (.int .i64 i) v h3 kr (fun x3 x0 h => p9arlrborr C L x3 x0 h (fun x3 x0 h => p9arlrbw C L kr kx0 n x3 x0 h)) := by
        rw [← q2]
        unfold p9arlrborlbr at q1
        rw [← q1, p9arlrbw, p9arlrbo, Q0 hlen hlt]
        rfl
      rw [hunf]
      simp only [p9arlrborlbrr, p9arlrborlbrrl, p9arlrborlbrrll, p9arlrborlbrrlr, p9arlrborlbrrlrb]
      rcases LT (C := C) (L := L) (kr := kr) (kx := fun x4 x3 x0 h => p9arlrborlbrrr C L x4 x3 x0 h kr (fun x3 x0 h => p9arlrborr C L x3 x0 h (fun x3 x0 h => p9arlrbw C L kr kx0 n x3 x0 h))) (x4 := .pointer (some ⟨h.next, 0, none⟩)) (x3 := .int .i64 i) (x0 := v) hst (by omega) L 0 (by omega) (by omega) with e | e
      · left; exact ⟨h3, e, hx.trans hx3⟩
      · change _ = _ at e
        rw [show ((0 : Nat) : Int) = 0 from rfl] at e
        rw [e]
        simp only [p9arlrborlbrrr, p9arlrborlbrrrl, p9arlrborlbrrrr, p9arlrborlbrrrrb]
        rcases LS (C := C) (L := L) (kr := kr) (kx := fun x3 x0 h => p9arlrborr C L x3 x0 h (fun x3 x0 h => p9arlrbw C L kr kx0 n x3 x0 h)) (x3 := .int .i64 i) (x0 := v) e3 (ss.ext hx3) sT L 0 (by omega) (by omega) (by omega) with e | ⟨e, h20⟩
        · left; exact ⟨h3, e, hx.trans hx3⟩
        · rw [show ((0 : Nat) : Int) = 0 from rfl] at e
          rw [e]
          simp only [p9arlrborr, bin_add, bnd_some, bnd2_some, hw]
          rcases ih (i + 1) h3 (by omega) (by omega) (hx.trans hx3) with ⟨h', e', hx'⟩ | ⟨h', e', hx', hd⟩
          · left; exact ⟨h', e', hx'⟩
          · right
            refine ⟨h', e', hx', fun d hd' => ?_⟩
            rw [List.drop_eq_getElem_cons hlt] at hd'
            rcases List.mem_cons.1 hd' with rfl | hd'
            · exact h20
            · exact hd d hd'
    · right
      have hc : ¬ ((i : Int) < (fs.length : Int)) := by omega
      refine ⟨h, ?_, hx, ?_⟩
      · simp [p9arlrbw, p9arlrbo, p9arlrbol, hlen, hc]
      · rw [List.drop_eq_nil_of_le (by omega)]; simp

/-- The guard. -/
theorem S9 (n : Nat) {h : H} {v : Value} {fs : List (NoteF × List (List Value))} (r : RowR h v fs) (hm : fs.length ≤ maxLen) (hn : fs.length + 30 ≤ n) :
    ∃ b h', callB Try.prog 0 O1 (n + 1) 9 [v] h = some (.bool b, h') ∧ Ext h h' ∧ (b = false → fs.length ≤ 60 ∧ ∀ d ∈ fs, d.2.length ≤ 20) := by
  rw [F9eq O1 rfl]
  simp only [F9, p9a, p9al, p9ar, p9arl, p9arll, p9arlr, p9arlrb]
  have hlen := r.len
  rcases L9 (C := callB Try.prog 0 O1 n) (L := n) (by omega) (kr := fun x2 h => some (x2, h)) (kx0 := fun x0 h => p9arr (callB Try.prog 0 O1 n) n x0 h fun x2 h => some (x2, h)) r hm n 0 h (by omega) (by omega) (Ext.refl h) with ⟨h', e, hx⟩ | ⟨h', e, hx, hd⟩
  · exact ⟨true, h', e, hx, by simp⟩
  · rw [show ((0 : Nat) : Int) = 0 from rfl] at e
    refine ⟨decide (60 < fs.length), h', ?_, hx, fun hb => ⟨by simpa using hb, by simpa using hd⟩⟩
    rw [e]
    simp only [p9arr, hlen, bnd_some, bnd2_some, bin_gtr, toBK_bool]
    congr 3
    simp; omega
end Go.Proofs.Ytlhppeikbgolbaa.RecD
