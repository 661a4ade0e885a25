/-
  relayhouselaw22.awake: the closed call is run in pieces by an abstract machine (proved to simulate the model), in the kernel. Printed by a program of mine (wip/tools/Seg.lean).
-/
import Derived.Test.YtoohgaejekfmdaaGreatDoorProg
import Derived.Test.YtoohgaejekfmdaaGreatDoorAmSeg
set_option maxRecDepth 1000000
namespace Go.Proofs.YtoohgaejekfmdaaGreatDoor.wla
open Go Go.AM

noncomputable def fs : List Nat := [4, 6, 7, 8, 9, 10, 11, 12, 13, 14, 15, 16, 17, 18, 19, 20, 21, 22, 23, 24, 25, 26, 27, 28, 29, 30, 31, 32, 33, 34, 35, 36, 38, 41, 42, 43, 44, 46, 47, 49, 50, 51, 52, 53, 54, 55, 56, 57, 58, 59, 60, 70, 71, 72, 73, 74, 75, 76, 77, 78, 79, 87, 88, 90, 99, 100, 101, 102, 103, 104, 107, 108, 109, 110, 113, 114, 116, 117, 119, 123, 127, 135, 137, 138, 144, 154, 155, 156, 157, 158, 160, 161, 162, 167, 168, 169, 170, 171, 172, 173, 191, 195, 201, 202, 206, 209, 210, 211, 212, 213, 214, 233]
theorem dr : F.drsAll Tryz.prog fs = true := by kernel_rfl
theorem zeros : zerosPlain Tryz.prog = true := by kernel_rfl
theorem mixed : Tryz.prog.follows .mixedOrders = true := by kernel_rfl
theorem names : namesOK Tryz.prog = true := by kernel_rfl

noncomputable def f0 : List (Nat × Value) := []
noncomputable def h0 : List (Nat × Blk) := []
noncomputable def c : Code := (Tryz.f6.body).getD .skip
noncomputable def f1 : List (Nat × Value) := [(0, (.bool true))]
noncomputable def h1 : List (Nat × Blk) := []
-- 6252 operations
theorem s0 (w0 : World) : Cl Tryz.prog 0 68 w0 c (F.frL f0) (F.hL h0 0) .ret (F.frL f1) (F.hL h1 203) :=
  F.seg (n := 300) (L := 300) dr zeros mixed names (show F.segB (F.execF Tryz.prog (F.callF Tryz.prog 0 fs 300) 300 0 68 true c (F.frL f0) (F.hL h0 0)) .ret f1 h1 203 = true by kernel_rfl) w0

theorem body : Tryz.f6.body = some c := by kernel_rfl
theorem walk (w : World) : Calls Tryz.prog 6 #[] w fun e w' => e = .returned (.bool true) ∧ Go.RowKit.Below w.heap.size w w' :=
  closed_cl Tryz.func6 body (by kernel_rfl) (.inr rfl) w (show Cl Tryz.prog 0 68 w c .nil ⟨.nil, 0⟩ .ret (F.frL f1) (F.hL h1 203) from s0 w) (by kernel_rfl)
end Go.Proofs.YtoohgaejekfmdaaGreatDoor.wla
