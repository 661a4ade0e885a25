/-
  relayhouselaw29.awake: the closed call is run in pieces by an abstract machine (proved to simulate the model), in the kernel. Printed by a program of mine (wip/tools/Seg.lean).
-/
import Derived.Test.YtpohcbdpgjhhhaaGreatDoorProg
import Derived.Test.YtpohcbdpgjhhhaaGreatDoorAmSeg
set_option maxRecDepth 1000000
namespace Go.Proofs.YtpohcbdpgjhhhaaGreatDoor.sba
open Go Go.AM

noncomputable def fs : List Nat := [6, 7, 8, 9, 10, 11, 12, 13, 14, 15, 16, 17, 18, 19, 20, 21, 22, 23, 24, 25, 26, 27, 28, 29, 30, 31, 32, 33, 34, 35, 36, 37, 38, 40, 41, 42, 43, 44, 45, 46, 47, 48, 49, 50, 51, 52, 53, 54, 55, 56, 57, 58, 59, 60, 63, 65, 66, 67, 68, 70, 72, 73, 74, 75, 76, 77, 79, 80, 81, 84, 93, 96, 97, 98, 99, 100, 101, 102, 103, 104, 105, 106, 107, 117, 124, 125, 126, 127, 128, 129, 130, 131, 132, 140, 141, 143, 156, 157, 158, 159, 160, 161, 164, 165, 166, 167, 170, 171, 173, 174, 176, 180, 184, 193, 194, 200, 212, 213, 214, 215, 216, 218, 219, 220, 225, 226, 227, 228, 229, 230, 231, 249, 253, 261, 262, 266, 269, 270, 271, 272, 273, 274, 292]
theorem dr : F.drsAll Tryz.prog fs = true := by kernel_rfl
theorem zeros : zerosPlain Tryz.prog = true := by kernel_rfl
theorem mixed : Tryz.prog.follows .mixedOrders = true := by kernel_rfl
theorem names : namesOK Tryz.prog = true := by kernel_rfl

noncomputable def f0 : List (Nat × Value) := []
noncomputable def h0 : List (Nat × Blk) := []
noncomputable def c : Code := (Tryz.f6.body).getD .skip
noncomputable def f1 : List (Nat × Value) := [(0, (.bool true))]
noncomputable def h1 : List (Nat × Blk) := []
-- 19247 operations
theorem s0 (w0 : World) : Cl Tryz.prog 0 31 w0 c (F.frL f0) (F.hL h0 0) .ret (F.frL f1) (F.hL h1 302) :=
  F.seg (n := 300) (L := 300) dr zeros mixed names (show F.segB (F.execF Tryz.prog (F.callF Tryz.prog 0 fs 300) 300 0 31 true c (F.frL f0) (F.hL h0 0)) .ret f1 h1 302 = true by kernel_rfl) w0

theorem body : Tryz.f6.body = some c := by kernel_rfl
theorem walk (w : World) : Calls Tryz.prog 6 #[] w fun e w' => e = .returned (.bool true) ∧ Go.RowKit.Below w.heap.size w w' :=
  closed_cl Tryz.func6 body (by kernel_rfl) (.inr rfl) w (show Cl Tryz.prog 0 31 w c .nil ⟨.nil, 0⟩ .ret (F.frL f1) (F.hL h1 302) from s0 w) (by kernel_rfl)
end Go.Proofs.YtpohcbdpgjhhhaaGreatDoor.sba
