/-
  relayhouselaw23.BrokerKnown: the closed call is run in pieces by an abstract machine (proved to simulate the model), in the kernel. Printed by a program of mine (wip/tools/Seg.lean).
-/
import Derived.Test.YticbebcnkjapfaaGreatDoorProg
import Derived.Test.YticbebcnkjapfaaGreatDoorAmSeg
import Derived.Test.YticbebcnkjapfaaGreatDoorBkL
set_option maxRecDepth 1000000
namespace Go.Proofs.YticbebcnkjapfaaGreatDoor.bkn
open Go Go.AM

noncomputable def fs : List Nat := [4, 5, 6, 7, 8, 9, 10, 11, 12, 13, 14, 15, 16, 17, 18, 19, 20, 21, 22, 23, 24, 25, 26, 27, 29, 31, 32, 33, 34, 35, 36, 38, 40, 42, 44, 47, 48, 49, 50, 51, 52, 53, 54, 55, 56, 57, 58, 59, 60, 61, 62, 63, 64, 65, 66, 67, 68, 69, 71, 72, 74, 77, 79, 80, 81, 82, 83, 84, 86, 89, 90, 91, 92, 94, 95, 96, 97, 101, 110, 113, 121, 122, 123, 125, 126, 127, 128, 129, 130, 131, 132, 133, 134, 135, 136, 146, 160, 161, 162, 163, 164, 165, 166, 167, 175, 176, 178, 194, 195, 196, 197, 198, 201, 202, 203, 206, 207, 209, 210, 212, 216, 218, 227, 228, 234, 247, 248, 249, 250, 252, 253, 254, 259, 260, 261, 262, 263, 264, 279, 283, 300, 301, 305, 308, 309, 310, 311, 312, 313, 332]
theorem dr : F.drsAll Tryz.prog fs = true := by kernel_rfl
theorem zeros : zerosPlain Tryz.prog = true := by kernel_rfl
theorem mixed : Tryz.prog.follows .mixedOrders = true := by kernel_rfl
theorem names : namesOK Tryz.prog = true := by kernel_rfl

noncomputable def f0 : List (Nat × Value) := []
noncomputable def h0 : List (Nat × Blk) := []
noncomputable def c : Code := (Tryz.f3.body).getD .skip
noncomputable def cl : Code := cL c
noncomputable def cr : Code := cR c
noncomputable def f1 : List (Nat × Value) := []
noncomputable def h1 : List (Nat × Blk) := []
-- 1 operations
theorem s1 (w0 : World) : Cl Tryz.prog 0 193 w0 cl (F.frL f0) (F.hL h0 0) .normal (F.frL f1) (F.hL h1 0) :=
  F.seg (n := 400) (L := 400) dr zeros mixed names (show F.segB (F.execF Tryz.prog (F.callF Tryz.prog 0 fs 400) 400 0 193 true cl (F.frL f0) (F.hL h0 0)) .normal f1 h1 0 = true by kernel_rfl) w0
noncomputable def crl : Code := cL cr
noncomputable def crr : Code := cR cr
noncomputable def f2 : List (Nat × Value) := [(1, (.pointer (some ⟨7, 0, none⟩)))]
noncomputable def h2 : List (Nat × Blk) := [(3, (.cells [(.slice none 0 0), (.slice none 0 0), (.slice none 0 0), (.slice none 0 0), (.slice none 0 0), (.slice none 0 0), (.slice none 0 0), (.slice none 0 0), (.slice none 0 0), (.slice none 0 0), (.slice none 0 0), (.slice none 0 0), (.slice none 0 0), (.slice none 0 0), (.slice none 0 0), (.slice none 0 0), (.slice none 0 0), (.slice none 0 0), (.slice none 0 0), (.slice none 0 0), (.slice none 0 0), (.slice none 0 0), (.slice none 0 0), (.slice none 0 0), (.slice none 0 0), (.slice none 0 0), (.slice none 0 0), (.slice none 0 0)] (some 1))),
  (4, (.cells [(.int .i64 0), (.int .i64 0), (.int .i64 0), (.int .i64 0), (.int .i64 0), (.int .i64 0), (.int .i64 0), (.int .i64 0), (.int .i64 0), (.int .i64 0), (.int .i64 0), (.int .i64 0), (.int .i64 0), (.int .i64 0)] (some 1))),
  (5, (.cells [(.int .i64 2), (.int .i64 1), (.slice (some ⟨3, 0, none⟩) 28 57), (.slice (some ⟨4, 0, none⟩) 14 29), (.int .i64 0)] (some 0))),
  (6, (.cells [(.slice none 0 0), (.int .i64 0)] (some 0))),
  (7, (.cells [(.int .i64 2), (.int .i64 1), (.int .i64 1000), (.int .i64 5), (.int .i64 5), (.slice (some ⟨37, 0, none⟩) 2 4), (.pointer (some ⟨5, 0, none⟩)), (.pointer (some ⟨6, 0, none⟩)), (.int .i64 0), (.int .i64 1)] (some 0))),
  (10, (.map [⟨(.int .i64 1), (.pointer (some ⟨39, 0, none⟩)), 0⟩] 1)),
  (11, (.cells [(.int .i64 2), (.int .i64 0), (.int .i64 1000), (.map (some 10))] (some 0))),
  (13, (.map [] 0)),
  (14, (.map [] 0)),
  (15, (.cells [(.int .i64 2), (.int .i64 1), (.int .i64 1000), (.int .i64 5), (.int .i64 5), (.int .i64 0), (.map (some 13)), (.map (some 14))] (some 0))),
  (16, (.cells [(.map none), (.map none), (.int .i64 0), (.int .i64 1)] (some 0))),
  (17, (.map [] 0)),
  (18, (.cells [(.map (some 17))] (some 0))),
  (19, (.cells [(.pointer (some ⟨16, 0, none⟩)), (.pointer (some ⟨18, 0, none⟩)), (.int .i64 2)] (some 0))),
  (20, (.cells [(.pointer (some ⟨11, 0, none⟩)), (.pointer (some ⟨15, 0, none⟩)), (.pointer (some ⟨19, 0, none⟩)), (.int .i64 0), (.int .i64 2), (.pointer (some ⟨5, 0, none⟩)), (.pointer (some ⟨6, 0, none⟩))] (some 0))),
  (25, (.map [] 0)),
  (26, (.cells [(.int .i64 2), (.int .i64 1), (.int .i64 1000), (.map (some 25))] (some 0))),
  (28, (.map [] 0)),
  (29, (.map [] 0)),
  (30, (.cells [(.int .i64 2), (.int .i64 1), (.int .i64 1000), (.int .i64 5), (.int .i64 5), (.int .i64 1), (.map (some 28)), (.map (some 29))] (some 0))),
  (31, (.cells [(.map none), (.map none), (.int .i64 0), (.int .i64 1)] (some 0))),
  (32, (.map [] 0)),
  (33, (.cells [(.map (some 32))] (some 0))),
  (34, (.cells [(.pointer (some ⟨31, 0, none⟩)), (.pointer (some ⟨33, 0, none⟩)), (.int .i64 2)] (some 0))),
  (35, (.cells [(.pointer (some ⟨26, 0, none⟩)), (.pointer (some ⟨30, 0, none⟩)), (.pointer (some ⟨34, 0, none⟩)), (.int .i64 1), (.int .i64 2), (.pointer (some ⟨5, 0, none⟩)), (.pointer (some ⟨6, 0, none⟩))] (some 0))),
  (37, (.cells [(.pointer (some ⟨20, 0, none⟩)), (.pointer (some ⟨35, 0, none⟩))] (some 1))),
  (38, (.cells [(.int .i64 1000), (.slice (some ⟨40, 0, none⟩) 15 30), (.int .i64 0)] (some 0))),
  (39, (.cells [(.int .i64 1), (.int .u8 1), (.pointer (some ⟨38, 0, none⟩)), (.bool false), (.string ⟨⟨[]⟩⟩), (.int .i64 0), (.int .i64 0), (.int .i64 0), (.string ⟨⟨[]⟩⟩), (.string ⟨⟨[]⟩⟩)] (some 0))),
  (40, (.cells [(.int .u8 16), (.int .u8 13), (.int .u8 0), (.int .u8 4), (.int .u8 77), (.int .u8 81), (.int .u8 84), (.int .u8 84), (.int .u8 4), (.int .u8 2), (.int .u8 0), (.int .u8 0), (.int .u8 0), (.int .u8 1), (.int .u8 120)] (some 1)))]
-- 983 operations
theorem s3 (w0 : World) : Cl Tryz.prog 0 193 w0 crl (F.frL f1) (F.hL h1 0) .normal (F.frL f2) (F.hL h2 41) :=
  F.seg (n := 400) (L := 400) dr zeros mixed names (show F.segB (F.execF Tryz.prog (F.callF Tryz.prog 0 fs 400) 400 0 193 true crl (F.frL f1) (F.hL h1 0)) .normal f2 h2 41 = true by kernel_rfl) w0
noncomputable def crrl : Code := cL crr
noncomputable def crrr : Code := cR crr
noncomputable def f3 : List (Nat × Value) := [(1, (.pointer (some ⟨7, 0, none⟩)))]
noncomputable def h3 : List (Nat × Blk) := [(3, (.cells [(.slice none 0 0), (.slice none 0 0), (.slice none 0 0), (.slice none 0 0), (.slice none 0 0), (.slice none 0 0), (.slice none 0 0), (.slice (some ⟨89, 0, none⟩) 1 2), (.slice none 0 0), (.slice none 0 0), (.slice none 0 0), (.slice none 0 0), (.slice none 0 0), (.slice none 0 0), (.slice none 0 0), (.slice none 0 0), (.slice none 0 0), (.slice none 0 0), (.slice none 0 0), (.slice none 0 0), (.slice none 0 0), (.slice none 0 0), (.slice none 0 0), (.slice none 0 0), (.slice none 0 0), (.slice none 0 0), (.slice none 0 0), (.slice none 0 0)] (some 1))),
  (4, (.cells [(.int .i64 1), (.int .i64 0), (.int .i64 0), (.int .i64 0), (.int .i64 0), (.int .i64 0), (.int .i64 0), (.int .i64 0), (.int .i64 0), (.int .i64 0), (.int .i64 0), (.int .i64 0), (.int .i64 0), (.int .i64 0)] (some 1))),
  (5, (.cells [(.int .i64 2), (.int .i64 1), (.slice (some ⟨3, 0, none⟩) 28 57), (.slice (some ⟨4, 0, none⟩) 14 29), (.int .i64 1)] (some 0))),
  (6, (.cells [(.slice (some ⟨74, 0, none⟩) 1 2), (.int .i64 1)] (some 0))),
  (7, (.cells [(.int .i64 2), (.int .i64 1), (.int .i64 1000), (.int .i64 5), (.int .i64 5), (.slice (some ⟨37, 0, none⟩) 2 4), (.pointer (some ⟨5, 0, none⟩)), (.pointer (some ⟨6, 0, none⟩)), (.int .i64 0), (.int .i64 1)] (some 0))),
  (10, (.map [⟨(.int .i64 1), (.pointer (some ⟨39, 0, none⟩)), 0⟩] 1)),
  (11, (.cells [(.int .i64 2), (.int .i64 0), (.int .i64 1000), (.map (some 10))] (some 0))),
  (13, (.map [] 0)),
  (14, (.map [] 0)),
  (15, (.cells [(.int .i64 2), (.int .i64 1), (.int .i64 1000), (.int .i64 5), (.int .i64 5), (.int .i64 0), (.map (some 13)), (.map (some 14))] (some 0))),
  (16, (.cells [(.map none), (.map none), (.int .i64 0), (.int .i64 1)] (some 0))),
  (17, (.map [] 0)),
  (18, (.cells [(.map (some 17))] (some 0))),
  (19, (.cells [(.pointer (some ⟨16, 0, none⟩)), (.pointer (some ⟨18, 0, none⟩)), (.int .i64 2)] (some 0))),
  (20, (.cells [(.pointer (some ⟨11, 0, none⟩)), (.pointer (some ⟨15, 0, none⟩)), (.pointer (some ⟨19, 0, none⟩)), (.int .i64 0), (.int .i64 2), (.pointer (some ⟨5, 0, none⟩)), (.pointer (some ⟨6, 0, none⟩))] (some 0))),
  (25, (.map [] 0)),
  (26, (.cells [(.int .i64 2), (.int .i64 1), (.int .i64 1000), (.map (some 25))] (some 0))),
  (28, (.map [] 0)),
  (29, (.map [] 0)),
  (30, (.cells [(.int .i64 2), (.int .i64 1), (.int .i64 1000), (.int .i64 5), (.int .i64 5), (.int .i64 1), (.map (some 28)), (.map (some 29))] (some 0))),
  (31, (.cells [(.map none), (.map none), (.int .i64 0), (.int .i64 1)] (some 0))),
  (32, (.map [] 0)),
  (33, (.cells [(.map (some 32))] (some 0))),
  (34, (.cells [(.pointer (some ⟨31, 0, none⟩)), (.pointer (some ⟨33, 0, none⟩)), (.int .i64 2)] (some 0))),
  (35, (.cells [(.pointer (some ⟨26, 0, none⟩)), (.pointer (some ⟨30, 0, none⟩)), (.pointer (some ⟨34, 0, none⟩)), (.int .i64 1), (.int .i64 2), (.pointer (some ⟨5, 0, none⟩)), (.pointer (some ⟨6, 0, none⟩))] (some 0))),
  (37, (.cells [(.pointer (some ⟨20, 0, none⟩)), (.pointer (some ⟨35, 0, none⟩))] (some 1))),
  (38, (.cells [(.int .i64 1000), (.slice none 0 0), (.int .i64 0)] (some 0))),
  (39, (.cells [(.int .i64 1), (.int .u8 2), (.pointer (some ⟨38, 0, none⟩)), (.bool false), (.string ⟨⟨[120]⟩⟩), (.int .i64 0), (.int .i64 0), (.int .i64 0), (.string ⟨⟨[]⟩⟩), (.string ⟨⟨[]⟩⟩)] (some 0))),
  (74, (.cells [(.int .u8 1), (.int .i64 1), (.int .i64 1), (.string ⟨⟨[120]⟩⟩), (.int .u8 1), (.bool false), (.int .u8 0), (.bool false), (.int .u16 0), (.string ⟨⟨[]⟩⟩), (.string ⟨⟨[]⟩⟩), (.int .u8 4), (.bool true), (.int .u16 0), (.string ⟨⟨[120]⟩⟩), (.bool false), (.string ⟨⟨[]⟩⟩), (.string ⟨⟨[]⟩⟩), (.int .u8 0), (.bool false), (.bool false), (.bool false), (.string ⟨⟨[]⟩⟩), (.string ⟨⟨[]⟩⟩), (.bool false), (.int .u8 0), (.slice none 0 0), (.string ⟨⟨[]⟩⟩), (.string ⟨⟨[]⟩⟩), (.string ⟨⟨[]⟩⟩), (.int .u8 0), (.bool false), (.string ⟨⟨[]⟩⟩), (.bool false), (.int .u8 0)] (some 35))),
  (84, (.cells [(.int .u8 1), (.int .i64 1), (.int .i64 1), (.string ⟨⟨[120]⟩⟩), (.string ⟨⟨[]⟩⟩), (.int .u8 1), (.bool false), (.int .u8 0), (.bool false), (.int .u16 0), (.string ⟨⟨[]⟩⟩), (.string ⟨⟨[]⟩⟩), (.int .u8 4), (.bool true), (.int .u16 0), (.string ⟨⟨[120]⟩⟩), (.bool false), (.string ⟨⟨[]⟩⟩), (.string ⟨⟨[]⟩⟩), (.int .u8 0), (.bool false), (.bool false), (.bool false), (.string ⟨⟨[]⟩⟩), (.string ⟨⟨[]⟩⟩), (.bool false), (.int .u8 0), (.slice none 0 0), (.string ⟨⟨[]⟩⟩), (.string ⟨⟨[]⟩⟩), (.string ⟨⟨[]⟩⟩), (.int .u8 0), (.bool false), (.slice none 0 0), (.slice none 0 0), (.slice none 0 0), (.int .i64 0), (.int .i64 0)] (some 38))),
  (89, (.cells [(.slice (some ⟨84, 0, none⟩) 1 2)] (some 1)))]
-- 7945 operations
theorem s5 (w0 : World) : Cl Tryz.prog 0 193 w0 crrl (F.frL f2) (F.hL h2 41) .normal (F.frL f3) (F.hL h3 109) :=
  F.seg (n := 400) (L := 400) dr zeros mixed names (show F.segB (F.execF Tryz.prog (F.callF Tryz.prog 0 fs 400) 400 0 193 true crrl (F.frL f2) (F.hL h2 41)) .normal f3 h3 109 = true by kernel_rfl) w0
noncomputable def crrrl : Code := cL crrr
noncomputable def crrrr : Code := cR crrr
noncomputable def f4 : List (Nat × Value) := [(1, (.pointer (some ⟨7, 0, none⟩)))]
noncomputable def h4 : List (Nat × Blk) := [(3, (.cells [(.slice none 0 0), (.slice none 0 0), (.slice none 0 0), (.slice none 0 0), (.slice none 0 0), (.slice none 0 0), (.slice none 0 0), (.slice (some ⟨89, 0, none⟩) 1 2), (.slice none 0 0), (.slice none 0 0), (.slice none 0 0), (.slice none 0 0), (.slice none 0 0), (.slice none 0 0), (.slice none 0 0), (.slice none 0 0), (.slice none 0 0), (.slice none 0 0), (.slice none 0 0), (.slice none 0 0), (.slice none 0 0), (.slice none 0 0), (.slice none 0 0), (.slice none 0 0), (.slice none 0 0), (.slice none 0 0), (.slice none 0 0), (.slice none 0 0)] (some 1))),
  (4, (.cells [(.int .i64 1), (.int .i64 0), (.int .i64 0), (.int .i64 0), (.int .i64 0), (.int .i64 0), (.int .i64 0), (.int .i64 0), (.int .i64 0), (.int .i64 0), (.int .i64 0), (.int .i64 0), (.int .i64 0), (.int .i64 0)] (some 1))),
  (5, (.cells [(.int .i64 2), (.int .i64 1), (.slice (some ⟨3, 0, none⟩) 28 57), (.slice (some ⟨4, 0, none⟩) 14 29), (.int .i64 1)] (some 0))),
  (6, (.cells [(.slice (some ⟨74, 0, none⟩) 1 2), (.int .i64 1)] (some 0))),
  (7, (.cells [(.int .i64 2), (.int .i64 1), (.int .i64 1000), (.int .i64 5), (.int .i64 5), (.slice (some ⟨37, 0, none⟩) 2 4), (.pointer (some ⟨5, 0, none⟩)), (.pointer (some ⟨6, 0, none⟩)), (.int .i64 1099511627776), (.int .i64 1)] (some 0))),
  (10, (.map [⟨(.int .i64 1), (.pointer (some ⟨39, 0, none⟩)), 0⟩] 1)),
  (11, (.cells [(.int .i64 2), (.int .i64 0), (.int .i64 1000), (.map (some 10))] (some 0))),
  (13, (.map [] 0)),
  (14, (.map [] 0)),
  (15, (.cells [(.int .i64 2), (.int .i64 1), (.int .i64 1000), (.int .i64 5), (.int .i64 5), (.int .i64 0), (.map (some 13)), (.map (some 14))] (some 0))),
  (16, (.cells [(.map none), (.map none), (.int .i64 0), (.int .i64 1)] (some 0))),
  (17, (.map [] 0)),
  (18, (.cells [(.map (some 17))] (some 0))),
  (19, (.cells [(.pointer (some ⟨16, 0, none⟩)), (.pointer (some ⟨18, 0, none⟩)), (.int .i64 2)] (some 0))),
  (20, (.cells [(.pointer (some ⟨11, 0, none⟩)), (.pointer (some ⟨15, 0, none⟩)), (.pointer (some ⟨19, 0, none⟩)), (.int .i64 0), (.int .i64 2), (.pointer (some ⟨5, 0, none⟩)), (.pointer (some ⟨6, 0, none⟩))] (some 0))),
  (25, (.map [] 0)),
  (26, (.cells [(.int .i64 2), (.int .i64 1), (.int .i64 1000), (.map (some 25))] (some 0))),
  (28, (.map [] 0)),
  (29, (.map [] 0)),
  (30, (.cells [(.int .i64 2), (.int .i64 1), (.int .i64 1000), (.int .i64 5), (.int .i64 5), (.int .i64 1), (.map (some 28)), (.map (some 29))] (some 0))),
  (31, (.cells [(.map none), (.map none), (.int .i64 0), (.int .i64 1)] (some 0))),
  (32, (.map [] 0)),
  (33, (.cells [(.map (some 32))] (some 0))),
  (34, (.cells [(.pointer (some ⟨31, 0, none⟩)), (.pointer (some ⟨33, 0, none⟩)), (.int .i64 2)] (some 0))),
  (35, (.cells [(.pointer (some ⟨26, 0, none⟩)), (.pointer (some ⟨30, 0, none⟩)), (.pointer (some ⟨34, 0, none⟩)), (.int .i64 1), (.int .i64 2), (.pointer (some ⟨5, 0, none⟩)), (.pointer (some ⟨6, 0, none⟩))] (some 0))),
  (37, (.cells [(.pointer (some ⟨20, 0, none⟩)), (.pointer (some ⟨35, 0, none⟩))] (some 1))),
  (38, (.cells [(.int .i64 1000), (.slice none 0 0), (.int .i64 0)] (some 0))),
  (39, (.cells [(.int .i64 1), (.int .u8 2), (.pointer (some ⟨38, 0, none⟩)), (.bool false), (.string ⟨⟨[120]⟩⟩), (.int .i64 0), (.int .i64 0), (.int .i64 0), (.string ⟨⟨[]⟩⟩), (.string ⟨⟨[]⟩⟩)] (some 0))),
  (74, (.cells [(.int .u8 1), (.int .i64 1), (.int .i64 1), (.string ⟨⟨[120]⟩⟩), (.int .u8 1), (.bool false), (.int .u8 0), (.bool false), (.int .u16 0), (.string ⟨⟨[]⟩⟩), (.string ⟨⟨[]⟩⟩), (.int .u8 4), (.bool true), (.int .u16 0), (.string ⟨⟨[120]⟩⟩), (.bool false), (.string ⟨⟨[]⟩⟩), (.string ⟨⟨[]⟩⟩), (.int .u8 0), (.bool false), (.bool false), (.bool false), (.string ⟨⟨[]⟩⟩), (.string ⟨⟨[]⟩⟩), (.bool false), (.int .u8 0), (.slice none 0 0), (.string ⟨⟨[]⟩⟩), (.string ⟨⟨[]⟩⟩), (.string ⟨⟨[]⟩⟩), (.int .u8 0), (.bool false), (.string ⟨⟨[]⟩⟩), (.bool false), (.int .u8 0)] (some 35))),
  (84, (.cells [(.int .u8 1), (.int .i64 1), (.int .i64 1), (.string ⟨⟨[120]⟩⟩), (.string ⟨⟨[]⟩⟩), (.int .u8 1), (.bool false), (.int .u8 0), (.bool false), (.int .u16 0), (.string ⟨⟨[]⟩⟩), (.string ⟨⟨[]⟩⟩), (.int .u8 4), (.bool true), (.int .u16 0), (.string ⟨⟨[120]⟩⟩), (.bool false), (.string ⟨⟨[]⟩⟩), (.string ⟨⟨[]⟩⟩), (.int .u8 0), (.bool false), (.bool false), (.bool false), (.string ⟨⟨[]⟩⟩), (.string ⟨⟨[]⟩⟩), (.bool false), (.int .u8 0), (.slice none 0 0), (.string ⟨⟨[]⟩⟩), (.string ⟨⟨[]⟩⟩), (.string ⟨⟨[]⟩⟩), (.int .u8 0), (.bool false), (.slice none 0 0), (.slice none 0 0), (.slice none 0 0), (.int .i64 0), (.int .i64 0)] (some 38))),
  (89, (.cells [(.slice (some ⟨84, 0, none⟩) 1 2)] (some 1)))]
-- 297 operations
theorem s7 (w0 : World) : Cl Tryz.prog 0 193 w0 crrrl (F.frL f3) (F.hL h3 109) .normal (F.frL f4) (F.hL h4 112) :=
  F.seg (n := 400) (L := 400) dr zeros mixed names (show F.segB (F.execF Tryz.prog (F.callF Tryz.prog 0 fs 400) 400 0 193 true crrrl (F.frL f3) (F.hL h3 109)) .normal f4 h4 112 = true by kernel_rfl) w0
noncomputable def crrrrl : Code := BkD.c3arrrrl
noncomputable def crrrrr : Code := cR crrrr
noncomputable def f5 : List (Nat × Value) := [(1, (.pointer (some ⟨7, 0, none⟩)))]
noncomputable def h5 : List (Nat × Blk) := [(7, (.cells [(.int .i64 2), (.int .i64 1), (.int .i64 1000), (.int .i64 5), (.int .i64 5), (.slice (some ⟨37, 0, none⟩) 2 4), (.pointer (some ⟨5, 0, none⟩)), (.pointer (some ⟨6, 0, none⟩)), (.int .i64 1099511627776), (.int .i64 4096)] (some 0)))]
theorem bi : BkD.BI (F.hL h4 112) 7 37 (fun i => [20, 35].getD i 0) (fun i => [11, 26].getD i 0) (fun i => [10, 25].getD i 0) [(.int .i64 2), (.int .i64 1), (.int .i64 1000), (.int .i64 5), (.int .i64 5), (.slice (some ⟨37, 0, none⟩) 2 4), (.pointer (some ⟨5, 0, none⟩)), (.pointer (some ⟨6, 0, none⟩)), (.int .i64 1099511627776), (.int .i64 1)] 0 4 1 where
  hb := by kernel_rfl
  bl := rfl
  b0 := rfl
  b5 := rfl
  hws := ⟨[(.pointer (some ⟨20, 0, none⟩)), (.pointer (some ⟨35, 0, none⟩))], (some 1), by kernel_rfl, rfl, rfl⟩
  hw := fun i hi => match i, hi with | 0, _ => ⟨[(.pointer (some ⟨11, 0, none⟩)), (.pointer (some ⟨15, 0, none⟩)), (.pointer (some ⟨19, 0, none⟩)), (.int .i64 0), (.int .i64 2), (.pointer (some ⟨5, 0, none⟩)), (.pointer (some ⟨6, 0, none⟩))], (some 0), by kernel_rfl, rfl⟩ | 1, _ => ⟨[(.pointer (some ⟨26, 0, none⟩)), (.pointer (some ⟨30, 0, none⟩)), (.pointer (some ⟨34, 0, none⟩)), (.int .i64 1), (.int .i64 2), (.pointer (some ⟨5, 0, none⟩)), (.pointer (some ⟨6, 0, none⟩))], (some 0), by kernel_rfl, rfl⟩
  hg := fun i hi => match i, hi with | 0, _ => ⟨[(.int .i64 2), (.int .i64 0), (.int .i64 1000), (.map (some 10))], (some 0), 2, 0, 1000, by kernel_rfl, rfl, rfl, rfl, rfl, by omega, by omega⟩ | 1, _ => ⟨[(.int .i64 2), (.int .i64 1), (.int .i64 1000), (.map (some 25))], (some 0), 2, 1, 1000, by kernel_rfl, rfl, rfl, rfl, rfl, by omega, by omega⟩
  hm := fun i hi => match i, hi with | 0, _ => ⟨[⟨(.int .i64 1), (.pointer (some ⟨39, 0, none⟩)), 0⟩], 1, by kernel_rfl, fun e he => by simp only [List.mem_cons, List.not_mem_nil, or_false] at he; subst he; exact ⟨⟨_, rfl⟩, _, rfl⟩⟩ | 1, _ => ⟨[], 0, by kernel_rfl, fun e he => by simp only [List.mem_cons, List.not_mem_nil, or_false] at he; ⟩
  lb := by show (7 : Nat) < 112; omega
  lws := by show (37 : Nat) < 112; omega
  lw := fun i hi => match i, hi with | 0, _ => (by show (20 : Nat) < 112; omega) | 1, _ => (by show (35 : Nat) < 112; omega)
  lg := fun i hi => match i, hi with | 0, _ => (by show (11 : Nat) < 112; omega) | 1, _ => (by show (26 : Nat) < 112; omega)
  lm := fun i hi => match i, hi with | 0, _ => (by show (10 : Nat) < 112; omega) | 1, _ => (by show (25 : Nat) < 112; omega)
  d1 := by decide
  d2 := fun i hi => match i, hi with | 0, _ => (by decide) | 1, _ => (by decide)
  d3 := fun i j hi hj => match i, j, hi, hj with | 0, 0, _, _ => (by decide) | 0, 1, _, _ => (by decide) | 1, 0, _, _ => (by decide) | 1, 1, _, _ => (by decide)
theorem s9 (w0 : World) : Cl Tryz.prog 0 193 w0 crrrrl (F.frL f4) (F.hL h4 112) .normal (F.frL f5) (F.hL h5 20000) :=
  BkD.loopCl zeros mixed names w0 bi (by kernel_rfl) rfl (by omega)
noncomputable def f6 : List (Nat × Value) := [(0, (.bool true))]
noncomputable def h6 : List (Nat × Blk) := []
-- 8144 operations
theorem s10 (w0 : World) : Cl Tryz.prog 0 193 w0 crrrrr (F.frL f5) (F.hL h5 20000) .ret (F.frL f6) (F.hL h6 20265) :=
  F.seg (n := 400) (L := 400) dr zeros mixed names (show F.segB (F.execF Tryz.prog (F.callF Tryz.prog 0 fs 400) 400 0 193 true crrrrr (F.frL f5) (F.hL h5 20000)) .ret f6 h6 20265 = true by kernel_rfl) w0
theorem s8 (w0 : World) : Cl Tryz.prog 0 193 w0 crrrr (F.frL f4) (F.hL h4 112) .ret (F.frL f6) (F.hL h6 20265) :=
  (show crrrr = .seq crrrrl crrrrr by kernel_rfl) ▸ cl_seq (s9 w0) (s10 w0)
theorem s6 (w0 : World) : Cl Tryz.prog 0 193 w0 crrr (F.frL f3) (F.hL h3 109) .ret (F.frL f6) (F.hL h6 20265) :=
  (show crrr = .seq crrrl crrrr by kernel_rfl) ▸ cl_seq (s7 w0) (s8 w0)
theorem s4 (w0 : World) : Cl Tryz.prog 0 193 w0 crr (F.frL f2) (F.hL h2 41) .ret (F.frL f6) (F.hL h6 20265) :=
  (show crr = .seq crrl crrr by kernel_rfl) ▸ cl_seq (s5 w0) (s6 w0)
theorem s2 (w0 : World) : Cl Tryz.prog 0 193 w0 cr (F.frL f1) (F.hL h1 0) .ret (F.frL f6) (F.hL h6 20265) :=
  (show cr = .seq crl crr by kernel_rfl) ▸ cl_seq (s3 w0) (s4 w0)
theorem s0 (w0 : World) : Cl Tryz.prog 0 193 w0 c (F.frL f0) (F.hL h0 0) .ret (F.frL f6) (F.hL h6 20265) :=
  (show c = .seq cl cr by kernel_rfl) ▸ cl_seq (s1 w0) (s2 w0)

theorem body : Tryz.f3.body = some c := by kernel_rfl
theorem walk (w : World) : Calls Tryz.prog 3 #[] w fun e w' => e = .returned (.bool true) ∧ Go.RowKit.Below w.heap.size w w' :=
  closed_cl Tryz.func3 body (by kernel_rfl) (.inr rfl) w (show Cl Tryz.prog 0 193 w c .nil ⟨.nil, 0⟩ .ret (F.frL f6) (F.hL h6 20265) from s0 w) (by kernel_rfl)
end Go.Proofs.YticbebcnkjapfaaGreatDoor.bkn
