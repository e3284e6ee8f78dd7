/- The types of the program that the functions use. -/
import Derived.Test.YtbodjgljjaafaaaProg
import Derived.KernelRfl
import Derived.Test.YtbodjgljjaafaaaAmDv

set_option maxRecDepth 100000
set_option linter.unusedVariables false

namespace Go.AM
open Go.Proofs.Try

def tab : Tab := [(2, ⟨.int .i64, 1, 8, [.int .i64 0]⟩),
  (3, ⟨.int .i64, 1, 8, [.int .i64 0]⟩),
  (4, ⟨.bool, 1, 1, [.bool false]⟩),
  (5, ⟨.int .u8, 1, 1, [.int .u8 0]⟩),
  (22, ⟨.slice 25, 1, 24, [.slice none 0 0]⟩),
  (25, ⟨.int .i8, 1, 1, [.int .i8 0]⟩),
  (27, ⟨.slice 95, 1, 24, [.slice none 0 0]⟩),
  (29, ⟨.struct [(0, 4), (1, 27)], 2, 32, [.bool false, .slice none 0 0]⟩),
  (31, ⟨.slice 35, 1, 24, [.slice none 0 0]⟩),
  (33, ⟨.struct [(0, 3), (1, 3), (2, 31)], 3, 40, [.int .i64 0, .int .i64 0, .slice none 0 0]⟩),
  (35, ⟨.slice 29, 1, 24, [.slice none 0 0]⟩),
  (39, ⟨.array 4 5, 4, 4, [.int .u8 0, .int .u8 0, .int .u8 0, .int .u8 0]⟩),
  (41, ⟨.struct [(0, 39), (4, 22), (5, 22), (6, 22)], 7, 80, [.int .u8 0, .int .u8 0, .int .u8 0, .int .u8 0, .slice none 0 0, .slice none 0 0, .slice none 0 0]⟩),
  (54, ⟨.slice 3, 1, 24, [.slice none 0 0]⟩),
  (60, ⟨.slice 29, 1, 24, [.slice none 0 0]⟩),
  (92, ⟨.slice 2, 1, 24, [.slice none 0 0]⟩),
  (93, ⟨.int .u64, 1, 8, [.int .u64 0]⟩),
  (95, ⟨.int .u32, 1, 4, [.int .u32 0]⟩),
  (99, ⟨.array 4 3, 4, 32, [.int .i64 0, .int .i64 0, .int .i64 0, .int .i64 0]⟩),
  (151, ⟨.slice 31, 1, 24, [.slice none 0 0]⟩)]

theorem hT : TOK prog tab := by
  show tab.all (fun x => tiB prog x.1 x.2) = true
  kernel_rfl

abbrev o0 : In := (Or.none, 0, 0)

theorem hmix : prog.follows .mixedOrders = true := by kernel_rfl

end Go.AM
