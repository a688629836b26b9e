/- The types that the walks over this translation meet: a table, and that it tells of them what the translation tells. -/
import Derived.Test.YtajmabnnaidhkaaFw28
import Derived.Test.YtajmabnnaidhkaaProg
import Derived.KernelRfl
namespace Go.Proofs.Ytajmabnnaidhkaa
open Go.Fw
def tt : TT := [
  (3, ⟨.int .i64, 1, false, [.int .i64 0]⟩),
  (22, ⟨.slice 3 1 8 [.int .i64 0], 1, false, [.nils]⟩),
  (25, ⟨.int .i64, 1, false, [.int .i64 0]⟩),
  (44, ⟨.slice 5 1 1 [.int .u8 0], 1, false, [.nils]⟩),
  (55, ⟨.struct [(0, 1, false), (1, 1, false)], 2, true, [.int .i64 0, .nils]⟩),
  (69, ⟨.int .u64, 1, false, [.int .u64 0]⟩),
  (4, ⟨.bool, 1, false, [.bool false]⟩),
  (73, ⟨.struct [(0, 1, false), (1, 1, false)], 2, true, [.nils, .int .i64 0]⟩),
  (35, ⟨.slice 22 1 24 [.nils], 1, false, [.nils]⟩),
  (5, ⟨.int .u8, 1, false, [.int .u8 0]⟩),
  (46, ⟨.struct [(0, 1, false)], 1, true, [.nils]⟩),
  (65, ⟨.array 2 3 1 false, 2, true, [.int .i64 0, .int .i64 0]⟩),
  (48, ⟨.ptr 73, 1, false, [.nilp]⟩),
  (59, ⟨.slice 58 1 8 [.nilf], 1, false, [.nils]⟩),
  (51, ⟨.slice 4 1 1 [.bool false], 1, false, [.nils]⟩),
  (66, ⟨.slice 65 2 16 [.int .i64 0, .int .i64 0], 1, false, [.nils]⟩),
  (58, ⟨.func, 1, false, [.nilf]⟩),
  (60, ⟨.func, 1, false, [.nilf]⟩),
  (33, ⟨.func, 1, false, [.nilf]⟩),
  (67, ⟨.ptr 46, 1, false, [.nilp]⟩)]
set_option maxRecDepth 100000 in
theorem tt_ok : TT.ok Try.prog tt = true := by kernel_rfl
theorem mo : Try.prog.follows .mixedOrders = true := by kernel_rfl
theorem dok (N : Nat) : DrawOk Try.prog tt N := drawOk_of tt_ok (by kernel_rfl) N
end Go.Proofs.Ytajmabnnaidhkaa
