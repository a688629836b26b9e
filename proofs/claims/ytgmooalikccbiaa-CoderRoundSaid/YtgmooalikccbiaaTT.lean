/- The types that the walks over this translation meet: a table, and that it tells of them what the translation tells. -/
import Derived.Test.YtgmooalikccbiaaFw29
import Derived.Test.YtgmooalikccbiaaProg
import Derived.KernelRfl
namespace Go.Proofs.Ytgmooalikccbiaa
open Go.Fw
def tt : TT := [
  (3, ⟨.int .i64, 1, false, [.int .i64 0]⟩),
  (22, ⟨.slice 3 1 8 [.int .i64 0], 1, false, [.nils]⟩),
  (90, ⟨.struct [(0, 1, false), (1, 1, false)], 2, true, [.bool false, .nils]⟩),
  (78, ⟨.int .u64, 1, false, [.int .u64 0]⟩),
  (29, ⟨.slice 5 1 1 [.int .u8 0], 1, false, [.nils]⟩),
  (30, ⟨.int .i64, 1, false, [.int .i64 0]⟩),
  (4, ⟨.bool, 1, false, [.bool false]⟩),
  (27, ⟨.slice 22 1 24 [.nils], 1, false, [.nils]⟩),
  (98, ⟨.struct [(0, 1, false), (1, 1, false)], 2, true, [.int .u64 0, .int .u64 0]⟩),
  (5, ⟨.int .u8, 1, false, [.int .u8 0]⟩),
  (100, ⟨.struct [(0, 2, true), (2, 1, false)], 3, true, [.int .u64 0, .int .u64 0, .nils]⟩),
  (94, ⟨.struct [(0, 1, false), (1, 1, false)], 2, true, [.nils, .int .i64 0]⟩),
  (49, ⟨.ptr 94, 1, false, [.nilp]⟩),
  (109, ⟨.struct [(0, 2, true), (2, 1, false)], 3, true, [.int .u64 0, .int .u64 0, .nilf]⟩),
  (57, ⟨.struct [(0, 1, false)], 1, true, [.nils]⟩),
  (102, ⟨.struct [(0, 2, true), (2, 1, false), (3, 1, false)], 4, true, [.bool false, .nils, .int .i64 0, .int .i64 0]⟩),
  (28, ⟨.slice 27 1 24 [.nils], 1, false, [.nils]⟩),
  (44, ⟨.slice 29 1 24 [.nils], 1, false, [.nils]⟩),
  (87, ⟨.int .u64, 1, false, [.int .u64 0]⟩),
  (123, ⟨.int .u32, 1, false, [.int .u32 0]⟩),
  (52, ⟨.ptr 57, 1, false, [.nilp]⟩),
  (66, ⟨.slice 49 1 8 [.nilp], 1, false, [.nils]⟩),
  (61, ⟨.func, 1, false, [.nilf]⟩),
  (69, ⟨.ptr 100, 1, false, [.nilp]⟩),
  (75, ⟨.ptr 102, 1, false, [.nilp]⟩),
  (82, ⟨.ptr 109, 1, false, [.nilp]⟩),
  (73, ⟨.slice 52 1 8 [.nilp], 1, false, [.nils]⟩),
  (107, ⟨.func, 1, false, [.nilf]⟩),
  (9, ⟨.str, 1, false, [.str []]⟩)]
set_option maxRecDepth 100000 in
theorem tt_ok : TT.ok Try.prog tt = true := by kernel_rfl
theorem mo : Try.prog.follows .mixedOrders = true := by kernel_rfl
theorem dok (N : Nat) : DrawOk Try.prog tt N := drawOk_of tt_ok (by kernel_rfl) N
end Go.Proofs.Ytgmooalikccbiaa
