/- The types that the walks over this translation meet: a table, and that it tells of them what the translation tells. -/
import Derived.Test.YtlelhddchgipeaaFw24
import Derived.Test.YtlelhddchgipeaaProg
import Derived.KernelRfl
namespace Go.Proofs.Ytlelhddchgipeaa
open Go.Fw
def tt : TT := [
  (3, ⟨.int .i64, 1, false, [.int .i64 0]⟩),
  (24, ⟨.slice 5 1 1 [.int .u8 0], 1, false, [.nils]⟩),
  (22, ⟨.int .u64, 1, false, [.int .u64 0]⟩),
  (47, ⟨.struct [(0, 1, false), (1, 1, false), (2, 1, false), (3, 1, false), (4, 1, false)], 5, true, [.int .i64 0, .int .u64 0, .int .i64 0, .nils, .nils]⟩),
  (33, ⟨.slice 3 1 8 [.int .i64 0], 1, false, [.nils]⟩),
  (42, ⟨.int .i64, 1, false, [.int .i64 0]⟩),
  (39, ⟨.ptr 79, 1, false, [.nilp]⟩),
  (35, ⟨.slice 47 5 72 [.int .i64 0, .int .u64 0, .int .i64 0, .nils, .nils], 1, false, [.nils]⟩),
  (5, ⟨.int .u8, 1, false, [.int .u8 0]⟩),
  (26, ⟨.struct [(0, 1, false)], 1, true, [.nils]⟩),
  (44, ⟨.struct [(0, 1, false), (1, 1, false)], 2, true, [.nils, .int .i64 0]⟩),
  (9, ⟨.str, 1, false, [.str []]⟩),
  (79, ⟨.struct [(0, 1, false), (1, 1, false)], 2, true, [.nils, .int .i64 0]⟩),
  (60, ⟨.ptr 26, 1, false, [.nilp]⟩),
  (41, ⟨.ptr 44, 1, false, [.nilp]⟩),
  (4, ⟨.bool, 1, false, [.bool false]⟩),
  (38, ⟨.slice 24 1 24 [.nils], 1, false, [.nils]⟩),
  (81, ⟨.func, 1, false, [.nilf]⟩),
  (72, ⟨.func, 1, false, [.nilf]⟩)]
set_option maxRecDepth 100000 in
theorem tt_ok : TT.ok Try.prog tt = true := by kernel_rfl
theorem dok (N : Nat) : DrawOk Try.prog tt N := drawOk_of tt_ok (by kernel_rfl) N
end Go.Proofs.Ytlelhddchgipeaa
