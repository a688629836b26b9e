/- The types that the walks over this translation meet: a table, and that it tells of them what the translation tells. -/
import Derived.Test.YtojeijbhfilcnaaFw21
import Derived.Test.YtojeijbhfilcnaaProg
import Derived.KernelRfl
namespace Go.Proofs.Ytojeijbhfilcnaa
open Go.Fw
def tt : TT := [
  (3, ⟨.int .i64, 1, false, [.int .i64 0]⟩),
  (25, ⟨.int .u64, 1, false, [.int .u64 0]⟩),
  (22, ⟨.slice 3 1 8 [.int .i64 0], 1, false, [.nils]⟩),
  (30, ⟨.slice 5 1 1 [.int .u8 0], 1, false, [.nils]⟩),
  (9, ⟨.str, 1, false, [.str []]⟩),
  (5, ⟨.int .u8, 1, false, [.int .u8 0]⟩),
  (40, ⟨.slice 25 1 8 [.int .u64 0], 1, false, [.nils]⟩),
  (4, ⟨.bool, 1, false, [.bool false]⟩)]
set_option maxRecDepth 100000 in
theorem tt_ok : TT.ok Try.prog tt = true := by kernel_rfl
theorem dok (N : Nat) : DrawOk Try.prog tt N := drawOk_of tt_ok (by kernel_rfl) N
end Go.Proofs.Ytojeijbhfilcnaa
