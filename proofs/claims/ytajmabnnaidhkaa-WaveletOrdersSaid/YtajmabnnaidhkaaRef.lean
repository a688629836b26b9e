/- The walks of the reference's helpers: Around, Bound, Short, Few, Ints, SameInts, SameBytes; rows changed in one place. -/
import Derived.Test.YtajmabnnaidhkaaTT
namespace Go.Proofs.Ytajmabnnaidhkaa
open Go.Fw Go
set_option linter.unusedVariables false
set_option linter.unusedSimpArgs false

theorem wr_iS {K : IntKind} {a : List Int} {k : Nat} {v : Int} (h : k < a.length) : wrA (iS K a) k [.int K v] = iS K (a.set k v) := by
  unfold wrA
  rw [List.set_eq_take_append_cons_drop, if_pos h]
  simp [iS, List.map_take, List.map_drop]

theorem wr_u8s {a : List UInt8} {k : Nat} {v : UInt8} (h : k < a.length) : wrA (u8s a) k [.int .u8 v.toNat] = u8s (a.set k v) := by
  unfold wrA
  rw [List.set_eq_take_append_cons_drop, if_pos h]
  simp [u8s, List.map_take, List.map_drop]

theorem u8_of {x : Int} (h : 0 ≤ x ∧ x ≤ 255) : ∃ w : UInt8, x = w.toNat := by
  refine ⟨UInt8.ofNat x.toNat, ?_⟩
  rw [UInt8.toNat_ofNat']
  omega

end Go.Proofs.Ytajmabnnaidhkaa
