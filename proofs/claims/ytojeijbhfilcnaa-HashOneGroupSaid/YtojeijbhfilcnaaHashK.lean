/- The helpers' contracts, told for laws. -/
import Derived.Test.YtojeijbhfilcnaaHashR
namespace Go.Proofs.Ytojeijbhfilcnaa
open Go.Fw Go
set_option linter.unusedVariables false
set_option linter.unusedSimpArgs false

theorem ints_k (l : List Int) (n : Nat) (h1 : n ≤ 1000) (H : AH) : ACall Try.prog 12 [.cs (iS .i64 l) l.length, .int .i64 n] H (fun y H' => y = .cs (iS .i64 (l.take n)) (l.take n).length ∧ H' = H) :=
  ACall.cold (es := 1) (by simp) ((ints_c l n h1 H).mono fun y H' ⟨r, hr, hy, hH⟩ => ⟨r, hr, 0, by rw [hy, List.length_take, Nat.min_comm], hH⟩)

theorem few_k (l : List UInt8) (n : Nat) (h1 : n ≤ 1000) (H : AH) : ACall Try.prog 16 [.cs (u8s l) l.length, .int .i64 n] H (fun y H' => y = .cs (u8s (l.take n)) (l.take n).length ∧ H' = H) :=
  ACall.cold (es := 1) (by simp) ((few_c l n h1 H).mono fun y H' ⟨r, hr, hy, hH⟩ => ⟨r, hr, 0, by rw [hy, List.length_take, Nat.min_comm], hH⟩)

theorem lives_c (H : AH) : ACall Try.prog 15 [] H (fun y H' => y = .bool true ∧ H' = H) :=
  lives_of (sumI [97] [5]) (sumI [97] [6]) (bytesI [97] [1, 2]) (sumI [97] [513, 2]) (pairI 1 2) (pairI 1 3)
    (fun H => sum_c [97] (Nat.le_of_ble_eq_true rfl) [5] (Nat.le_of_ble_eq_true rfl) H) (fun H => sum_c [97] (Nat.le_of_ble_eq_true rfl) [6] (Nat.le_of_ble_eq_true rfl) H)
    (fun H => bytes_c [97] [1, 2] (Nat.le_of_ble_eq_true rfl) (Nat.le_of_ble_eq_true rfl) H) (fun H => sum_c [97] (Nat.le_of_ble_eq_true rfl) [513, 2] (Nat.le_of_ble_eq_true rfl) H)
    (fun H => pair_c 1 2 H) (fun H => pair_c 1 3 H) (by decide +kernel) (by decide +kernel) (by decide +kernel) H
end Go.Proofs.Ytojeijbhfilcnaa
