/- Rows that are changed in one place; copies that stay rows. -/
import Derived.Test.YtojeijbhfilcnaaHashN
namespace Go.Proofs.Ytojeijbhfilcnaa
open Go.Fw Go
set_option linter.unusedVariables false
set_option linter.unusedSimpArgs false

theorem wr_iS {K : IntKind} {a : List Int} {k : Nat} {v : Int} (h : k < a.length) : wrA (iS K a) k [.int K v] = iS K (a.set k v) := by
  unfold wrA
  rw [List.set_eq_take_append_cons_drop, if_pos h]
  simp [iS, List.map_take, List.map_drop]

theorem wr_u8s {a : List UInt8} {k : Nat} {v : UInt8} (h : k < a.length) : wrA (u8s a) k [.int .u8 v.toNat] = u8s (a.set k v) := by
  unfold wrA
  rw [List.set_eq_take_append_cons_drop, if_pos h]
  simp [u8s, List.map_take, List.map_drop]

theorem u8_of {x : Int} (h : 0 ≤ x ∧ x ≤ 255) : ∃ w : UInt8, x = w.toNat := by
  refine ⟨UInt8.ofNat x.toNat, ?_⟩
  rw [UInt8.toNat_ofNat']
  omega

theorem xor_u8 (a b : UInt8) : bitsA .xor .u8 a.toNat b.toNat = ((a ^^^ b).toNat : Int) := by
  show IntKind.u8.wrap ((BitVec.ofInt 8 (a.toNat : Int) ^^^ BitVec.ofInt 8 (b.toNat : Int)).toNat : Int) = _
  have ha := a.toNat_lt
  have hb := b.toNat_lt
  have e1 : (BitVec.ofInt 8 (a.toNat : Int)).toNat = a.toNat := by rw [BitVec.toNat_ofInt]; omega
  have e2 : (BitVec.ofInt 8 (b.toNat : Int)).toNat = b.toNat := by rw [BitVec.toNat_ofInt]; omega
  have hlt := (a ^^^ b).toNat_lt
  rw [BitVec.toNat_xor, e1, e2, ← UInt8.toNat_xor]
  have : ∀ x : Int, IntKind.u8.wrap x = x % 256 := fun _ => rfl
  rw [this]; omega

theorem ints_all (l : List Int) (n : Nat) (h1 : n ≤ 1000) (hl : l.length ≤ n) (H : AH) : ACall Try.prog 12 [.cs (iS .i64 l) l.length, .int .i64 n] H (fun y H' => ∃ r, H r = none ∧ y = .sl r 0 1 0 l.length none ∧ H' = H.set r (.row (iS .i64 l) 0)) :=
  (ints_c l n h1 H).mono fun y H' ⟨r, hr, hy, hH⟩ => ⟨r, hr, by rw [hy, Nat.min_eq_left hl], by rw [hH, List.take_of_length_le hl]⟩

theorem ints_s (l : List Int) (n : Nat) (h1 : n ≤ 1000) (H : AH) : ACall Try.prog 12 [.cs (iS .i64 l) l.length, .int .i64 n] H (fun y H' => ∃ r, H r = none ∧ y = .sl r 0 1 0 (l.take n).length none ∧ H' = H.set r (.row (iS .i64 (l.take n)) 0)) :=
  (ints_c l n h1 H).mono fun y H' ⟨r, hr, hy, hH⟩ => ⟨r, hr, by rw [hy, List.length_take, Nat.min_comm], hH⟩

theorem few_all (l : List UInt8) (n : Nat) (h1 : n ≤ 1000) (hl : l.length ≤ n) (H : AH) : ACall Try.prog 16 [.cs (u8s l) l.length, .int .i64 n] H (fun y H' => ∃ r, H r = none ∧ y = .sl r 0 1 0 l.length none ∧ H' = H.set r (.row (u8s l) 0)) :=
  (few_c l n h1 H).mono fun y H' ⟨r, hr, hy, hH⟩ => ⟨r, hr, by rw [hy, Nat.min_eq_left hl], by rw [hH, List.take_of_length_le hl]⟩

theorem few_s (l : List UInt8) (n : Nat) (h1 : n ≤ 1000) (H : AH) : ACall Try.prog 16 [.cs (u8s l) l.length, .int .i64 n] H (fun y H' => ∃ r, H r = none ∧ y = .sl r 0 1 0 (l.take n).length none ∧ H' = H.set r (.row (u8s (l.take n)) 0)) :=
  (few_c l n h1 H).mono fun y H' ⟨r, hr, hy, hH⟩ => ⟨r, hr, by rw [hy, List.length_take, Nat.min_comm], hH⟩

theorem rwords_k (bs : List UInt8) (hb : bs.length ≤ 1000000) (H : AH) : ACall Try.prog 23 [.cs (u8s bs) bs.length] H (fun y H' => y = .cs (iS .u64 (wordsI bs)) (wordsI bs).length ∧ H' = H) :=
  ACall.cold (es := 1) (by simp) ((rwords_c bs hb H).mono fun y H' ⟨r, hr, v, hy, hH⟩ => ⟨r, hr, v, by rw [hy, wordsI_length], hH⟩)
end Go.Proofs.Ytojeijbhfilcnaa
