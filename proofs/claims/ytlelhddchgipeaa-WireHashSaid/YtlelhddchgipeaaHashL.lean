/- Plain law: words and mixing, as numbers. -/
import Derived.Test.YtlelhddchgipeaaFw20
namespace Go.Proofs.Ytlelhddchgipeaa
open Go.Fw Go
set_option linter.unusedVariables false

theorem wrap_u64 (x : Int) : IntKind.u64.wrap x = x % 18446744073709551616 := rfl

def mixI (a b : Int) : Int := bitsA .xor .u64 (IntKind.u64.wrap (bitsA .xor .u64 a b * 11400714819323198485)) ((IntKind.u64.wrap (bitsA .xor .u64 a b * 11400714819323198485)).fdiv 4294967296)

def wordOf : List UInt8 → Int
  | [] => 0
  | b :: r => b.toNat + 256 * wordOf r

theorem wordOf_range : ∀ l : List UInt8, 0 ≤ wordOf l ∧ wordOf l < 256 ^ l.length
  | [] => by simp [wordOf]
  | b :: r => by
    have := wordOf_range r
    have hb := b.toNat_lt
    simp only [wordOf, List.length_cons, Int.pow_succ]
    omega

theorem wordOf_snoc : ∀ (l : List UInt8) (b : UInt8), wordOf (l ++ [b]) = wordOf l + b.toNat * 256 ^ l.length
  | [], b => by simp [wordOf]
  | c :: r, b => by
    have := wordOf_snoc r b
    simp only [List.cons_append, wordOf, this, List.length_cons, Int.pow_succ]
    rw [Int.mul_add, Int.add_assoc]
    congr 2
    generalize (256 : Int) ^ r.length = q
    rw [Int.mul_comm q 256, ← Int.mul_assoc, ← Int.mul_assoc, Int.mul_comm 256 (b.toNat : Int)]

theorem take_snoc {l : List UInt8} {d : Nat} (h : d < l.length) : l.take (d + 1) = l.take d ++ [l.getD d 0] := by
  rw [List.take_add_one]; simp [h]

theorem wordOf_take {l : List UInt8} {d : Nat} (h : d < l.length) : wordOf (l.take (d + 1)) = wordOf (l.take d) + (l.getD d 0).toNat * 256 ^ d := by
  rw [take_snoc h, wordOf_snoc, List.length_take, Nat.min_eq_left (by omega)]

def wordsI (bs : List UInt8) : List Int := (List.range ((bs.length + 7) / 8)).map fun j => wordOf ((bs.drop (8 * j)).take 8)

theorem wordsI_length (s : List UInt8) : (wordsI s).length = (s.length + 7) / 8 := by simp [wordsI]
theorem wordsI_get {s : List UInt8} {j : Nat} (h : 8 * j < s.length) : (wordsI s).getD j 0 = wordOf ((s.drop (8 * j)).take 8) := by
  have : j < (s.length + 7) / 8 := by omega
  simp [wordsI, this]
theorem wordsI_range (s : List UInt8) : ∀ x ∈ wordsI s, 0 ≤ x ∧ x < 18446744073709551616 := by
  intro x hx
  simp only [wordsI, List.mem_map] at hx
  obtain ⟨j, _, rfl⟩ := hx
  have h := wordOf_range ((s.drop (8 * j)).take 8)
  refine ⟨h.1, Int.lt_of_lt_of_le h.2 ?_⟩
  have h8 : ((s.drop (8 * j)).take 8).length ≤ 8 := by simp; omega
  generalize ((s.drop (8 * j)).take 8).length = n at h8
  have : ∀ n, n ≤ 8 → (256 : Int) ^ n ≤ 18446744073709551616 := by decide
  exact this n h8
theorem wordsI_take {s : List UInt8} {j : Nat} (h : 8 * j < s.length) : (wordsI s).take (j + 1) = (wordsI s).take j ++ [wordOf ((s.drop (8 * j)).take 8)] := by
  have : j < (wordsI s).length := by rw [wordsI_length]; omega
  rw [List.take_add_one, ← wordsI_get h]; simp [this]

theorem wrap_u8 (b : UInt8) : IntKind.u64.wrap (b.toNat : Int) = b.toNat := by
  have := b.toNat_lt
  rw [wrap_u64]; omega

theorem or_word {x : Int} {b d : Nat} (hx : 0 ≤ x) (hlt : x < 256 ^ d) (hd : d < 8) (hb : b < 256) :
    bitsA .or .u64 x (IntKind.u64.wrap ((b : Int) * 2 ^ (min (8 * d) 64))) = x + b * 256 ^ d := by
  obtain ⟨n, rfl⟩ := Int.eq_ofNat_of_zero_le hx
  have hn : n < 2 ^ (8 * d) := by
    have h2 : (256 : Int) ^ d = ((2 ^ (8 * d) : Nat) : Int) := by rw [Nat.pow_mul]; simp
    rw [h2] at hlt; exact Int.ofNat_lt.1 hlt
  have h2 : (256 : Int) ^ d = ((2 ^ (8 * d) : Nat) : Int) := by rw [Nat.pow_mul]; simp
  have hmin : min (8 * d) 64 = 8 * d := by omega
  have hb2 : b * 2 ^ (8 * d) + 2 ^ (8 * d) ≤ 2 ^ 64 := by
    have h3 : b * 2 ^ (8 * d) + 2 ^ (8 * d) = (b + 1) * 2 ^ (8 * d) := by rw [Nat.add_mul, Nat.one_mul]
    have h4 : (b + 1) * 2 ^ (8 * d) ≤ 256 * 2 ^ (8 * d) := Nat.mul_le_mul_right _ (by omega)
    have h5 : 256 * 2 ^ (8 * d) = 2 ^ (8 + 8 * d) := by rw [Nat.pow_add]
    have h6 : 2 ^ (8 + 8 * d) ≤ 2 ^ 64 := Nat.pow_le_pow_right (by omega) (by omega)
    omega
  have e1 : ((b : Int) * 2 ^ (8 * d)) = ((b * 2 ^ (8 * d) : Nat) : Int) := by simp
  have hnn : n < 2 ^ 64 := by omega
  rw [hmin, e1, h2, wrap_u64]
  unfold bitsA
  simp only
  have ha : (BitVec.ofInt IntKind.u64.bits (n : Int)).toNat = n := by
    show (BitVec.ofInt 64 (n : Int)).toNat = n
    rw [BitVec.toNat_ofInt]; omega
  have hc : (BitVec.ofInt IntKind.u64.bits (((b * 2 ^ (8 * d) : Nat) : Int) % 18446744073709551616)).toNat = b * 2 ^ (8 * d) := by
    show (BitVec.ofInt 64 _).toNat = _
    rw [BitVec.toNat_ofInt]; omega
  rw [BitVec.toNat_or, ha, hc, Nat.or_comm, Nat.mul_comm b, ← Nat.two_pow_add_eq_or_of_lt hn, wrap_u64, Nat.mul_comm _ b]
  rw [← Int.natCast_mul, ← Int.natCast_add]
  omega
end Go.Proofs.Ytlelhddchgipeaa
