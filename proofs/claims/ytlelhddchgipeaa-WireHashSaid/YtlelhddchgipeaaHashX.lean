/- Plain law: mixing is injective in each argument. -/
import Derived.Test.YtlelhddchgipeaaHashL
namespace Go.Proofs.Ytlelhddchgipeaa
open Go.Fw Go
set_option linter.unusedVariables false

def mixB (a b : BitVec 64) : BitVec 64 := ((a ^^^ b) * 11400714819323198485#64) ^^^ (((a ^^^ b) * 11400714819323198485#64) >>> 32)

theorem bitsA_xor (x y : Int) : bitsA .xor .u64 x y = ((BitVec.ofInt 64 x ^^^ BitVec.ofInt 64 y).toNat : Int) := by
  show IntKind.u64.wrap ((BitVec.ofInt 64 x ^^^ BitVec.ofInt 64 y).toNat : Int) = _
  have := (BitVec.ofInt 64 x ^^^ BitVec.ofInt 64 y).isLt
  rw [wrap_u64]; omega

theorem ofInt_toNat (x : BitVec 64) : BitVec.ofInt 64 (x.toNat : Int) = x := by
  apply BitVec.eq_of_toNat_eq
  have := x.isLt
  rw [BitVec.toNat_ofInt]; omega

theorem fdiv_shift (x : BitVec 64) : (x.toNat : Int).fdiv 4294967296 = ((x >>> 32).toNat : Int) := by
  rw [Int.fdiv_eq_ediv_of_nonneg _ (by omega), BitVec.toNat_ushiftRight, Nat.shiftRight_eq_div_pow, Int.natCast_ediv]
  congr 1

theorem mixI_toB (a b : Int) : mixI a b = ((mixB (BitVec.ofInt 64 a) (BitVec.ofInt 64 b)).toNat : Int) := by
  have hm : IntKind.u64.wrap (bitsA .xor .u64 a b * 11400714819323198485) = (((BitVec.ofInt 64 a ^^^ BitVec.ofInt 64 b) * 11400714819323198485#64).toNat : Int) := by
    rw [bitsA_xor, wrap_u64, BitVec.toNat_mul]
    simp
  unfold mixI
  rw [hm]
  have hd : (((BitVec.ofInt 64 a ^^^ BitVec.ofInt 64 b) * 11400714819323198485#64).toNat : Int).fdiv 4294967296 = ((((BitVec.ofInt 64 a ^^^ BitVec.ofInt 64 b) * 11400714819323198485#64) >>> 32).toNat : Int) := by
    exact fdiv_shift _
  rw [hd, bitsA_xor, ofInt_toNat, ofInt_toNat]
  unfold mixB
  exact Eq.refl _

theorem shift_inj {m n : BitVec 64} (h : m ^^^ (m >>> 32) = n ^^^ (n >>> 32)) : m = n := by
  have key : ∀ x : BitVec 64, (x ^^^ (x >>> 32)) ^^^ ((x ^^^ (x >>> 32)) >>> 32) = x := by
    intro x
    rw [BitVec.ushiftRight_xor_distrib, ← BitVec.shiftRight_add]
    rw [show x >>> (32 + 32) = 0#64 from BitVec.ushiftRight_eq_zero (by decide)]
    rw [BitVec.xor_zero, BitVec.xor_assoc, BitVec.xor_self, BitVec.xor_zero]
  rw [← key m, ← key n, h]

theorem mul_inj {m n : BitVec 64} (h : m * 11400714819323198485#64 = n * 11400714819323198485#64) : m = n := by
  have key : ∀ x : BitVec 64, (x * 11400714819323198485#64) * 17428512612931826493#64 = x := by
    intro x
    rw [BitVec.mul_assoc, show (11400714819323198485#64 * 17428512612931826493#64 : BitVec 64) = 1#64 by decide, BitVec.mul_one]
  rw [← key m, ← key n, h]

theorem mixB_left {a b c : BitVec 64} (h : mixB a c = mixB b c) : a = b := by
  have := mul_inj (shift_inj h)
  have h2 := congrArg (· ^^^ c) this
  simpa [BitVec.xor_assoc] using h2

theorem mixB_right {a b c : BitVec 64} (h : mixB c a = mixB c b) : a = b := by
  have := mul_inj (shift_inj h)
  have h2 := congrArg (c ^^^ ·) this
  simpa [← BitVec.xor_assoc] using h2

def InW (x : Int) : Prop := 0 ≤ x ∧ x < 18446744073709551616

theorem ofInt_inj {a b : Int} (ha : InW a) (hb : InW b) (h : BitVec.ofInt 64 a = BitVec.ofInt 64 b) : a = b := by
  have := congrArg BitVec.toNat h
  rw [BitVec.toNat_ofInt, BitVec.toNat_ofInt] at this
  unfold InW at ha hb
  omega

theorem mixI_in (a b : Int) : InW (mixI a b) := by
  rw [mixI_toB]
  have := (mixB (BitVec.ofInt 64 a) (BitVec.ofInt 64 b)).isLt
  unfold InW; omega

theorem mixI_left {a b c : Int} (ha : InW a) (hb : InW b) (h : mixI a c = mixI b c) : a = b := by
  rw [mixI_toB, mixI_toB] at h
  exact ofInt_inj ha hb (mixB_left (BitVec.eq_of_toNat_eq (Int.ofNat.inj h)))

theorem mixI_right {a b c : Int} (ha : InW a) (hb : InW b) (h : mixI c a = mixI c b) : a = b := by
  rw [mixI_toB, mixI_toB] at h
  exact ofInt_inj ha hb (mixB_right (BitVec.eq_of_toNat_eq (Int.ofNat.inj h)))

theorem fold_start : ∀ (l : List Int) {a b : Int}, InW a → InW b → l.foldl mixI a = l.foldl mixI b → a = b
  | [], a, b, _, _, h => h
  | x :: l, a, b, ha, hb, h => mixI_left ha hb (fold_start l (mixI_in _ _) (mixI_in _ _) h)

theorem fold_mid {p q : List Int} {s x y : Int} (hx : InW x) (hy : InW y) (h : (p ++ x :: q).foldl mixI s = (p ++ y :: q).foldl mixI s) : x = y := by
  rw [List.foldl_append, List.foldl_append] at h
  exact mixI_right hx hy (fold_start q (mixI_in _ _) (mixI_in _ _) h)

theorem fold_in : ∀ (l : List Int) {a : Int}, InW a → InW (l.foldl mixI a)
  | [], a, h => h
  | x :: l, a, h => fold_in l (mixI_in _ _)

theorem fold_set {L : List Int} {j : Nat} (hj : j < L.length) {s x : Int} (hx : InW x) (hL : InW (L.getD j 0)) (h : (L.set j x).foldl mixI s = L.foldl mixI s) : x = L.getD j 0 := by
  have e : L = L.take j ++ L.getD j 0 :: L.drop (j + 1) := by
    conv => lhs; rw [← List.take_append_drop j L, List.drop_eq_getElem_cons hj]
    simp [hj]
  rw [List.set_eq_take_append_cons_drop, if_pos hj] at h
  conv at h => rhs; rw [e]
  exact fold_mid hx hL h

theorem wrap_i64_u64 {x : Int} (h : InW x) : IntKind.u64.wrap (IntKind.i64.wrap x) = x := by
  rw [IntKind.wrap_i64, wrap_u64]
  unfold InW at h
  omega

theorem wrap_u64_inj {x y : Int} (hx : -9223372036854775808 ≤ x ∧ x ≤ 9223372036854775807) (hy : -9223372036854775808 ≤ y ∧ y ≤ 9223372036854775807) (h : IntKind.u64.wrap x = IntKind.u64.wrap y) : x = y := by
  rw [wrap_u64, wrap_u64] at h
  omega

theorem wrap_u64_in (x : Int) : InW (IntKind.u64.wrap x) := by
  rw [wrap_u64]; unfold InW; omega

theorem wordOf_inj : ∀ {l m : List UInt8}, l.length = m.length → wordOf l = wordOf m → l = m
  | [], [], _, _ => rfl
  | [], _ :: _, h, _ => by simp at h
  | _ :: _, [], h, _ => by simp at h
  | a :: l, b :: m, hl, h => by
    have ha := a.toNat_lt
    have hb := b.toNat_lt
    simp only [wordOf] at h
    have h1 : a.toNat = b.toNat := by omega
    have h2 : wordOf l = wordOf m := by omega
    rw [UInt8.toNat_inj.1 h1, wordOf_inj (by simpa using hl) h2]
end Go.Proofs.Ytlelhddchgipeaa
