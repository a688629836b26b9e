/- The plain law of the wavelet, on: what lies outside, bounds. -/
import Derived.Test.YtajmabnnaidhkaaWaveD
namespace Go.Proofs.Ytajmabnnaidhkaa
open Go.Fw Go
set_option linter.unusedVariables false
set_option linter.unusedSimpArgs false

theorem fwd_out : ∀ (k : Nat) (M : Mat) (r c : Nat), ¬ (r < 2 ^ k ∧ c < 2 ^ k) → fwd k M r c = M r c
  | 0, M, r, c, h => rfl
  | k + 1, M, r, c, h => by
    have h2 : ¬ (r < 2 ^ k ∧ c < 2 ^ k) := fun hh => h (by rw [pow_half]; omega)
    show fwd k _ r c = _
    rw [fwd_out k _ r c h2]
    unfold colsM rowsM
    rw [if_neg h, if_neg h]
theorem inv_out : ∀ (k : Nat) (M : Mat) (r c : Nat), ¬ (r < 2 ^ k ∧ c < 2 ^ k) → inv k M r c = M r c
  | 0, M, r, c, h => rfl
  | k + 1, M, r, c, h => by
    have h2 : ¬ (r < 2 ^ k ∧ c < 2 ^ k) := fun hh => h (by rw [pow_half]; omega)
    show rowsM joi _ (colsM joi _ (inv k M)) r c = _
    unfold rowsM
    rw [if_neg h]
    unfold colsM
    rw [if_neg h, inv_out k M r c h2]
theorem ofL_toL {s : Nat} {M : Mat} (h : ∀ r c, ¬ (r < s ∧ c < s) → M r c = 0) : ofL s (toL s M) = M := by
  funext r c
  unfold ofL
  by_cases hrc : r < s ∧ c < s
  · rw [if_pos hrc, toL_getD M hrc.1 hrc.2]
  · rw [if_neg hrc, h r c hrc]
theorem ofL_out (s : Nat) (a : List Int) (r c : Nat) (h : ¬ (r < s ∧ c < s)) : ofL s a r c = 0 := by unfold ofL; rw [if_neg h]

theorem fwd_ofL (k : Nat) (a : List Int) : ofL (2 ^ k) (toL (2 ^ k) (fwd k (ofL (2 ^ k) a))) = fwd k (ofL (2 ^ k) a) :=
  ofL_toL fun r c h => by rw [fwd_out k _ r c h, ofL_out _ _ _ _ h]
theorem inv_ofL (k : Nat) (a : List Int) : ofL (2 ^ k) (toL (2 ^ k) (inv k (ofL (2 ^ k) a))) = inv k (ofL (2 ^ k) a) :=
  ofL_toL fun r c h => by rw [inv_out k _ r c h, ofL_out _ _ _ _ h]

theorem inB_toL {s : Nat} {M : Mat} {m : Int} (h : BndS s m M) : inB m (toL s M) = true := by
  rw [inB_iff]
  intro x hx
  unfold toL at hx
  obtain ⟨p, hp, rfl⟩ := List.mem_map.1 hx
  have hp : p < s * s := by simpa using hp
  obtain ⟨h1, h2, _⟩ := place' hp
  exact h _ _ h1 h2
theorem inB_lnL {n : Nat} {X : Ln} {m : Int} (h : ∀ c, c < n → -m ≤ X c ∧ X c ≤ m) : inB m (lnL n X) = true := by
  rw [inB_iff]
  intro x hx
  obtain ⟨p, hp, rfl⟩ := List.mem_map.1 hx
  exact h p (by simpa using hp)

theorem spl_lo {h : Nat} {x : Ln} {B : Int} (hx : ∀ c, c < 2 * h → -B ≤ x c ∧ x c ≤ B) (c : Nat) (hc : c < h) : -B ≤ spl (2 * h) x c ∧ spl (2 * h) x c ≤ B := by
  unfold spl
  rw [if_pos (by omega)]
  have := hx (2 * c) (by omega); have := hx (2 * c + 1) (by omega); omega
theorem joi_lo {h : Nat} {x : Ln} {A B : Int} (hx : ∀ c, c < h → -A ≤ x c ∧ x c ≤ A) (hy : ∀ c, c < h → -B ≤ x (h + c) ∧ x (h + c) ≤ B) (c : Nat) (hc : c < 2 * h) : -(A + (B + 1) / 2) ≤ joi (2 * h) x c ∧ joi (2 * h) x c ≤ A + (B + 1) / 2 := by
  have e : 2 * h / 2 = h := by omega
  unfold joi
  rw [e]
  have h1 := hx (c / 2) (by omega); have h2 := hy (c / 2) (by omega)
  split <;> omega

/-- The square of 2^k: at most B; all: at most 4 B. -/
theorem fwd_step {h s : Nat} {B : Int} (hB : 0 ≤ B) (hs : 2 * h ≤ s) {M : Mat} (h1 : ∀ r c, r < 2 * h → c < 2 * h → -B ≤ M r c ∧ M r c ≤ B) :
    (∀ r c, r < h → c < h → -B ≤ colsM spl (2 * h) (rowsM spl (2 * h) M) r c ∧ colsM spl (2 * h) (rowsM spl (2 * h) M) r c ≤ B) ∧
    (∀ r c, r < 2 * h → c < 2 * h → -(4 * B) ≤ colsM spl (2 * h) (rowsM spl (2 * h) M) r c ∧ colsM spl (2 * h) (rowsM spl (2 * h) M) r c ≤ 4 * B) := by
  have r1 : ∀ r c, r < 2 * h → c < h → -B ≤ rowsM spl (2 * h) M r c ∧ rowsM spl (2 * h) M r c ≤ B := fun r c hr hc => by
    unfold rowsM; rw [if_pos (by omega)]; exact spl_lo (fun k hk => h1 r k hr hk) c hc
  have r2 : ∀ r c, r < 2 * h → c < 2 * h → -(2 * B) ≤ rowsM spl (2 * h) M r c ∧ rowsM spl (2 * h) M r c ≤ 2 * B := fun r c hr hc => by
    unfold rowsM; rw [if_pos (by omega)]; exact spl_bd (fun k hk => h1 r k hr hk) c hc
  generalize rowsM spl (2 * h) M = N at *
  refine ⟨fun r c hr hc => ?_, fun r c hr hc => ?_⟩
  · unfold colsM; rw [if_pos (by omega)]; exact spl_lo (x := fun k => N k c) (fun k hk => r1 k c hk hc) r hr
  · unfold colsM; rw [if_pos (by omega)]
    have := spl_bd (x := fun k => N k c) (fun k hk => r2 k c hk hc) r hr
    omega

theorem fwd_bd {s : Nat} {B : Int} (hB : 0 ≤ B) : ∀ (k : Nat) (M : Mat), 2 ^ k ≤ s → (∀ r c, r < 2 ^ k → c < 2 ^ k → -B ≤ M r c ∧ M r c ≤ B) → BndS s (4 * B) M → BndS s (4 * B) (fwd k M)
  | 0, M, _, _, h => h
  | k + 1, M, hs, h1, h2 => by
    rw [pow_half] at hs h1
    obtain ⟨a1, a2⟩ := fwd_step hB hs h1
    show BndS s (4 * B) (fwd k (colsM spl (2 ^ (k + 1)) (rowsM spl (2 ^ (k + 1)) M)))
    rw [pow_half]
    refine fwd_bd hB k _ (by omega) a1 (fun r c hr hc => ?_)
    by_cases hrc : r < 2 * 2 ^ k ∧ c < 2 * 2 ^ k
    · exact a2 r c hrc.1 hrc.2
    · unfold colsM rowsM
      rw [if_neg hrc, if_neg hrc]
      exact h2 r c hr hc

theorem inv_bd {s : Nat} {B : Int} (hB : 8 ≤ B) {M : Mat} (h : BndS s B M) : ∀ (k : Nat), 2 ^ k ≤ s → ∀ r c, r < s → c < s → -((2 * k + 1) * B) ≤ inv k M r c ∧ inv k M r c ≤ (2 * k + 1) * B
  | 0, _, r, c, hr, hc => by have := h r c hr hc; show -((2 * ((0 : Nat) : Int) + 1) * B) ≤ M r c ∧ _; simp; exact this
  | k + 1, hs, r, c, hr, hc => by
    rw [pow_half] at hs
    have ih := inv_bd hB h k (by omega)
    have hA : ((2 * ((k + 1 : Nat) : Int) + 1) * B) = (2 * k + 1) * B + 2 * B := by
      rw [show (2 * ((k + 1 : Nat) : Int) + 1) = (2 * k + 1) + 2 by omega, Int.add_mul]
    rw [hA]
    have hpos : 0 ≤ (2 * (k : Int) + 1) * B := Int.mul_nonneg (by omega) (by omega)
    have hge : B ≤ (2 * (k : Int) + 1) * B := by
      have : 0 ≤ (2 * (k : Int)) * B := Int.mul_nonneg (by omega) (by omega)
      rw [Int.add_mul]; omega
    generalize hAA : (2 * (k : Int) + 1) * B = A at *
    show -(A + 2 * B) ≤ rowsM joi (2 ^ (k + 1)) (colsM joi (2 ^ (k + 1)) (inv k M)) r c ∧ rowsM joi (2 ^ (k + 1)) (colsM joi (2 ^ (k + 1)) (inv k M)) r c ≤ A + 2 * B
    rw [pow_half]
    have out : ∀ r c, r < s → c < s → ¬ (r < 2 ^ k ∧ c < 2 ^ k) → -B ≤ inv k M r c ∧ inv k M r c ≤ B := fun r c hr hc hn => by
      rw [inv_out k M r c hn]; exact h r c hr hc
    generalize inv k M = N at *
    generalize 2 ^ k = P at *
    have c1 : ∀ r c, r < 2 * P → c < P → -(A + (B + 1) / 2) ≤ colsM joi (2 * P) N r c ∧ colsM joi (2 * P) N r c ≤ A + (B + 1) / 2 := fun r c hr hc => by
      unfold colsM; rw [if_pos (by omega)]
      exact joi_lo (x := fun j => N j c) (fun j hj => ih j c (by omega) (by omega)) (fun j hj => out _ _ (by omega) (by omega) (by omega)) r hr
    have c2 : ∀ r c, r < 2 * P → c < P → -(B + (B + 1) / 2) ≤ colsM joi (2 * P) N r (P + c) ∧ colsM joi (2 * P) N r (P + c) ≤ B + (B + 1) / 2 := fun r c hr hc => by
      unfold colsM; rw [if_pos (by omega)]
      exact joi_lo (x := fun j => N j (P + c)) (fun j hj => out _ _ (by omega) (by omega) (by omega)) (fun j hj => out _ _ (by omega) (by omega) (by omega)) r hr
    by_cases hrc : r < 2 * P ∧ c < 2 * P
    · unfold rowsM
      rw [if_pos hrc]
      have := joi_lo (fun j hj => c1 r j hrc.1 hj) (fun j hj => c2 r j hrc.1 hj) c hrc.2
      omega
    · unfold rowsM
      rw [if_neg hrc]
      unfold colsM
      rw [if_neg hrc]
      have := out r c hr hc (by omega)
      omega
end Go.Proofs.Ytajmabnnaidhkaa
