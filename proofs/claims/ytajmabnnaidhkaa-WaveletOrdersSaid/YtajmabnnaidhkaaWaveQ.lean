/- The plain law of the wavelet: what one value reaches. -/
import Derived.Test.YtajmabnnaidhkaaWaveN
namespace Go.Proofs.Ytajmabnnaidhkaa
open Go.Fw Go
set_option linter.unusedVariables false
set_option linter.unusedSimpArgs false

def lev (m : Nat) : Nat := if m < 1 then 0 else if m < 2 then 1 else if m < 4 then 2 else if m < 8 then 3 else if m < 16 then 4 else 5
def blk (r c : Nat) : Nat := if lev (max r c) = 0 then 0 else if r < 2 ^ (lev (max r c) - 1) then 3 * lev (max r c) - 2 else if c < 2 ^ (lev (max r c) - 1) then 3 * lev (max r c) - 1 else 3 * lev (max r c)

theorem lev_at {k m : Nat} (hk : k ≤ 3) (h1 : 2 ^ k ≤ m) (h2 : m < 2 ^ (k + 1)) : lev m = k + 1 := by
  unfold lev
  rcases (show k = 0 ∨ k = 1 ∨ k = 2 ∨ k = 3 by omega) with rfl | rfl | rfl | rfl <;> simp at h1 h2 <;> (repeat' split) <;> omega
theorem lev_le {k m : Nat} (hk : k ≤ 4) (h : m < 2 ^ k) : lev m ≤ k := by
  unfold lev
  rcases (show k = 0 ∨ k = 1 ∨ k = 2 ∨ k = 3 ∨ k = 4 by omega) with rfl | rfl | rfl | rfl | rfl <;> simp at h <;> (repeat' split) <;> omega
theorem blk_le {k r c : Nat} (hk : k ≤ 4) (hr : r < 2 ^ k) (hc : c < 2 ^ k) : blk r c ≤ 3 * k := by
  have := lev_le hk (show max r c < 2 ^ k by omega)
  unfold blk
  (repeat' split) <;> omega
theorem blk_out {k r c : Nat} (hk : k ≤ 3) (hr : r < 2 ^ (k + 1)) (hc : c < 2 ^ (k + 1)) (h : ¬ (r < 2 ^ k ∧ c < 2 ^ k)) : blk r c = if r < 2 ^ k then 3 * k + 1 else if c < 2 ^ k then 3 * k + 2 else 3 * k + 3 := by
  have := lev_at hk (show 2 ^ k ≤ max r c by omega) (by omega)
  unfold blk
  rw [this, if_neg (by omega), show k + 1 - 1 = k by omega]
  (repeat' split) <;> omega

theorem spl_diff {h : Nat} {x y : Ln} {c0 : Nat} (hxy : ∀ c, c < 2 * h → c ≠ c0 → x c = y c) (c : Nat) (hc : c < 2 * h) (hd : spl (2 * h) x c ≠ spl (2 * h) y c) : c = c0 / 2 ∨ c = h + c0 / 2 := by
  have e : 2 * h / 2 = h := by omega
  unfold spl at hd
  rw [e] at hd
  by_cases h1 : c < h
  · rw [if_pos h1, if_pos h1] at hd
    by_cases a1 : 2 * c = c0
    · left; omega
    · by_cases a2 : 2 * c + 1 = c0
      · left; omega
      · rw [hxy _ (by omega) a1, hxy _ (by omega) a2] at hd
        exact absurd rfl hd
  · rw [if_neg h1, if_neg h1] at hd
    by_cases a1 : 2 * (c - h) = c0
    · right; omega
    · by_cases a2 : 2 * (c - h) + 1 = c0
      · right; omega
      · rw [hxy _ (by omega) a1, hxy _ (by omega) a2] at hd
        exact absurd rfl hd

theorem spl_cong {h : Nat} {x y : Ln} (hxy : ∀ c, c < 2 * h → x c = y c) (c : Nat) (hc : c < 2 * h) : spl (2 * h) x c = spl (2 * h) y c := by
  unfold spl
  split
  · rw [hxy _ (by omega), hxy _ (by omega)]
  · rw [hxy _ (by omega), hxy _ (by omega)]

theorem step_diff {h : Nat} {M N : Mat} {r0 c0 : Nat} (hMN : ∀ r c, r < 2 * h → c < 2 * h → ¬ (r = r0 ∧ c = c0) → M r c = N r c) (r c : Nat) (hr : r < 2 * h) (hc : c < 2 * h)
    (hd : colsM spl (2 * h) (rowsM spl (2 * h) M) r c ≠ colsM spl (2 * h) (rowsM spl (2 * h) N) r c) : (r = r0 / 2 ∨ r = h + r0 / 2) ∧ (c = c0 / 2 ∨ c = h + c0 / 2) := by
  have h1 : ∀ r c, r < 2 * h → c < 2 * h → rowsM spl (2 * h) M r c ≠ rowsM spl (2 * h) N r c → r = r0 ∧ (c = c0 / 2 ∨ c = h + c0 / 2) := fun r c hr hc hd => by
    unfold rowsM at hd
    rw [if_pos ⟨hr, hc⟩, if_pos ⟨hr, hc⟩] at hd
    by_cases hrr : r = r0
    · exact ⟨hrr, spl_diff (fun k hk hne => hMN r k hr hk (fun h => hne h.2)) c hc hd⟩
    · exact absurd (spl_cong (fun k hk => hMN r k hr hk (fun h => hrr h.1)) c hc) hd
  generalize rowsM spl (2 * h) M = M1 at *
  generalize rowsM spl (2 * h) N = N1 at *
  unfold colsM at hd
  rw [if_pos ⟨hr, hc⟩, if_pos ⟨hr, hc⟩] at hd
  by_cases hcc : c = c0 / 2 ∨ c = h + c0 / 2
  · refine ⟨spl_diff (x := fun k => M1 k c) (y := fun k => N1 k c) (fun k hk hne => ?_) r hr hd, hcc⟩
    by_cases hx : M1 k c = N1 k c
    · exact hx
    · exact absurd (h1 k c hk hc hx).1 hne
  · refine absurd (spl_cong (x := fun k => M1 k c) (y := fun k => N1 k c) (fun k hk => ?_) r hr) hd
    by_cases hx : M1 k c = N1 k c
    · exact hx
    · exact absurd (h1 k c hk hc hx).2 hcc

theorem fwd_local : ∀ (k : Nat) (M N : Mat) (r0 c0 : Nat), k ≤ 4 → r0 < 2 ^ k → c0 < 2 ^ k → (∀ r c, r < 2 ^ k → c < 2 ^ k → ¬ (r = r0 ∧ c = c0) → M r c = N r c) →
    ∀ r c r' c', r < 2 ^ k → c < 2 ^ k → r' < 2 ^ k → c' < 2 ^ k → fwd k M r c ≠ fwd k N r c → fwd k M r' c' ≠ fwd k N r' c' → blk r c = blk r' c' → r = r' ∧ c = c'
  | 0, M, N, r0, c0, _, _, _, _, r, c, r', c', hr, hc, hr', hc', _, _, _ => by
    have h1 : r < 1 := hr
    have h2 : c < 1 := hc
    have h3 : r' < 1 := hr'
    have h4 : c' < 1 := hc'
    omega
  | k + 1, M, N, r0, c0, hk, hr0, hc0, hMN, r, c, r', c', hr, hc, hr', hc', hd, hd', hb => by
    have hbo := fun r c hr hc => blk_out (k := k) (r := r) (c := c) (by omega) hr hc
    have hbi := fun r c hr hc => blk_le (k := k) (r := r) (c := c) (by omega) hr hc
    have hfM : ∀ M, fwd (k + 1) M = fwd k (colsM spl (2 ^ (k + 1)) (rowsM spl (2 ^ (k + 1)) M)) := fun _ => rfl
    rw [hfM, hfM] at hd hd'
    rw [pow_half] at hr0 hc0 hMN hr hc hr' hc' hd hd' hbo
    have hst := step_diff hMN
    have ho : ∀ r c, r < 2 * 2 ^ k → c < 2 * 2 ^ k → ¬ (r < 2 ^ k ∧ c < 2 ^ k) → fwd k (colsM spl (2 * 2 ^ k) (rowsM spl (2 * 2 ^ k) M)) r c ≠ fwd k (colsM spl (2 * 2 ^ k) (rowsM spl (2 * 2 ^ k) N)) r c → (r = r0 / 2 ∨ r = 2 ^ k + r0 / 2) ∧ (c = c0 / 2 ∨ c = 2 ^ k + c0 / 2) := fun r c hr hc hn hd => by
      rw [fwd_out k _ r c hn, fwd_out k _ r c hn] at hd
      exact hst r c hr hc hd
    by_cases hin : r < 2 ^ k ∧ c < 2 ^ k
    · have b1 := hbi r c hin.1 hin.2
      by_cases hin' : r' < 2 ^ k ∧ c' < 2 ^ k
      · refine fwd_local k _ _ (r0 / 2) (c0 / 2) (by omega) (by omega) (by omega) (fun r c hr hc hne => ?_) r c r' c' hin.1 hin.2 hin'.1 hin'.2 hd hd' hb
        by_cases hx : colsM spl (2 * 2 ^ k) (rowsM spl (2 * 2 ^ k) M) r c = colsM spl (2 * 2 ^ k) (rowsM spl (2 * 2 ^ k) N) r c
        · exact hx
        · have := hst r c (by omega) (by omega) hx
          exact absurd (by omega) hne
      · have b2 := hbo r' c' hr' hc' hin'
        rw [← hb] at b2
        exfalso
        revert b2
        (repeat' split) <;> omega
    · have b2 := hbo r c hr hc hin
      by_cases hin' : r' < 2 ^ k ∧ c' < 2 ^ k
      · have b1 := hbi r' c' hin'.1 hin'.2
        rw [hb] at b2
        exfalso
        revert b2
        (repeat' split) <;> omega
      · have b3 := hbo r' c' hr' hc' hin'
        have d1 := ho r c hr hc hin hd
        have d2 := ho r' c' hr' hc' hin' hd'
        rw [hb, b3] at b2
        revert b2
        (repeat' split) <;> omega
end Go.Proofs.Ytajmabnnaidhkaa
