/- The plain law of the wavelet: squares as functions. -/
import Derived.Test.YtgmooalikccbiaaTT
namespace Go.Proofs.Ytgmooalikccbiaa
set_option linter.unusedVariables false
set_option linter.unusedSimpArgs false

abbrev Ln := Nat → Int
abbrev Mat := Nat → Nat → Int

/-- A line, transformed; a line, transformed back. -/
def spl (n : Nat) (x : Ln) (c : Nat) : Int := if c < n / 2 then (x (2 * c) + x (2 * c + 1)) / 2 else x (2 * (c - n / 2)) - x (2 * (c - n / 2) + 1)
def joi (n : Nat) (x : Ln) (c : Nat) : Int := if c % 2 = 0 then x (c / 2) + (x (n / 2 + c / 2) + 1) / 2 else x (c / 2) + (x (n / 2 + c / 2) + 1) / 2 - x (n / 2 + c / 2)

theorem joi_spl (h : Nat) (x y : Ln) (hy : ∀ c, c < 2 * h → y c = spl (2 * h) x c) (c : Nat) (hc : c < 2 * h) : joi (2 * h) y c = x c := by
  have e : 2 * h / 2 = h := by omega
  have h1 : y (c / 2) = (x (2 * (c / 2)) + x (2 * (c / 2) + 1)) / 2 := by
    rw [hy _ (by omega)]; unfold spl; rw [e, if_pos (by omega)]
  have h2 : y (h + c / 2) = x (2 * (c / 2)) - x (2 * (c / 2) + 1) := by
    rw [hy _ (by omega)]; unfold spl; rw [e, if_neg (by omega), show h + c / 2 - h = c / 2 by omega]
  unfold joi
  rw [e, h1, h2]
  split
  · rw [show 2 * (c / 2) = c by omega]; omega
  · rw [show 2 * (c / 2) + 1 = c by omega]; omega

theorem spl_joi (h : Nat) (x y : Ln) (hy : ∀ c, c < 2 * h → y c = joi (2 * h) x c) (c : Nat) (hc : c < 2 * h) : spl (2 * h) y c = x c := by
  have e : 2 * h / 2 = h := by omega
  have h1 : ∀ k, k < h → y (2 * k) = x k + (x (h + k) + 1) / 2 := fun k hk => by
    rw [hy _ (by omega)]; unfold joi; rw [e, if_pos (by omega), show 2 * k / 2 = k by omega]
  have h2 : ∀ k, k < h → y (2 * k + 1) = x k + (x (h + k) + 1) / 2 - x (h + k) := fun k hk => by
    rw [hy _ (by omega)]; unfold joi; rw [e, if_neg (by omega), show (2 * k + 1) / 2 = k by omega]
  unfold spl
  rw [e]
  split
  · rw [h1 c (by omega), h2 c (by omega)]; omega
  · rw [h1 (c - h) (by omega), h2 (c - h) (by omega), show h + (c - h) = c by omega]; omega

def rowsM (f : Nat → Ln → Ln) (n : Nat) (M : Mat) : Mat := fun r c => if r < n ∧ c < n then f n (M r) c else M r c
def colsM (f : Nat → Ln → Ln) (n : Nat) (M : Mat) : Mat := fun r c => if r < n ∧ c < n then f n (fun k => M k c) r else M r c
/-- The first i rows, or columns, of these. -/
def rowsI (f : Nat → Ln → Ln) (n i : Nat) (M : Mat) : Mat := fun r c => if r < i ∧ c < n then f n (M r) c else M r c
def colsI (f : Nat → Ln → Ln) (n i : Nat) (M : Mat) : Mat := fun r c => if r < n ∧ c < i then f n (fun k => M k c) r else M r c

theorem rows_rows {f g : Nat → Ln → Ln} {n : Nat} (h : ∀ x y : Ln, (∀ c, c < n → y c = f n x c) → ∀ c, c < n → g n y c = x c) (M : Mat) : rowsM g n (rowsM f n M) = M := by
  funext r c
  unfold rowsM
  by_cases hr : r < n ∧ c < n
  · rw [if_pos hr]
    exact h (M r) _ (fun c hc => by rw [if_pos ⟨hr.1, hc⟩]) c hr.2
  · rw [if_neg hr, if_neg hr]
theorem cols_cols {f g : Nat → Ln → Ln} {n : Nat} (h : ∀ x y : Ln, (∀ c, c < n → y c = f n x c) → ∀ c, c < n → g n y c = x c) (M : Mat) : colsM g n (colsM f n M) = M := by
  funext r c
  unfold colsM
  by_cases hr : r < n ∧ c < n
  · rw [if_pos hr]
    exact h (fun k => M k c) _ (fun k hk => by rw [if_pos ⟨hk, hr.2⟩]) r hr.1
  · rw [if_neg hr, if_neg hr]

def fwd : Nat → Mat → Mat
  | 0, M => M
  | k + 1, M => fwd k (colsM spl (2 ^ (k + 1)) (rowsM spl (2 ^ (k + 1)) M))
def inv : Nat → Mat → Mat
  | 0, M => M
  | k + 1, M => rowsM joi (2 ^ (k + 1)) (colsM joi (2 ^ (k + 1)) (inv k M))

theorem pow_half (k : Nat) : 2 ^ (k + 1) = 2 * 2 ^ k := by rw [Nat.pow_succ, Nat.mul_comm]

theorem inv_fwd : ∀ (k : Nat) (M : Mat), inv k (fwd k M) = M
  | 0, M => rfl
  | k + 1, M => by
    show rowsM joi _ (colsM joi _ (inv k (fwd k _))) = M
    rw [inv_fwd k, cols_cols (fun x y hy c hc => ?_), rows_rows (fun x y hy c hc => ?_)]
    · rw [pow_half] at *; exact joi_spl _ x y hy c hc
    · rw [pow_half] at *; exact joi_spl _ x y hy c hc
theorem fwd_inv : ∀ (k : Nat) (M : Mat), fwd k (inv k M) = M
  | 0, M => rfl
  | k + 1, M => by
    show fwd k (colsM spl _ (rowsM spl _ (rowsM joi _ (colsM joi _ (inv k M))))) = M
    rw [rows_rows (fun x y hy c hc => ?_), cols_cols (fun x y hy c hc => ?_), fwd_inv k]
    · rw [pow_half] at *; exact spl_joi _ x y hy c hc
    · rw [pow_half] at *; exact spl_joi _ x y hy c hc

/-! ### Bounds -/
def BndM (B : Int) (M : Mat) : Prop := ∀ r c, -B ≤ M r c ∧ M r c ≤ B
theorem spl_bnd {n : Nat} {x : Ln} {B : Int} (h : ∀ c, -B ≤ x c ∧ x c ≤ B) (c : Nat) : -(2 * B) ≤ spl n x c ∧ spl n x c ≤ 2 * B := by
  unfold spl
  split
  · have := h (2 * c); have := h (2 * c + 1); omega
  · have := h (2 * (c - n / 2)); have := h (2 * (c - n / 2) + 1); omega
theorem joi_bnd {n : Nat} {x : Ln} {B : Int} (hB : 1 ≤ B) (h : ∀ c, -B ≤ x c ∧ x c ≤ B) (c : Nat) : -(4 * B) ≤ joi n x c ∧ joi n x c ≤ 4 * B := by
  unfold joi
  have := h (c / 2); have := h (n / 2 + c / 2)
  split <;> omega

/-! ### Squares as lists -/
def toL (s : Nat) (M : Mat) : List Int := (List.range (s * s)).map fun p => M (p / s) (p % s)
def ofL (s : Nat) (a : List Int) : Mat := fun r c => if r < s ∧ c < s then a.getD (r * s + c) 0 else 0
theorem toL_len (s : Nat) (M : Mat) : (toL s M).length = s * s := by simp [toL]

theorem place {s r c : Nat} (hr : r < s) (hc : c < s) : r * s + c < s * s ∧ (r * s + c) / s = r ∧ (r * s + c) % s = c := by
  have hs : 0 < s := by omega
  refine ⟨?_, ?_, ?_⟩
  · have : (r + 1) * s ≤ s * s := Nat.mul_le_mul_right _ hr
    rw [Nat.add_mul] at this; omega
  · rw [Nat.add_comm, Nat.add_mul_div_right _ _ hs, Nat.div_eq_of_lt hc]; omega
  · rw [Nat.add_comm, Nat.add_mul_mod_self_right, Nat.mod_eq_of_lt hc]
theorem place' {s p : Nat} (hp : p < s * s) : p / s < s ∧ p % s < s ∧ p / s * s + p % s = p := by
  have hs : 0 < s := by
    rcases Nat.eq_zero_or_pos s with h | h
    · rw [h] at hp; omega
    · exact h
  exact ⟨Nat.div_lt_of_lt_mul hp, Nat.mod_lt _ hs, Nat.div_add_mod' p s⟩

theorem toL_get {s : Nat} (M : Mat) {r c : Nat} (hr : r < s) (hc : c < s) : (toL s M)[r * s + c]? = some (M r c) := by
  obtain ⟨h1, h2, h3⟩ := place hr hc
  simp [toL, h1, h2, h3]
theorem toL_getD {s : Nat} (M : Mat) {r c : Nat} (hr : r < s) (hc : c < s) : (toL s M).getD (r * s + c) 0 = M r c := by
  rw [List.getD_eq_getElem?_getD, toL_get M hr hc]; rfl
theorem toL_at {s : Nat} (M : Mat) {p : Nat} (hp : p < s * s) : (toL s M)[p]? = some (M (p / s) (p % s)) := by
  simp [toL, hp]
theorem toL_ofL {s : Nat} {a : List Int} (h : a.length = s * s) : toL s (ofL s a) = a := by
  apply List.ext_getElem?
  intro p
  by_cases hp : p < s * s
  · obtain ⟨h1, h2, h3⟩ := place' hp
    rw [toL_at _ hp]
    unfold ofL
    rw [if_pos ⟨h1, h2⟩, h3]
    simp [show p < a.length by omega]
  · rw [List.getElem?_eq_none (by rw [toL_len]; omega), List.getElem?_eq_none (by omega)]
theorem toL_congr {s : Nat} {M N : Mat} (h : ∀ r c, r < s → c < s → M r c = N r c) : toL s M = toL s N := by
  unfold toL
  refine List.map_congr_left fun p hp => ?_
  have hp : p < s * s := by simpa using hp
  obtain ⟨h1, h2, _⟩ := place' hp
  exact h _ _ h1 h2
theorem toL_inj {s : Nat} {M N : Mat} (h : toL s M = toL s N) {r c : Nat} (hr : r < s) (hc : c < s) : M r c = N r c := by
  have h1 := toL_get M hr hc
  rw [h, toL_get N hr hc] at h1
  exact (Option.some.inj h1).symm

def updM (M : Mat) (r c : Nat) (v : Int) : Mat := fun i k => if i = r ∧ k = c then v else M i k
theorem toL_set {s : Nat} (M : Mat) {r c : Nat} (hr : r < s) (hc : c < s) (v : Int) : (toL s M).set (r * s + c) v = toL s (updM M r c v) := by
  apply List.ext_getElem?
  intro p
  by_cases hp : p < s * s
  · obtain ⟨h1, h2, h3⟩ := place' hp
    obtain ⟨k1, k2, k3⟩ := place hr hc
    rw [List.getElem?_set, toL_at _ hp, toL_at _ hp]
    by_cases e : r * s + c = p
    · subst e
      rw [if_pos rfl, k2, k3]
      unfold updM
      simp [toL_len, k1]
    · rw [if_neg e]
      unfold updM
      rw [if_neg (fun h => e (by rw [← h3, h.1, h.2]))]
  · rw [List.getElem?_eq_none (by rw [List.length_set, toL_len]; omega), List.getElem?_eq_none (by rw [toL_len]; omega)]

def lnL (n : Nat) (x : Ln) : List Int := (List.range n).map x
theorem lnL_len (n : Nat) (x : Ln) : (lnL n x).length = n := by simp [lnL]
theorem lnL_getD {n c : Nat} (x : Ln) (h : c < n) : (lnL n x).getD c 0 = x c := by simp [lnL, h]
theorem lnL_get {n c : Nat} (x : Ln) (h : c < n) : (lnL n x)[c]? = some (x c) := by simp [lnL, h]
theorem lnL_congr {n : Nat} {x y : Ln} (h : ∀ c, c < n → x c = y c) : lnL n x = lnL n y := List.map_congr_left fun c hc => h c (by simpa using hc)
theorem lnL_of (a : List Int) : lnL a.length (fun c => a.getD c 0) = a := by
  apply List.ext_getElem?
  intro p
  by_cases hp : p < a.length
  · rw [lnL_get _ hp]; simp [hp]
  · rw [List.getElem?_eq_none (by rw [lnL_len]; omega), List.getElem?_eq_none (by omega)]
theorem lnL_set {n c : Nat} (x : Ln) (h : c < n) (v : Int) : (lnL n x).set c v = lnL n (fun k => if k = c then v else x k) := by
  apply List.ext_getElem?
  intro p
  by_cases hp : p < n
  · rw [List.getElem?_set, lnL_get _ hp, lnL_get _ hp]
    by_cases e : c = p
    · subst e; simp [lnL_len, h]
    · rw [if_neg e, if_neg (fun h => e h.symm)]
  · rw [List.getElem?_eq_none (by rw [List.length_set, lnL_len]; omega), List.getElem?_eq_none (by rw [lnL_len]; omega)]

/-- A row's first numbers. -/
theorem toL_row {s n i : Nat} (M : Mat) (hi : i < s) (hn : n ≤ s) : ((toL s M).drop (i * s)).take n = lnL n (M i) := by
  apply List.ext_getElem?
  intro c
  by_cases hc : c < n
  · rw [List.getElem?_take, if_pos hc, List.getElem?_drop, toL_get M hi (by omega), lnL_get _ hc]
  · rw [List.getElem?_eq_none (by rw [List.length_take]; omega), List.getElem?_eq_none (by rw [lnL_len]; omega)]
theorem toL_put {s n i : Nat} (M : Mat) (x : Ln) (hi : i < s) (hn : n ≤ s) : (toL s M).take (i * s) ++ lnL n x ++ (toL s M).drop (i * s + n) = toL s (fun r c => if r = i ∧ c < n then x c else M r c) := by
  have hin : i * s + n ≤ s * s := by
    have : (i + 1) * s ≤ s * s := Nat.mul_le_mul_right _ hi
    rw [Nat.add_mul] at this; omega
  apply List.ext_getElem?
  intro p
  have hL : ((toL s M).take (i * s) ++ lnL n x).length = i * s + n := by
    rw [List.length_append, List.length_take, toL_len, lnL_len]; omega
  by_cases hp : p < s * s
  · obtain ⟨h1, h2, h3⟩ := place' hp
    rw [toL_at _ hp]
    by_cases c1 : p < i * s
    · rw [List.getElem?_append_left (by omega), List.getElem?_append_left (by rw [List.length_take, toL_len]; omega), List.getElem?_take, if_pos c1, toL_at _ hp]
      have : p / s ≠ i := fun e => by rw [e] at h3; omega
      rw [if_neg (fun h => this h.1)]
    · by_cases c2 : p < i * s + n
      · rw [List.getElem?_append_left (by omega), List.getElem?_append_right (by rw [List.length_take, toL_len]; omega), List.length_take, toL_len, Nat.min_eq_left (by omega), lnL_get _ (by omega)]
        obtain ⟨k1, k2, k3⟩ := place hi (show p - i * s < s by omega)
        rw [show i * s + (p - i * s) = p by omega] at k2 k3
        rw [k2, k3, if_pos ⟨rfl, by omega⟩]
      · rw [List.getElem?_append_right (by omega), hL, List.getElem?_drop, show i * s + n + (p - (i * s + n)) = p by omega, toL_at _ hp]
        have : ¬ (p / s = i ∧ p % s < n) := fun h => by rw [h.1] at h3; omega
        rw [if_neg this]
  · rw [List.getElem?_eq_none (by rw [List.length_append, hL, List.length_drop, toL_len]; omega), List.getElem?_eq_none (by rw [toL_len]; omega)]
end Go.Proofs.Ytgmooalikccbiaa
