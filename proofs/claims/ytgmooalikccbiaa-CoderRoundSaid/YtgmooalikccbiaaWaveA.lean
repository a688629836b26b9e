/- The walks of package wavelet: lines. -/
import Derived.Test.YtgmooalikccbiaaWaveL
namespace Go.Proofs.Ytgmooalikccbiaa
open Go.Fw Go
set_option linter.unusedVariables false
set_option linter.unusedSimpArgs false

def iL (n : Nat) (X : Ln) : List AV := iS .i64 (lnL n X)
@[simp] theorem iL_len (n : Nat) (X : Ln) : (iL n X).length = n := by simp [iL, lnL]
theorem iL_get {n i : Nat} (X : Ln) (h : i < n) : (iL n X)[i]? = some (.int .i64 (X i)) := by
  unfold iL iS
  rw [List.getElem?_map, lnL_get X h]; rfl
theorem iL_one (n : Nat) (X : Ln) : (iL n X).all one = true := one_iS _ _
theorem iL_congr {n : Nat} {X Y : Ln} (h : ∀ c, c < n → X c = Y c) : iL n X = iL n Y := by unfold iL; rw [lnL_congr h]
theorem iL_zero (n : Nat) : (List.replicate n [AV.int .i64 0]).flatten = iL n (fun _ => 0) := by
  apply List.ext_getElem?
  intro i
  have : (List.replicate n [AV.int .i64 0]).flatten = List.replicate n (AV.int .i64 0) := by
    induction n with
    | zero => rfl
    | succ n ih => rw [List.replicate_succ, List.flatten_cons, ih, List.replicate_succ]; rfl
  rw [this]
  by_cases h : i < n
  · rw [iL_get _ h]; simp [h]
  · rw [List.getElem?_eq_none (by simp; omega), List.getElem?_eq_none (by rw [iL_len]; omega)]
theorem iS_wr {a : List Int} {k : Nat} {v : Int} (h : k < a.length) : wrA (iS .i64 a) k [.int .i64 v] = iS .i64 (a.set k v) := by
  unfold wrA
  rw [List.set_eq_take_append_cons_drop, if_pos h]
  simp [iS, List.map_take, List.map_drop]
theorem iL_wr {n c : Nat} (X : Ln) (h : c < n) (v : Int) : wrA (iL n X) c [.int .i64 v] = iL n (fun k => if k = c then v else X k) := by
  unfold iL
  rw [iS_wr (by rw [lnL_len]; exact h), lnL_set X h]

@[simp] theorem wrA_len (l : List AV) (k : Nat) (v : AV) : (wrA l k [v]).length = min k l.length + 1 + (l.length - (k + 1)) := by simp [wrA]; omega

def inB (m : Int) (a : List Int) : Bool := a.all fun x => decide (-m ≤ x ∧ x ≤ m)
theorem inB_iff {m : Int} {a : List Int} : inB m a = true ↔ ∀ x ∈ a, -m ≤ x ∧ x ≤ m := by simp [inB]

end Go.Proofs.Ytgmooalikccbiaa
