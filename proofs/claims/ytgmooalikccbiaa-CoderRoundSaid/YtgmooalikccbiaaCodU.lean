/- Chapter 25: what the laws share. -/
import Derived.Test.YtgmooalikccbiaaCodT
namespace Go.Proofs.Ytgmooalikccbiaa
open Go.Fw Go
set_option linter.unusedVariables false
set_option linter.unusedSimpArgs false

theorem enc_fine {n m : Nat} (hn : 1 ≤ n ∧ n ≤ 1024) (hm : 1 ≤ m ∧ m ≤ 256) (c : Int) {sy : List Int} (hs : ∀ x ∈ sy, 0 ≤ x ∧ x < (n : Int)) (hl : sy.length ≤ 65536) :
    ∃ E, encSt n m sy (ctxs (ctxV m c) sy) sy.length = some E ∧ encS n m sy (ctxs (ctxV m c) sy) = (codeS E.σ, 0) := by
  obtain ⟨E, hE⟩ := encSt_some (n := n) (many := m) (sy := sy) (cx := ctxs (ctxV m c) sy) (m := sy.length) (fun i hi => by
    refine ⟨?_, ?_⟩
    · have : sy.getD i 0 = sy[i] := by rw [List.getD_eq_getElem?_getD, List.getElem?_eq_getElem hi]; rfl
      rw [this]; exact hs _ (List.getElem_mem hi)
    · rw [ctxs_getD _ _ hi]; exact ctxV_in hm.1 _ _ _) sy.length (Nat.le_refl _)
  refine ⟨E, hE, ?_⟩
  unfold encS SizesP
  rw [if_pos ⟨by omega, by simp⟩, if_pos hl, Int.toNat_natCast, Int.toNat_natCast, hE]
theorem ctxs_I64 {m : Nat} (hm : 1 ≤ m ∧ m ≤ 256) (c : Int) (sy : List Int) : I64L (ctxs (ctxV m c) sy) := fun x hx => by
  obtain ⟨i, hi, rfl⟩ := List.mem_map.1 hx
  have := ctxV_in hm.1 c i (sy.take i)
  have h1 := this.1
  have h2 := this.2
  omega
end Go.Proofs.Ytgmooalikccbiaa
