/- Bound; the plain law of equal and of extreme squares. -/
import Derived.Test.YtajmabnnaidhkaaWaveN
import Derived.Test.YtajmabnnaidhkaaWaveK
namespace Go.Proofs.Ytajmabnnaidhkaa
open Go.Fw Go
set_option linter.unusedVariables false
set_option linter.unusedSimpArgs false

set_option maxRecDepth 8000 in
theorem Bound_c (s : Int) (h1 : -9223372036854775808 ≤ s) (h2 : s ≤ 9223372036854775807) (v : Int) (H : AH) :
    ACall Try.prog 15 [.int .i64 s, .int .i64 v] H (fun y H' => y = .tup [.int .i64 (if IsSide s ∧ 0 ≤ v ∧ v ≤ 1099511627776 then (if s = 1 then v else 4 * v) else 0), .int .i64 (if IsSide s then (if 0 ≤ v ∧ v ≤ 1099511627776 then 0 else 5) else 1)] ∧ H' = H) := by
  have ss := fun H => sides_c s h1 h2 H
  by_cases h : IsSide s
  · rw [decide_eq_true h] at ss
    by_cases hv : 0 ≤ v ∧ v ≤ 1099511627776
    · rw [if_pos ⟨h, hv⟩, if_pos h, if_pos hv]
      by_cases h1 : s = 1
      · rw [if_pos h1]
        refine ACall_of tt_ok (dok _) Try.func15 rfl (by decide) rfl ?_
        (repeat' ((conv => whnf); first | refine Then.mk ?_ | left | refine OpsA.cons ?_ | refine OpsA.nil ?_ | refine AWq.seq ?_ | refine AWq.region ?_ | refine AWq.cond ?_ | refine AWq.block ?_ | refine AWq.skip ?_ | refine AWq.ret ?_ | refine AWq.exit ?_ | refine AWq.loop ?_ | refine AWq.rangeFunc ?_ | refine DrawA.consD ?_ | refine DrawA.nil ?_ | refine AWq.draw (by decide +kernel) ?_ | (refine ACall.to (ss _) ?_) | (apply Exists.intro; apply And.intro; exact ss _) | (apply Exists.intro; apply Exists.intro; apply And.intro; exact ss _) | (refine Both.mk ?_ ?_ <;> intro hc <;> (first | exact Bool.noConfusion hc | exact absurd (by with_reducible rfl) hc | exact (hc : False).elim | exact absurd (by assumption) hc | exact absurd hc (by assumption) | (exfalso; omega) | exact absurd hc (by decide) | skip)) | (intro c hc; (try (simp only [AH.none_iff] at hc; repeat (have hn := hc.1; replace hc := hc.2))); (first | (refine i64_k hc ?_ ?_ ?_ ; omega; omega; (clear hc; intro hc; subst hc)) | (refine u64_k hc ?_ ?_ ?_ ; omega; omega; (clear hc; intro hc; subst hc)) | (refine u8_k hc ?_ ?_ ?_ ; omega; omega; (clear hc; intro hc; subst hc)) | subst hc | skip)) | (apply Exists.intro; apply And.intro; (focus (repeat (first | assumption | exact AH.set_same _ _ _ | ((first | refine AH.get_ne ?_ ?_ | refine AH.getd_ne ?_ ?_); (first | assumption | omega | exact Ne.symm (by assumption) | exact AH.ne_none (by assumption) (by assumption) | exact AH.none_ne (by assumption) (by assumption) | exact (AH.none_set (by assumption)).1 | exact Ne.symm (AH.none_set (by assumption)).1)))); done)) | (apply Exists.intro; apply And.intro; (try simp only [List.getElem?_drop, Nat.mul_one, Nat.add_zero, Nat.zero_add]); first | (refine u8s_get ?_; omega) | (refine iS_get ?_; omega) | assumption | rfl | fail) | (apply And.intro; (first | rfl | assumption | exact Nat.le_of_ble_eq_true rfl | omega | (simp <;> fail) | (simp <;> omega) | (focus (repeat' (first | exact one_u8s _ | exact one_iS _ _ | rfl | apply one_take | apply one_drop | apply one_append)); done) | fail)) | fail)) <;> (try (conv => whnf))
      · rw [if_neg h1]
        refine ACall_of tt_ok (dok _) Try.func15 rfl (by decide) rfl ?_
        (repeat' ((conv => whnf); first | refine Then.mk ?_ | left | refine OpsA.cons ?_ | refine OpsA.nil ?_ | refine AWq.seq ?_ | refine AWq.region ?_ | refine AWq.cond ?_ | refine AWq.block ?_ | refine AWq.skip ?_ | refine AWq.ret ?_ | refine AWq.exit ?_ | refine AWq.loop ?_ | refine AWq.rangeFunc ?_ | refine DrawA.consD ?_ | refine DrawA.nil ?_ | refine AWq.draw (by decide +kernel) ?_ | (refine ACall.to (ss _) ?_) | (apply Exists.intro; apply And.intro; exact ss _) | (apply Exists.intro; apply Exists.intro; apply And.intro; exact ss _) | (refine Both.mk ?_ ?_ <;> intro hc <;> (first | exact Bool.noConfusion hc | exact absurd (by with_reducible rfl) hc | exact (hc : False).elim | exact absurd (by assumption) hc | exact absurd hc (by assumption) | (exfalso; omega) | exact absurd hc (by decide) | skip)) | (intro c hc; (try (simp only [AH.none_iff] at hc; repeat (have hn := hc.1; replace hc := hc.2))); (first | (refine i64_k hc ?_ ?_ ?_ ; omega; omega; (clear hc; intro hc; subst hc)) | (refine u64_k hc ?_ ?_ ?_ ; omega; omega; (clear hc; intro hc; subst hc)) | (refine u8_k hc ?_ ?_ ?_ ; omega; omega; (clear hc; intro hc; subst hc)) | subst hc | skip)) | (apply Exists.intro; apply And.intro; (focus (repeat (first | assumption | exact AH.set_same _ _ _ | ((first | refine AH.get_ne ?_ ?_ | refine AH.getd_ne ?_ ?_); (first | assumption | omega | exact Ne.symm (by assumption) | exact AH.ne_none (by assumption) (by assumption) | exact AH.none_ne (by assumption) (by assumption) | exact (AH.none_set (by assumption)).1 | exact Ne.symm (AH.none_set (by assumption)).1)))); done)) | (apply Exists.intro; apply And.intro; (try simp only [List.getElem?_drop, Nat.mul_one, Nat.add_zero, Nat.zero_add]); first | (refine u8s_get ?_; omega) | (refine iS_get ?_; omega) | assumption | rfl | fail) | (apply And.intro; (first | rfl | assumption | exact Nat.le_of_ble_eq_true rfl | omega | (simp <;> fail) | (simp <;> omega) | (focus (repeat' (first | exact one_u8s _ | exact one_iS _ _ | rfl | apply one_take | apply one_drop | apply one_append)); done) | fail)) | fail)) <;> (try (conv => whnf))
    · rw [if_neg (fun k => hv k.2), if_pos h, if_neg hv]
      refine ACall_of tt_ok (dok _) Try.func15 rfl (by decide) rfl ?_
      (repeat' ((conv => whnf); first | refine Then.mk ?_ | left | refine OpsA.cons ?_ | refine OpsA.nil ?_ | refine AWq.seq ?_ | refine AWq.region ?_ | refine AWq.cond ?_ | refine AWq.block ?_ | refine AWq.skip ?_ | refine AWq.ret ?_ | refine AWq.exit ?_ | refine AWq.loop ?_ | refine AWq.rangeFunc ?_ | refine DrawA.consD ?_ | refine DrawA.nil ?_ | refine AWq.draw (by decide +kernel) ?_ | (refine ACall.to (ss _) ?_) | (apply Exists.intro; apply And.intro; exact ss _) | (apply Exists.intro; apply Exists.intro; apply And.intro; exact ss _) | (refine Both.mk ?_ ?_ <;> intro hc <;> (first | exact Bool.noConfusion hc | exact absurd (by with_reducible rfl) hc | exact (hc : False).elim | exact absurd (by assumption) hc | exact absurd hc (by assumption) | (exfalso; omega) | exact absurd hc (by decide) | skip)) | (intro c hc; (try (simp only [AH.none_iff] at hc; repeat (have hn := hc.1; replace hc := hc.2))); (first | (refine i64_k hc ?_ ?_ ?_ ; omega; omega; (clear hc; intro hc; subst hc)) | (refine u64_k hc ?_ ?_ ?_ ; omega; omega; (clear hc; intro hc; subst hc)) | (refine u8_k hc ?_ ?_ ?_ ; omega; omega; (clear hc; intro hc; subst hc)) | subst hc | skip)) | (apply Exists.intro; apply And.intro; (focus (repeat (first | assumption | exact AH.set_same _ _ _ | ((first | refine AH.get_ne ?_ ?_ | refine AH.getd_ne ?_ ?_); (first | assumption | omega | exact Ne.symm (by assumption) | exact AH.ne_none (by assumption) (by assumption) | exact AH.none_ne (by assumption) (by assumption) | exact (AH.none_set (by assumption)).1 | exact Ne.symm (AH.none_set (by assumption)).1)))); done)) | (apply Exists.intro; apply And.intro; (try simp only [List.getElem?_drop, Nat.mul_one, Nat.add_zero, Nat.zero_add]); first | (refine u8s_get ?_; omega) | (refine iS_get ?_; omega) | assumption | rfl | fail) | (apply And.intro; (first | rfl | assumption | exact Nat.le_of_ble_eq_true rfl | omega | (simp <;> fail) | (simp <;> omega) | (focus (repeat' (first | exact one_u8s _ | exact one_iS _ _ | rfl | apply one_take | apply one_drop | apply one_append)); done) | fail)) | fail)) <;> (try (conv => whnf))
  · rw [decide_eq_false h] at ss
    rw [if_neg (fun k => h k.1), if_neg h]
    refine ACall_of tt_ok (dok _) Try.func15 rfl (by decide) rfl ?_
    (repeat' ((conv => whnf); first | refine Then.mk ?_ | left | refine OpsA.cons ?_ | refine OpsA.nil ?_ | refine AWq.seq ?_ | refine AWq.region ?_ | refine AWq.cond ?_ | refine AWq.block ?_ | refine AWq.skip ?_ | refine AWq.ret ?_ | refine AWq.exit ?_ | refine AWq.loop ?_ | refine AWq.rangeFunc ?_ | refine DrawA.consD ?_ | refine DrawA.nil ?_ | refine AWq.draw (by decide +kernel) ?_ | (refine ACall.to (ss _) ?_) | (apply Exists.intro; apply And.intro; exact ss _) | (apply Exists.intro; apply Exists.intro; apply And.intro; exact ss _) | (refine Both.mk ?_ ?_ <;> intro hc <;> (first | exact Bool.noConfusion hc | exact absurd (by with_reducible rfl) hc | exact (hc : False).elim | exact absurd (by assumption) hc | exact absurd hc (by assumption) | (exfalso; omega) | exact absurd hc (by decide) | skip)) | (intro c hc; (try (simp only [AH.none_iff] at hc; repeat (have hn := hc.1; replace hc := hc.2))); (first | (refine i64_k hc ?_ ?_ ?_ ; omega; omega; (clear hc; intro hc; subst hc)) | (refine u64_k hc ?_ ?_ ?_ ; omega; omega; (clear hc; intro hc; subst hc)) | (refine u8_k hc ?_ ?_ ?_ ; omega; omega; (clear hc; intro hc; subst hc)) | subst hc | skip)) | (apply Exists.intro; apply And.intro; (focus (repeat (first | assumption | exact AH.set_same _ _ _ | ((first | refine AH.get_ne ?_ ?_ | refine AH.getd_ne ?_ ?_); (first | assumption | omega | exact Ne.symm (by assumption) | exact AH.ne_none (by assumption) (by assumption) | exact AH.none_ne (by assumption) (by assumption) | exact (AH.none_set (by assumption)).1 | exact Ne.symm (AH.none_set (by assumption)).1)))); done)) | (apply Exists.intro; apply And.intro; (try simp only [List.getElem?_drop, Nat.mul_one, Nat.add_zero, Nat.zero_add]); first | (refine u8s_get ?_; omega) | (refine iS_get ?_; omega) | assumption | rfl | fail) | (apply And.intro; (first | rfl | assumption | exact Nat.le_of_ble_eq_true rfl | omega | (simp <;> fail) | (simp <;> omega) | (focus (repeat' (first | exact one_u8s _ | exact one_iS _ _ | rfl | apply one_take | apply one_drop | apply one_append)); done) | fail)) | fail)) <;> (try (conv => whnf))

theorem fwd_const {v : Int} : ∀ (k : Nat) (M : Mat), (∀ r c, r < 2 ^ k → c < 2 ^ k → M r c = v) → ∀ r c, r < 2 ^ k → c < 2 ^ k → fwd k M r c = if r = 0 ∧ c = 0 then v else 0
  | 0, M, h, r, c, hr, hc => by
    have hr : r < 1 := hr
    have hc : c < 1 := hc
    rw [if_pos (by omega)]; exact h r c hr hc
  | k + 1, M, h, r, c, hr, hc => by
    rw [pow_half] at h hr hc
    show fwd k (colsM spl (2 ^ (k + 1)) (rowsM spl (2 ^ (k + 1)) M)) r c = _
    rw [pow_half]
    have h1 : ∀ r c, r < 2 * 2 ^ k → c < 2 * 2 ^ k → rowsM spl (2 * 2 ^ k) M r c = if c < 2 ^ k then v else 0 := fun r c hr hc => by
      unfold rowsM spl
      rw [if_pos ⟨hr, hc⟩, show 2 * 2 ^ k / 2 = 2 ^ k by omega]
      by_cases hcc : c < 2 ^ k
      · rw [if_pos hcc, if_pos hcc, h r _ hr (by omega), h r _ hr (by omega)]; omega
      · rw [if_neg hcc, if_neg hcc, h r _ hr (by omega), h r _ hr (by omega)]; omega
    have h2 : ∀ r c, r < 2 * 2 ^ k → c < 2 * 2 ^ k → colsM spl (2 * 2 ^ k) (rowsM spl (2 * 2 ^ k) M) r c = if r < 2 ^ k ∧ c < 2 ^ k then v else 0 := fun r c hr hc => by
      generalize rowsM spl (2 * 2 ^ k) M = N at *
      unfold colsM spl
      rw [if_pos ⟨hr, hc⟩, show 2 * 2 ^ k / 2 = 2 ^ k by omega]
      by_cases hrr : r < 2 ^ k
      · rw [if_pos hrr]
        dsimp only
        rw [h1 _ c (by omega) hc, h1 _ c (by omega) hc]
        by_cases hcc : c < 2 ^ k
        · rw [if_pos hcc, if_pos ⟨hrr, hcc⟩]; omega
        · rw [if_neg hcc, if_neg (fun (k : _ ∧ _) => hcc k.2)]; rfl
      · rw [if_neg hrr]
        dsimp only
        rw [h1 _ c (by omega) hc, h1 _ c (by omega) hc, if_neg (fun (k : _ ∧ _) => hrr k.1)]
        split <;> omega
    by_cases hin : r < 2 ^ k ∧ c < 2 ^ k
    · exact fwd_const k _ (fun r c hr hc => by rw [h2 r c (by omega) (by omega), if_pos ⟨hr, hc⟩]) r c hin.1 hin.2
    · rw [fwd_out k _ r c hin, h2 r c hr hc, if_neg hin, if_neg (fun h => hin (by have : 1 ≤ 2 ^ k := Nat.one_le_two_pow; omega))]

def sgn (r c : Nat) : Int := 1 - 2 * ((r + c) % 2 : Nat)
theorem fwd_ext {v : Int} (k : Nat) (M : Mat) (h : ∀ r c, r < 2 ^ (k + 1) → c < 2 ^ (k + 1) → M r c = sgn r c * v) : fwd (k + 1) M (2 ^ k) (2 ^ k) = 4 * v := by
  rw [pow_half] at h
  have hp : 1 ≤ 2 ^ k := Nat.one_le_two_pow
  show fwd k (colsM spl (2 ^ (k + 1)) (rowsM spl (2 ^ (k + 1)) M)) (2 ^ k) (2 ^ k) = _
  rw [pow_half, fwd_out k _ _ _ (by omega)]
  have h1 : ∀ r, r < 2 * 2 ^ k → rowsM spl (2 * 2 ^ k) M r (2 ^ k) = sgn r 0 * v - sgn r 1 * v := fun r hr => by
    unfold rowsM spl
    rw [if_pos (by omega), show 2 * 2 ^ k / 2 = 2 ^ k by omega, if_neg (by omega), Nat.sub_self, h r _ hr (by omega), h r _ hr (by omega)]
  generalize rowsM spl (2 * 2 ^ k) M = N at *
  unfold colsM spl
  rw [if_pos (by omega), show 2 * 2 ^ k / 2 = 2 ^ k by omega, if_neg (by omega), Nat.sub_self]
  dsimp only
  rw [h1 _ (by omega), h1 _ (by omega)]
  show (1 * v - -1 * v) - (-1 * v - 1 * v) = _
  omega
end Go.Proofs.Ytajmabnnaidhkaa
