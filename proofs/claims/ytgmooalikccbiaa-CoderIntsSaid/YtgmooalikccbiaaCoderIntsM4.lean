/- For the law CoderInts, part 4 of 8: the frame of the walk, the walks of the functions, the plain law, the row. No conditions. -/
import Derived.Test.YtgmooalikccbiaaCoderIntsM3
/- The reference's integers: division by a digit, on. -/
namespace Go.Proofs.Ytgmooalikccbiaa
open Go.Fw Go
set_option linter.unusedVariables false
set_option linter.unusedSimpArgs false

theorem dg_two {R : Nat} (h : R < 100000000) : (dg R).getD 0 0 = R % 10000 ∧ (dg R).getD 1 0 = R / 10000 := by
  by_cases h0 : R = 0
  · subst h0; rw [dg_zero]; exact ⟨rfl, rfl⟩
  · rw [dg_pos h0]
    refine ⟨rfl, ?_⟩
    show (dg (R / 10000)).getD 0 0 = _
    by_cases h1 : R / 10000 = 0
    · rw [h1, dg_zero]; rfl
    · rw [dg_one (by omega) h1]; rfl
def loV (R d : Nat) : Nat := min 9999 (10000 * R / (10000 * d + 1))
def hiV (R d : Nat) : Nat := min 9999 (10000 * R / (10000 * d))
set_option maxRecDepth 8000 in
theorem digit_c (R d : Nat) (hR : R < 100000000) (hd0 : d ≠ 0) (hd : d < 10000) (H : AH) :
    ACall Try.prog 80 [.cs (dA (dg R)) (dg R).length, .cs (dA [d]) 1] H (fun y H' => y = .tup [.int .i64 (loV R d), .int .i64 (hiV R d)] ∧ H' = H) := by
  by_cases h0 : R = 0
  · subst h0
    have e1 : loV 0 d = 0 := by simp [loV]
    have e2 : hiV 0 d = 0 := by simp [hiV]
    rw [e1, e2, dg_zero]
    refine ACall_of tt_ok (dok _) Try.func80 rfl (by decide) rfl ?_
    (repeat' ((conv => whnf); first | refine Then.mk ?_ | left | refine OpsA.cons ?_ | refine OpsA.nil ?_ | refine AWq.seq ?_ | refine AWq.region ?_ | refine AWq.cond ?_ | refine AWq.skip ?_ | refine AWq.ret ?_ | refine DrawA.consD ?_ | refine DrawA.nil ?_ | refine AWq.draw (by decide +kernel) ?_ | (refine Both.mk ?_ ?_ <;> intro hc <;> (first | exact Bool.noConfusion hc | exact absurd (by with_reducible rfl) hc | exact (hc : False).elim | exact absurd (by assumption) hc | exact absurd hc (by assumption) | (exfalso; omega) | exact absurd hc (by decide) | skip)) | (intro c hc; (try (simp only [AH.none_iff] at hc; repeat (have hn := hc.1; replace hc := hc.2))); (first | (have hc2 := Eq.trans hc (by with_reducible assumption); clear hc; subst hc2) | (refine i64_k hc ?_ ?_ ?_ ; omega; omega; (clear hc; intro hc; subst hc)) | (refine u64_k hc ?_ ?_ ?_ ; omega; omega; (clear hc; intro hc; subst hc)) | (refine u8_k hc ?_ ?_ ?_ ; omega; omega; (clear hc; intro hc; subst hc)) | subst hc | skip)) | (apply Exists.intro; apply And.intro; (focus (repeat (first | assumption | exact AH.set_same _ _ _ | ((first | refine AH.get_ne ?_ ?_ | refine AH.getd_ne ?_ ?_); (first | assumption | omega | exact Ne.symm (by assumption) | exact AH.ne_none (by assumption) (by assumption) | exact AH.none_ne (by assumption) (by assumption) | exact (AH.none_set (by assumption)).1 | exact Ne.symm (AH.none_set (by assumption)).1)))); done)) | (apply Exists.intro; apply And.intro; first | (with_reducible assumption) | ((try simp only [List.getElem?_drop, Nat.mul_one, Nat.add_zero, Nat.zero_add]); first | (with_reducible assumption) | (refine u8s_get ?_; omega) | (refine iS_get ?_; omega) | assumption | rfl)) | (apply And.intro; (first | rfl | (with_reducible assumption) | exact Nat.le_of_ble_eq_true rfl | omega | (exact Int.ofNat_lt.2 (Nat.lt_of_lt_of_eq (by with_reducible assumption) (by decide +kernel))) | assumption | (simp <;> fail) | (simp <;> omega) | (focus (repeat' (first | exact one_u8s _ | exact one_iS _ _ | rfl | apply one_take | apply one_drop | apply one_append)); done))))) <;> (try (conv => whnf))
  · have hlen : 1 ≤ (dg R).length := by rw [dg_pos h0, List.length_cons]; omega
    obtain ⟨t1, t2⟩ := dg_two hR
    have q1 : ∀ H, ACall Try.prog 85 [.cs (dA (dg R)) (dg R).length, .int .i64 1] H (fun y H' => y = .int .i64 (R / 10000 : Nat) ∧ H' = H) := fun H => by
      have := digits_c (dg R) 1 (by decide) H
      rw [if_pos (by decide), show (1 : Int).toNat = 1 from rfl, t2] at this
      exact this
    have q0 : ∀ H, ACall Try.prog 85 [.cs (dA (dg R)) (dg R).length, .int .i64 0] H (fun y H' => y = .int .i64 (R % 10000 : Nat) ∧ H' = H) := fun H => by
      have := digits_c (dg R) 0 (by decide) H
      rw [if_pos (by decide), show (0 : Int).toNat = 0 from rfl, t1] at this
      exact this
    have qm : ∀ H, ACall Try.prog 85 [.cs (dA (dg R)) (dg R).length, .int .i64 (-1)] H (fun y H' => y = .int .i64 0 ∧ H' = H) := fun H => digits_c (dg R) (-1) (by decide) H
    have p0 : ∀ H, ACall Try.prog 85 [.cs (dA [d]) 1, .int .i64 0] H (fun y H' => y = .int .i64 d ∧ H' = H) := fun H => digits_c [d] 0 (by decide) H
    have pm : ∀ H, ACall Try.prog 85 [.cs (dA [d]) 1, .int .i64 (-1)] H (fun y H' => y = .int .i64 0 ∧ H' = H) := fun H => digits_c [d] (-1) (by decide) H
    generalize hLL : (dg R).length = LL at *
    generalize dA (dg R) = a at *
    have hsum : R = R % 10000 + 10000 * (R / 10000) := by omega
    generalize R / 10000 = r1 at *
    have hr0 : R % 10000 < 10000 := Nat.mod_lt _ (by decide)
    generalize R % 10000 = r0 at *
    refine ACall_of tt_ok (dok _) Try.func80 rfl (by decide) rfl ?_
    (repeat' ((conv => whnf); first | refine Then.mk ?_ | left | refine OpsA.cons ?_ | refine OpsA.nil ?_ | refine AWq.seq ?_ | refine AWq.region ?_ | refine AWq.cond ?_ | refine AWq.skip ?_ | refine AWq.ret ?_ | refine DrawA.consD ?_ | refine DrawA.nil ?_ | refine AWq.draw (by decide +kernel) ?_ | (refine ACall.to (q1 _) ?_) | (refine ACall.to (q0 _) ?_) | (refine ACall.to (qm _) ?_) | (refine ACall.to (p0 _) ?_) | (refine ACall.to (pm _) ?_) | (apply Exists.intro; apply And.intro; exact q1 _) | (apply Exists.intro; apply And.intro; exact q0 _) | (apply Exists.intro; apply And.intro; exact qm _) | (apply Exists.intro; apply And.intro; exact p0 _) | (apply Exists.intro; apply And.intro; exact pm _) | (apply Exists.intro; apply Exists.intro; apply And.intro; exact q1 _) | (apply Exists.intro; apply Exists.intro; apply And.intro; exact q0 _) | (apply Exists.intro; apply Exists.intro; apply And.intro; exact qm _) | (apply Exists.intro; apply Exists.intro; apply And.intro; exact p0 _) | (apply Exists.intro; apply Exists.intro; apply And.intro; exact pm _) | (refine Both.mk ?_ ?_ <;> intro hc <;> (first | exact Bool.noConfusion hc | exact absurd (by with_reducible rfl) hc | exact (hc : False).elim | exact absurd (by assumption) hc | exact absurd hc (by assumption) | (exfalso; omega) | exact absurd hc (by decide) | skip)) | (intro c hc; (try (simp only [AH.none_iff] at hc; repeat (have hn := hc.1; replace hc := hc.2))); (first | (have hc2 := Eq.trans hc (by with_reducible assumption); clear hc; subst hc2) | (refine i64_k hc ?_ ?_ ?_ ; omega; omega; (clear hc; intro hc; subst hc)) | (refine u64_k hc ?_ ?_ ?_ ; omega; omega; (clear hc; intro hc; subst hc)) | (refine u8_k hc ?_ ?_ ?_ ; omega; omega; (clear hc; intro hc; subst hc)) | subst hc | skip)) | (apply Exists.intro; apply And.intro; (focus (repeat (first | assumption | exact AH.set_same _ _ _ | ((first | refine AH.get_ne ?_ ?_ | refine AH.getd_ne ?_ ?_); (first | assumption | omega | exact Ne.symm (by assumption) | exact AH.ne_none (by assumption) (by assumption) | exact AH.none_ne (by assumption) (by assumption) | exact (AH.none_set (by assumption)).1 | exact Ne.symm (AH.none_set (by assumption)).1)))); done)) | (apply Exists.intro; apply And.intro; first | (with_reducible assumption) | ((try simp only [List.getElem?_drop, Nat.mul_one, Nat.add_zero, Nat.zero_add]); first | (with_reducible assumption) | (refine u8s_get ?_; omega) | (refine iS_get ?_; omega) | assumption | rfl)) | (apply And.intro; (first | rfl | (with_reducible assumption) | exact Nat.le_of_ble_eq_true rfl | omega | (exact Int.ofNat_lt.2 (Nat.lt_of_lt_of_eq (by with_reducible assumption) (by decide +kernel))) | assumption | (simp <;> fail) | (simp <;> omega) | (focus (repeat' (first | exact one_u8s _ | exact one_iS _ _ | rfl | apply one_take | apply one_drop | apply one_append)); done))))) <;> (try (conv => whnf))
    have u1 : (10000 * (10000 * (r1 : Int) + r0) + 0) = ((10000 * R : Nat) : Int) := by omega
    have u2 : (10000 * (d : Int) + 0 + 1) = ((10000 * d + 1 : Nat) : Int) := by omega
    have u3 : (10000 * (d : Int) + 0) = ((10000 * d : Nat) : Int) := by omega
    have v1 : 10000 * R / (10000 * d + 1) ≤ 1000000000000 := Nat.le_trans (Nat.div_le_self _ _) (by omega)
    have v2 : 10000 * R / (10000 * d) ≤ 1000000000000 := Nat.le_trans (Nat.div_le_self _ _) (by omega)
    have hmin : ∀ z : Nat, z ≤ 1000000000000 → min 9999 (IntKind.i64.wrap (z : Int)) = ((min 9999 z : Nat) : Int) := fun z hz => by
      have hw : IntKind.i64.wrap (z : Int) = z := by rw [IntKind.wrap_i64]; omega
      rw [hw]
      rcases Nat.le_total 9999 z with h | h
      · rw [Nat.min_eq_left h, Int.min_eq_left (by omega)]; rfl
      · rw [Nat.min_eq_right h, Int.min_eq_right (by omega)]
    refine ⟨.int .i64 (loV R d), ?_, ?_⟩
    · (repeat' ((conv => whnf); first | refine Then.mk ?_ | left | refine OpsA.cons ?_ | refine OpsA.nil ?_ | refine AWq.seq ?_ | refine AWq.region ?_ | refine AWq.cond ?_ | refine AWq.skip ?_ | refine AWq.ret ?_ | refine DrawA.consD ?_ | refine DrawA.nil ?_ | refine AWq.draw (by decide +kernel) ?_ | (refine Both.mk ?_ ?_ <;> intro hc <;> (first | exact Bool.noConfusion hc | exact absurd (by with_reducible rfl) hc | exact (hc : False).elim | exact absurd (by assumption) hc | exact absurd hc (by assumption) | (exfalso; omega) | exact absurd hc (by decide) | skip)) | (intro c hc; (try (simp only [AH.none_iff] at hc; repeat (have hn := hc.1; replace hc := hc.2))); (first | (have hc2 := Eq.trans hc (by with_reducible assumption); clear hc; subst hc2) | (refine i64_k hc ?_ ?_ ?_ ; omega; omega; (clear hc; intro hc; subst hc)) | (refine u64_k hc ?_ ?_ ?_ ; omega; omega; (clear hc; intro hc; subst hc)) | (refine u8_k hc ?_ ?_ ?_ ; omega; omega; (clear hc; intro hc; subst hc)) | subst hc | skip)) | (apply Exists.intro; apply And.intro; (focus (repeat (first | assumption | exact AH.set_same _ _ _ | ((first | refine AH.get_ne ?_ ?_ | refine AH.getd_ne ?_ ?_); (first | assumption | omega | exact Ne.symm (by assumption) | exact AH.ne_none (by assumption) (by assumption) | exact AH.none_ne (by assumption) (by assumption) | exact (AH.none_set (by assumption)).1 | exact Ne.symm (AH.none_set (by assumption)).1)))); done)) | (apply Exists.intro; apply And.intro; first | (with_reducible assumption) | ((try simp only [List.getElem?_drop, Nat.mul_one, Nat.add_zero, Nat.zero_add]); first | (with_reducible assumption) | (refine u8s_get ?_; omega) | (refine iS_get ?_; omega) | assumption | rfl)) | (apply And.intro; (first | rfl | (with_reducible assumption) | exact Nat.le_of_ble_eq_true rfl | omega | (exact Int.ofNat_lt.2 (Nat.lt_of_lt_of_eq (by with_reducible assumption) (by decide +kernel))) | assumption | (simp <;> fail) | (simp <;> omega) | (focus (repeat' (first | exact one_u8s _ | exact one_iS _ _ | rfl | apply one_take | apply one_drop | apply one_append)); done))))) <;> (try (conv => whnf))
      refine ⟨congrArg (AV.int .i64) ?_, rfl⟩
      rw [u1, u2, ← Int.ofNat_tdiv, hmin _ (by assumption)]
      rfl
    · (repeat' ((conv => whnf); first | refine Then.mk ?_ | left | refine OpsA.cons ?_ | refine OpsA.nil ?_ | refine AWq.seq ?_ | refine AWq.region ?_ | refine AWq.cond ?_ | refine AWq.skip ?_ | refine AWq.ret ?_ | refine DrawA.consD ?_ | refine DrawA.nil ?_ | refine AWq.draw (by decide +kernel) ?_ | (refine Both.mk ?_ ?_ <;> intro hc <;> (first | exact Bool.noConfusion hc | exact absurd (by with_reducible rfl) hc | exact (hc : False).elim | exact absurd (by assumption) hc | exact absurd hc (by assumption) | (exfalso; omega) | exact absurd hc (by decide) | skip)) | (intro c hc; (try (simp only [AH.none_iff] at hc; repeat (have hn := hc.1; replace hc := hc.2))); (first | (have hc2 := Eq.trans hc (by with_reducible assumption); clear hc; subst hc2) | (refine i64_k hc ?_ ?_ ?_ ; omega; omega; (clear hc; intro hc; subst hc)) | (refine u64_k hc ?_ ?_ ?_ ; omega; omega; (clear hc; intro hc; subst hc)) | (refine u8_k hc ?_ ?_ ?_ ; omega; omega; (clear hc; intro hc; subst hc)) | subst hc | skip)) | (apply Exists.intro; apply And.intro; (focus (repeat (first | assumption | exact AH.set_same _ _ _ | ((first | refine AH.get_ne ?_ ?_ | refine AH.getd_ne ?_ ?_); (first | assumption | omega | exact Ne.symm (by assumption) | exact AH.ne_none (by assumption) (by assumption) | exact AH.none_ne (by assumption) (by assumption) | exact (AH.none_set (by assumption)).1 | exact Ne.symm (AH.none_set (by assumption)).1)))); done)) | (apply Exists.intro; apply And.intro; first | (with_reducible assumption) | ((try simp only [List.getElem?_drop, Nat.mul_one, Nat.add_zero, Nat.zero_add]); first | (with_reducible assumption) | (refine u8s_get ?_; omega) | (refine iS_get ?_; omega) | assumption | rfl)) | (apply And.intro; (first | rfl | (with_reducible assumption) | exact Nat.le_of_ble_eq_true rfl | omega | (exact Int.ofNat_lt.2 (Nat.lt_of_lt_of_eq (by with_reducible assumption) (by decide +kernel))) | assumption | (simp <;> fail) | (simp <;> omega) | (focus (repeat' (first | exact one_u8s _ | exact one_iS _ _ | rfl | apply one_take | apply one_drop | apply one_append)); done))))) <;> (try (conv => whnf))
      refine ⟨.int .i64 (hiV R d), ?_, ?_⟩
      · (repeat' ((conv => whnf); first | refine Then.mk ?_ | left | refine OpsA.cons ?_ | refine OpsA.nil ?_ | refine AWq.seq ?_ | refine AWq.region ?_ | refine AWq.cond ?_ | refine AWq.skip ?_ | refine AWq.ret ?_ | refine DrawA.consD ?_ | refine DrawA.nil ?_ | refine AWq.draw (by decide +kernel) ?_ | (refine Both.mk ?_ ?_ <;> intro hc <;> (first | exact Bool.noConfusion hc | exact absurd (by with_reducible rfl) hc | exact (hc : False).elim | exact absurd (by assumption) hc | exact absurd hc (by assumption) | (exfalso; omega) | exact absurd hc (by decide) | skip)) | (intro c hc; (try (simp only [AH.none_iff] at hc; repeat (have hn := hc.1; replace hc := hc.2))); (first | (have hc2 := Eq.trans hc (by with_reducible assumption); clear hc; subst hc2) | (refine i64_k hc ?_ ?_ ?_ ; omega; omega; (clear hc; intro hc; subst hc)) | (refine u64_k hc ?_ ?_ ?_ ; omega; omega; (clear hc; intro hc; subst hc)) | (refine u8_k hc ?_ ?_ ?_ ; omega; omega; (clear hc; intro hc; subst hc)) | subst hc | skip)) | (apply Exists.intro; apply And.intro; (focus (repeat (first | assumption | exact AH.set_same _ _ _ | ((first | refine AH.get_ne ?_ ?_ | refine AH.getd_ne ?_ ?_); (first | assumption | omega | exact Ne.symm (by assumption) | exact AH.ne_none (by assumption) (by assumption) | exact AH.none_ne (by assumption) (by assumption) | exact (AH.none_set (by assumption)).1 | exact Ne.symm (AH.none_set (by assumption)).1)))); done)) | (apply Exists.intro; apply And.intro; first | (with_reducible assumption) | ((try simp only [List.getElem?_drop, Nat.mul_one, Nat.add_zero, Nat.zero_add]); first | (with_reducible assumption) | (refine u8s_get ?_; omega) | (refine iS_get ?_; omega) | assumption | rfl)) | (apply And.intro; (first | rfl | (with_reducible assumption) | exact Nat.le_of_ble_eq_true rfl | omega | (exact Int.ofNat_lt.2 (Nat.lt_of_lt_of_eq (by with_reducible assumption) (by decide +kernel))) | assumption | (simp <;> fail) | (simp <;> omega) | (focus (repeat' (first | exact one_u8s _ | exact one_iS _ _ | rfl | apply one_take | apply one_drop | apply one_append)); done))))) <;> (try (conv => whnf))
        refine ⟨congrArg (AV.int .i64) ?_, rfl⟩
        rw [u1, u3, ← Int.ofNat_tdiv, hmin _ (by assumption)]
        rfl
      · (repeat' ((conv => whnf); first | refine Then.mk ?_ | left | refine OpsA.cons ?_ | refine OpsA.nil ?_ | refine AWq.seq ?_ | refine AWq.region ?_ | refine AWq.cond ?_ | refine AWq.skip ?_ | refine AWq.ret ?_ | refine DrawA.consD ?_ | refine DrawA.nil ?_ | refine AWq.draw (by decide +kernel) ?_ | (refine Both.mk ?_ ?_ <;> intro hc <;> (first | exact Bool.noConfusion hc | exact absurd (by with_reducible rfl) hc | exact (hc : False).elim | exact absurd (by assumption) hc | exact absurd hc (by assumption) | (exfalso; omega) | exact absurd hc (by decide) | skip)) | (intro c hc; (try (simp only [AH.none_iff] at hc; repeat (have hn := hc.1; replace hc := hc.2))); (first | (have hc2 := Eq.trans hc (by with_reducible assumption); clear hc; subst hc2) | (refine i64_k hc ?_ ?_ ?_ ; omega; omega; (clear hc; intro hc; subst hc)) | (refine u64_k hc ?_ ?_ ?_ ; omega; omega; (clear hc; intro hc; subst hc)) | (refine u8_k hc ?_ ?_ ?_ ; omega; omega; (clear hc; intro hc; subst hc)) | subst hc | skip)) | (apply Exists.intro; apply And.intro; (focus (repeat (first | assumption | exact AH.set_same _ _ _ | ((first | refine AH.get_ne ?_ ?_ | refine AH.getd_ne ?_ ?_); (first | assumption | omega | exact Ne.symm (by assumption) | exact AH.ne_none (by assumption) (by assumption) | exact AH.none_ne (by assumption) (by assumption) | exact (AH.none_set (by assumption)).1 | exact Ne.symm (AH.none_set (by assumption)).1)))); done)) | (apply Exists.intro; apply And.intro; first | (with_reducible assumption) | ((try simp only [List.getElem?_drop, Nat.mul_one, Nat.add_zero, Nat.zero_add]); first | (with_reducible assumption) | (refine u8s_get ?_; omega) | (refine iS_get ?_; omega) | assumption | rfl)) | (apply And.intro; (first | rfl | (with_reducible assumption) | exact Nat.le_of_ble_eq_true rfl | omega | (exact Int.ofNat_lt.2 (Nat.lt_of_lt_of_eq (by with_reducible assumption) (by decide +kernel))) | assumption | (simp <;> fail) | (simp <;> omega) | (focus (repeat' (first | exact one_u8s _ | exact one_iS _ _ | rfl | apply one_take | apply one_drop | apply one_append)); done))))) <;> (try (conv => whnf))
theorem lo_le {R d : Nat} (hd0 : d ≠ 0) : loV R d ≤ R / d := by
  unfold loV
  have h : 10000 * R / (10000 * d + 1) ≤ R / d := by
    rw [Nat.le_div_iff_mul_le (by omega)]
    have h1 := Nat.div_mul_le_self (10000 * R) (10000 * d + 1)
    generalize 10000 * R / (10000 * d + 1) = z at *
    have h2 : z * (10000 * d) ≤ z * (10000 * d + 1) := Nat.mul_le_mul_left _ (by omega)
    have h3 : z * (10000 * d) = 10000 * (z * d) := by rw [← Nat.mul_assoc, Nat.mul_comm z 10000, Nat.mul_assoc]
    omega
  omega
theorem le_hi {R d : Nat} (hd0 : d ≠ 0) (h : R < 10000 * d) : R / d ≤ hiV R d := by
  unfold hiV
  have e : 10000 * R / (10000 * d) = R / d := Nat.mul_div_mul_left _ _ (by decide)
  rw [e]
  have : R / d < 10000 := (Nat.div_lt_iff_lt_mul (by omega)).2 h
  omega

/-- Quotient digits and the rest. -/
def dq (d : Nat) : List Nat → List Nat × Nat
  | [] => ([], 0)
  | x :: r => ((x + 10000 * (dq d r).2) / d :: (dq d r).1, (x + 10000 * (dq d r).2) % d)
theorem dq_ok {d : Nat} (hd0 : d ≠ 0) : ∀ {l : List Nat}, DOk l → DOk (dq d l).1 ∧ (dq d l).1.length = l.length ∧ dv (dq d l).1 = dv l / d ∧ (dq d l).2 = dv l % d
  | [], _ => ⟨DOk.nil, rfl, by simp [dq, dv], by simp [dq, dv]⟩
  | x :: r, h => by
    have hr : DOk r := fun y hy => h y (by simp [hy])
    have hx := h x (by simp)
    obtain ⟨h1, h2, h3, h4⟩ := dq_ok hd0 hr
    have hs : (dq d r).2 < d := by rw [h4]; exact Nat.mod_lt _ (by omega)
    have e : dq d (x :: r) = ((x + 10000 * (dq d r).2) / d :: (dq d r).1, (x + 10000 * (dq d r).2) % d) := rfl
    have hq : (x + 10000 * (dq d r).2) / d < 10000 := (Nat.div_lt_iff_lt_mul (by omega)).2 (by omega)
    have hv : dv (x :: r) = x + 10000 * dv r := rfl
    have hrep : dv r = d * (dv r / d) + dv r % d := (Nat.div_add_mod _ _).symm
    have hall : dv (x :: r) = (x + 10000 * (dq d r).2) + d * (10000 * (dv r / d)) := by
      rw [hv, h4]
      generalize dv r % d = s at *
      generalize dv r / d = q at *
      rw [hrep, Nat.mul_add, ← Nat.mul_assoc, ← Nat.mul_assoc, Nat.mul_comm 10000 d]; omega
    rw [e]
    refine ⟨?_, by simp [h2], ?_, ?_⟩
    · intro y hy
      rcases List.mem_cons.1 hy with rfl | hy
      · exact hq
      · exact h1 y hy
    · show (x + 10000 * (dq d r).2) / d + 10000 * dv (dq d r).1 = _
      rw [hall, Nat.add_mul_div_left _ _ (by omega), h3]
    · show (x + 10000 * (dq d r).2) % d = _
      rw [hall, Nat.add_mul_mod_self_left]
theorem dq_step (d : Nat) (a : List Nat) {j : Nat} (h : j < a.length) : dq d (a.drop j) = ((a.getD j 0 + 10000 * (dq d (a.drop (j + 1))).2) / d :: (dq d (a.drop (j + 1))).1, (a.getD j 0 + 10000 * (dq d (a.drop (j + 1))).2) % d) := by
  rw [List.drop_eq_getElem_cons h]
  have : a.getD j 0 = a[j] := by rw [List.getD_eq_getElem?_getD, List.getElem?_eq_getElem h]; rfl
  rw [this]
  rfl

theorem dA_one (l : List Nat) : (dA l).all one = true := by simp [dA, one]
set_option maxHeartbeats 4000000 in
set_option maxRecDepth 8000 in
theorem divided_c (x d : Nat) (hx : (dg x).length ≤ 50000000) (hd0 : d ≠ 0) (hd : d < 10000) (H : AH) :
    ACall Try.prog 73 [.cs (dA (dg x)) (dg x).length, .cs (dA [d]) 1] H (fun y H' => ∃ c, y = .tup [.sl c 0 1 0 (dg x).length none, .cs (dA (dg (x % d))) (dg (x % d)).length] ∧ H c = none ∧ HLe (H.set c (.row (dA (dq d (dg x)).1) 0)) H') := by
  have hv := dv_dg x
  have oa := dok_dg x
  obtain ⟨a, ha⟩ : ∃ a, a = dg x := ⟨_, rfl⟩
  rw [← ha] at hx hv oa ⊢
  have hal : (dA a).length = a.length * 1 := by simp
  have n0 : ∀ H, ACall Try.prog 74 [.bool false, .cs (List.drop ((a.length : Int).toNat * 1) (dA a)) (a.length - (a.length : Int).toNat)] H (fun y H' => y = .agg [.bool false, .cs (dA (dg 0)) (dg 0).length] ∧ H' = H) := fun H => by
    have e : List.drop ((a.length : Int).toNat * 1) (dA a) = dA [] := by
      rw [Int.toNat_natCast, Nat.mul_one]; exact List.drop_of_length_le (by simp)
    have e2 : a.length - (a.length : Int).toNat = ([] : List Nat).length := by simp
    rw [e, e2]
    exact normal_k false [] DOk.nil (by decide) H
  have m1 : min (a.length : Int) ((a.length : Int) - ((1 : Nat) : Int) + 1) = a.length := by omega
  have m2 : max 0 (a.length : Int) = a.length := by omega
  refine ACall_of tt_ok (dok _) Try.func73 rfl (by decide) rfl ?_
  (repeat' ((conv => whnf); first | left | refine OpsA.cons ?_ | refine OpsA.nil ?_ | refine AWq.seq ?_ | refine AWq.region ?_ | refine AWq.cond ?_ | refine AWq.block ?_ | refine AWq.skip ?_ | refine AWq.ret ?_ | refine AWq.exit ?_ | refine AWq.loop ?_ | (refine Both.mk ?_ ?_ <;> intro hc <;> (first | exact Bool.noConfusion hc | exact absurd (by with_reducible rfl) hc | exact (hc : False).elim | exact absurd (by assumption) hc | exact absurd hc (by assumption) | (exfalso; omega) | exact absurd hc (by decide) | skip)) | (intro c hc; (try (simp only [AH.none_iff] at hc; repeat (have hn := hc.1; replace hc := hc.2))); (first | (have hc2 := Eq.trans hc (by with_reducible assumption); clear hc; subst hc2) | (refine i64_k hc ?_ ?_ ?_ ; omega; omega; (clear hc; intro hc; subst hc)) | (refine u64_k hc ?_ ?_ ?_ ; omega; omega; (clear hc; intro hc; subst hc)) | (refine u8_k hc ?_ ?_ ?_ ; omega; omega; (clear hc; intro hc; subst hc)) | subst hc | skip)) | (apply Exists.intro; apply And.intro; (focus (repeat (first | assumption | exact AH.set_same _ _ _ | ((first | refine AH.get_ne ?_ ?_ | refine AH.getd_ne ?_ ?_); (first | assumption | omega | exact Ne.symm (by assumption) | exact AH.ne_none (by assumption) (by assumption) | exact AH.none_ne (by assumption) (by assumption) | exact (AH.none_set (by assumption)).1 | exact Ne.symm (AH.none_set (by assumption)).1)))); done)) | (apply Exists.intro; apply And.intro; first | (with_reducible assumption) | ((try simp only [List.getElem?_drop, Nat.mul_one, Nat.add_zero, Nat.zero_add]); first | (with_reducible assumption) | (refine u8s_get ?_; omega) | (refine iS_get ?_; omega) | assumption | rfl)) | (apply And.intro; (first | rfl | (with_reducible assumption) | exact Nat.le_of_ble_eq_true rfl | omega | (exact Int.ofNat_lt.2 (Nat.lt_of_lt_of_eq (by with_reducible assumption) (by decide +kernel))) | assumption | (simp <;> fail) | (simp <;> omega) | (focus (repeat' (first | exact one_u8s _ | exact one_iS _ _ | rfl | apply one_take | apply one_drop | apply one_append)); done))))) <;> (try (conv => whnf))
  refine Then.mk ?_
  (repeat' ((conv => whnf); first | left | refine OpsA.cons ?_ | refine OpsA.nil ?_ | refine AWq.seq ?_ | refine AWq.region ?_ | refine AWq.cond ?_ | refine AWq.block ?_ | refine AWq.skip ?_ | refine AWq.ret ?_ | refine AWq.exit ?_ | refine AWq.loop ?_ | (refine Both.mk ?_ ?_ <;> intro hc <;> (first | exact Bool.noConfusion hc | exact absurd (by with_reducible rfl) hc | exact (hc : False).elim | exact absurd (by assumption) hc | exact absurd hc (by assumption) | (exfalso; omega) | exact absurd hc (by decide) | skip)) | (intro c hc; (try (simp only [AH.none_iff] at hc; repeat (have hn := hc.1; replace hc := hc.2))); (first | (have hc2 := Eq.trans hc (by with_reducible assumption); clear hc; subst hc2) | (refine i64_k hc ?_ ?_ ?_ ; omega; omega; (clear hc; intro hc; subst hc)) | (refine u64_k hc ?_ ?_ ?_ ; omega; omega; (clear hc; intro hc; subst hc)) | (refine u8_k hc ?_ ?_ ?_ ; omega; omega; (clear hc; intro hc; subst hc)) | subst hc | skip)) | (apply Exists.intro; apply And.intro; (focus (repeat (first | assumption | exact AH.set_same _ _ _ | ((first | refine AH.get_ne ?_ ?_ | refine AH.getd_ne ?_ ?_); (first | assumption | omega | exact Ne.symm (by assumption) | exact AH.ne_none (by assumption) (by assumption) | exact AH.none_ne (by assumption) (by assumption) | exact (AH.none_set (by assumption)).1 | exact Ne.symm (AH.none_set (by assumption)).1)))); done)) | (apply Exists.intro; apply And.intro; first | (with_reducible assumption) | ((try simp only [List.getElem?_drop, Nat.mul_one, Nat.add_zero, Nat.zero_add]); first | (with_reducible assumption) | (refine u8s_get ?_; omega) | (refine iS_get ?_; omega) | assumption | rfl)) | (apply And.intro; (first | rfl | (with_reducible assumption) | exact Nat.le_of_ble_eq_true rfl | omega | (exact Int.ofNat_lt.2 (Nat.lt_of_lt_of_eq (by with_reducible assumption) (by decide +kernel))) | assumption | (simp <;> fail) | (simp <;> omega) | (focus (repeat' (first | exact one_u8s _ | exact one_iS _ _ | rfl | apply one_take | apply one_drop | apply one_append)); done))))) <;> (try (conv => whnf))
  refine Then.mk ?_
  (repeat' ((conv => whnf); first | left | refine OpsA.cons ?_ | refine OpsA.nil ?_ | refine AWq.seq ?_ | refine AWq.region ?_ | refine AWq.cond ?_ | refine AWq.block ?_ | refine AWq.skip ?_ | refine AWq.ret ?_ | refine AWq.exit ?_ | refine AWq.loop ?_ | (refine Both.mk ?_ ?_ <;> intro hc <;> (first | exact Bool.noConfusion hc | exact absurd (by with_reducible rfl) hc | exact (hc : False).elim | exact absurd (by assumption) hc | exact absurd hc (by assumption) | (exfalso; omega) | exact absurd hc (by decide) | skip)) | (intro c hc; (try (simp only [AH.none_iff] at hc; repeat (have hn := hc.1; replace hc := hc.2))); (first | (have hc2 := Eq.trans hc (by with_reducible assumption); clear hc; subst hc2) | (refine i64_k hc ?_ ?_ ?_ ; omega; omega; (clear hc; intro hc; subst hc)) | (refine u64_k hc ?_ ?_ ?_ ; omega; omega; (clear hc; intro hc; subst hc)) | (refine u8_k hc ?_ ?_ ?_ ; omega; omega; (clear hc; intro hc; subst hc)) | subst hc | skip)) | (apply Exists.intro; apply And.intro; (focus (repeat (first | assumption | exact AH.set_same _ _ _ | ((first | refine AH.get_ne ?_ ?_ | refine AH.getd_ne ?_ ?_); (first | assumption | omega | exact Ne.symm (by assumption) | exact AH.ne_none (by assumption) (by assumption) | exact AH.none_ne (by assumption) (by assumption) | exact (AH.none_set (by assumption)).1 | exact Ne.symm (AH.none_set (by assumption)).1)))); done)) | (apply Exists.intro; apply And.intro; first | (with_reducible assumption) | ((try simp only [List.getElem?_drop, Nat.mul_one, Nat.add_zero, Nat.zero_add]); first | (with_reducible assumption) | (refine u8s_get ?_; omega) | (refine iS_get ?_; omega) | assumption | rfl)) | (apply And.intro; (first | rfl | (with_reducible assumption) | exact Nat.le_of_ble_eq_true rfl | omega | (exact Int.ofNat_lt.2 (Nat.lt_of_lt_of_eq (by with_reducible assumption) (by decide +kernel))) | assumption | (simp <;> fail) | (simp <;> omega) | (focus (repeat' (first | exact one_u8s _ | exact one_iS _ _ | rfl | apply one_take | apply one_drop | apply one_append)); done))))) <;> (try (conv => whnf))
  obtain ⟨r, rfl⟩ : ∃ r, r = c := ⟨c, rfl⟩
  have hrH : H r = none := by assumption
  refine Then.mk ?_
  (repeat' ((conv => whnf); first | left | refine OpsA.cons ?_ | refine OpsA.nil ?_ | refine AWq.seq ?_ | refine AWq.region ?_ | refine AWq.cond ?_ | refine AWq.block ?_ | refine AWq.skip ?_ | refine AWq.ret ?_ | refine AWq.exit ?_ | refine AWq.loop ?_ | (refine ACall.to (n0 _) ?_) | (refine Both.mk ?_ ?_ <;> intro hc <;> (first | exact Bool.noConfusion hc | exact absurd (by with_reducible rfl) hc | exact (hc : False).elim | exact absurd (by assumption) hc | exact absurd hc (by assumption) | (exfalso; omega) | exact absurd hc (by decide) | skip)) | (intro c hc; (try (simp only [AH.none_iff] at hc; repeat (have hn := hc.1; replace hc := hc.2))); (first | (have hc2 := Eq.trans hc (by with_reducible assumption); clear hc; subst hc2) | (refine i64_k hc ?_ ?_ ?_ ; omega; omega; (clear hc; intro hc; subst hc)) | (refine u64_k hc ?_ ?_ ?_ ; omega; omega; (clear hc; intro hc; subst hc)) | (refine u8_k hc ?_ ?_ ?_ ; omega; omega; (clear hc; intro hc; subst hc)) | subst hc | skip)) | (apply Exists.intro; apply And.intro; (focus (repeat (first | assumption | exact AH.set_same _ _ _ | ((first | refine AH.get_ne ?_ ?_ | refine AH.getd_ne ?_ ?_); (first | assumption | omega | exact Ne.symm (by assumption) | exact AH.ne_none (by assumption) (by assumption) | exact AH.none_ne (by assumption) (by assumption) | exact (AH.none_set (by assumption)).1 | exact Ne.symm (AH.none_set (by assumption)).1)))); done)) | (apply Exists.intro; apply And.intro; first | (with_reducible assumption) | ((try simp only [List.getElem?_drop, Nat.mul_one, Nat.add_zero, Nat.zero_add]); first | (with_reducible assumption) | (refine u8s_get ?_; omega) | (refine iS_get ?_; omega) | assumption | rfl)) | (apply And.intro; (first | rfl | (with_reducible assumption) | exact Nat.le_of_ble_eq_true rfl | omega | (exact Int.ofNat_lt.2 (Nat.lt_of_lt_of_eq (by with_reducible assumption) (by decide +kernel))) | assumption | (simp <;> fail) | (simp <;> omega) | (focus (repeat' (first | exact one_u8s _ | exact one_iS _ _ | rfl | apply one_take | apply one_drop | apply one_append)); done))))) <;> (try (conv => whnf))
  refine Then.mk ?_
  (repeat' ((conv => whnf); first | left | refine OpsA.cons ?_ | refine OpsA.nil ?_ | refine AWq.seq ?_ | refine AWq.region ?_ | refine AWq.cond ?_ | refine AWq.block ?_ | refine AWq.skip ?_ | refine AWq.ret ?_ | refine AWq.exit ?_ | refine AWq.loop ?_ | (refine Both.mk ?_ ?_ <;> intro hc <;> (first | exact Bool.noConfusion hc | exact absurd (by with_reducible rfl) hc | exact (hc : False).elim | exact absurd (by assumption) hc | exact absurd hc (by assumption) | (exfalso; omega) | exact absurd hc (by decide) | skip)) | (intro c hc; (try (simp only [AH.none_iff] at hc; repeat (have hn := hc.1; replace hc := hc.2))); (first | (have hc2 := Eq.trans hc (by with_reducible assumption); clear hc; subst hc2) | (refine i64_k hc ?_ ?_ ?_ ; omega; omega; (clear hc; intro hc; subst hc)) | (refine u64_k hc ?_ ?_ ?_ ; omega; omega; (clear hc; intro hc; subst hc)) | (refine u8_k hc ?_ ?_ ?_ ; omega; omega; (clear hc; intro hc; subst hc)) | subst hc | skip)) | (apply Exists.intro; apply And.intro; (focus (repeat (first | assumption | exact AH.set_same _ _ _ | ((first | refine AH.get_ne ?_ ?_ | refine AH.getd_ne ?_ ?_); (first | assumption | omega | exact Ne.symm (by assumption) | exact AH.ne_none (by assumption) (by assumption) | exact AH.none_ne (by assumption) (by assumption) | exact (AH.none_set (by assumption)).1 | exact Ne.symm (AH.none_set (by assumption)).1)))); done)) | (apply Exists.intro; apply And.intro; first | (with_reducible assumption) | ((try simp only [List.getElem?_drop, Nat.mul_one, Nat.add_zero, Nat.zero_add]); first | (with_reducible assumption) | (refine u8s_get ?_; omega) | (refine iS_get ?_; omega) | assumption | rfl)) | (apply And.intro; (first | rfl | (with_reducible assumption) | exact Nat.le_of_ble_eq_true rfl | omega | (exact Int.ofNat_lt.2 (Nat.lt_of_lt_of_eq (by with_reducible assumption) (by decide +kernel))) | assumption | (simp <;> fail) | (simp <;> omega) | (focus (repeat' (first | exact one_u8s _ | exact one_iS _ _ | rfl | apply one_take | apply one_drop | apply one_append)); done))))) <;> (try (conv => whnf))
  refine Then.mk ?_
  (repeat' ((conv => whnf); first | left | refine OpsA.cons ?_ | refine OpsA.nil ?_ | refine AWq.seq ?_ | refine AWq.region ?_ | refine AWq.cond ?_ | refine AWq.block ?_ | refine AWq.skip ?_ | refine AWq.ret ?_ | refine AWq.exit ?_ | refine AWq.loop ?_ | (refine Both.mk ?_ ?_ <;> intro hc <;> (first | exact Bool.noConfusion hc | exact absurd (by with_reducible rfl) hc | exact (hc : False).elim | exact absurd (by assumption) hc | exact absurd hc (by assumption) | (exfalso; omega) | exact absurd hc (by decide) | skip)) | (intro c hc; (try (simp only [AH.none_iff] at hc; repeat (have hn := hc.1; replace hc := hc.2))); (first | (have hc2 := Eq.trans hc (by with_reducible assumption); clear hc; subst hc2) | (refine i64_k hc ?_ ?_ ?_ ; omega; omega; (clear hc; intro hc; subst hc)) | (refine u64_k hc ?_ ?_ ?_ ; omega; omega; (clear hc; intro hc; subst hc)) | (refine u8_k hc ?_ ?_ ?_ ; omega; omega; (clear hc; intro hc; subst hc)) | subst hc | skip)) | (apply Exists.intro; apply And.intro; (focus (repeat (first | assumption | exact AH.set_same _ _ _ | ((first | refine AH.get_ne ?_ ?_ | refine AH.getd_ne ?_ ?_); (first | assumption | omega | exact Ne.symm (by assumption) | exact AH.ne_none (by assumption) (by assumption) | exact AH.none_ne (by assumption) (by assumption) | exact (AH.none_set (by assumption)).1 | exact Ne.symm (AH.none_set (by assumption)).1)))); done)) | (apply Exists.intro; apply And.intro; first | (with_reducible assumption) | ((try simp only [List.getElem?_drop, Nat.mul_one, Nat.add_zero, Nat.zero_add]); first | (with_reducible assumption) | (refine u8s_get ?_; omega) | (refine iS_get ?_; omega) | assumption | rfl)) | (apply And.intro; (first | rfl | (with_reducible assumption) | exact Nat.le_of_ble_eq_true rfl | omega | (exact Int.ofNat_lt.2 (Nat.lt_of_lt_of_eq (by with_reducible assumption) (by decide +kernel))) | assumption | (simp <;> fail) | (simp <;> omega) | (focus (repeat' (first | exact one_u8s _ | exact one_iS _ _ | rfl | apply one_take | apply one_drop | apply one_append)); done))))) <;> (try (conv => whnf))
  refine Then.mk (AWq.in ?_)
  have hcr : c ≠ r := by assumption
  have hcH : H c = none := by assumption
  refine AWp_cut (H2 := H.set r (.row (dA (List.replicate a.length 0)) 0)) [(0, .cs (dA a) a.length), (1, .cs (dA [d]) 1), (6, .sl r 0 1 0 a.length none), (9, .cs (dA (dg 0)) (dg 0).length), (10, .int .i64 ((a.length : Int) - 1))] ⟨rfl, rfl, rfl, rfl, rfl, trivial⟩ (fun _ => rfl) ?_ ?_
  · rw [← dA_zeros]
    exact HLe.set_of _ _ (HLe.set_of _ _ (HLe.refl _) (AH.none_iff.2 ⟨hcr, hcH⟩)) (AH.none_iff.2 ⟨hcr, hcH⟩)
  refine AWp.of tt_ok (dok _) rfl ?_
  clear hcr hcH n0 m1 m2
  (repeat' ((conv => whnf); first | refine Then.mk ?_ | left | refine OpsA.cons ?_ | refine OpsA.nil ?_ | refine AWq.seq ?_ | refine AWq.region ?_ | refine AWq.cond ?_ | refine AWq.block ?_ | refine AWq.skip ?_ | refine AWq.ret ?_ | refine AWq.exit ?_ | refine AWq.loop ?_ | (refine Both.mk ?_ ?_ <;> intro hc <;> (first | exact Bool.noConfusion hc | exact absurd (by with_reducible rfl) hc | exact (hc : False).elim | exact absurd (by assumption) hc | exact absurd hc (by assumption) | (exfalso; omega) | exact absurd hc (by decide) | skip)) | (intro c hc; (try (simp only [AH.none_iff] at hc; repeat (have hn := hc.1; replace hc := hc.2))); (first | (have hc2 := Eq.trans hc (by with_reducible assumption); clear hc; subst hc2) | (refine i64_k hc ?_ ?_ ?_ ; omega; omega; (clear hc; intro hc; subst hc)) | (refine u64_k hc ?_ ?_ ?_ ; omega; omega; (clear hc; intro hc; subst hc)) | (refine u8_k hc ?_ ?_ ?_ ; omega; omega; (clear hc; intro hc; subst hc)) | subst hc | skip)) | (apply Exists.intro; apply And.intro; (focus (repeat (first | assumption | exact AH.set_same _ _ _ | ((first | refine AH.get_ne ?_ ?_ | refine AH.getd_ne ?_ ?_); (first | assumption | omega | exact Ne.symm (by assumption) | exact AH.ne_none (by assumption) (by assumption) | exact AH.none_ne (by assumption) (by assumption) | exact (AH.none_set (by assumption)).1 | exact Ne.symm (AH.none_set (by assumption)).1)))); done)) | (apply Exists.intro; apply And.intro; first | (with_reducible assumption) | ((try simp only [List.getElem?_drop, Nat.mul_one, Nat.add_zero, Nat.zero_add]); first | (with_reducible assumption) | (refine u8s_get ?_; omega) | (refine iS_get ?_; omega) | assumption | rfl)) | (apply And.intro; (first | rfl | (with_reducible assumption) | exact Nat.le_of_ble_eq_true rfl | omega | (exact Int.ofNat_lt.2 (Nat.lt_of_lt_of_eq (by with_reducible assumption) (by decide +kernel))) | assumption | (simp <;> fail) | (simp <;> omega) | (focus (repeat' (first | exact one_u8s _ | exact one_iS _ _ | rfl | apply one_take | apply one_drop | apply one_append)); done))))) <;> (try (conv => whnf))
  refine AWp_loop (σ := Nat) (9 :: 10 :: 11 :: 12 :: 13 :: 14 :: 15 :: 37 :: 38 :: 39 :: 40 :: 41 :: 42 :: 43 :: 44 :: 45 :: 46 :: 47 :: 48 :: 49 :: 50 :: 51 :: 52 :: 53 :: 54 :: 55 :: 56 :: 57 :: 58 :: 59 :: 60 :: 61 :: 62 :: 63 :: 64 :: 65 :: 66 :: 67 :: 68 :: 69 :: 70 :: 71 :: 72 :: 73 :: 74 :: 75 :: 76 :: 77 :: 78 :: 79 :: 80 :: 81 :: 82 :: 83 :: 84 :: 85 :: []) (fun k => [(9, .cs (dA (dg (dq d (a.drop k)).2)) (dg (dq d (a.drop k)).2).length), (10, .int .i64 ((k : Int) - 1))]) (fun k => H.set r (.row (dA (List.replicate k 0 ++ (dq d (a.drop k)).1)) 0)) (fun k => k ≤ a.length) (fun k => k) a.length rfl (Nat.le_refl _) ?_ ?_ ?_
  · rw [List.drop_length]; exact ⟨rfl, rfl, trivial⟩
  · rw [List.drop_length]
    refine HLe.of_eq ?_
    show H.set r (.row (dA (List.replicate a.length 0 ++ [])) 0) = _
    rw [List.append_nil]
  · intro k hk
    dsimp only at hk ⊢
    refine AWp.of tt_ok (dok _) rfl ?_
    by_cases h0 : k = 0
    · subst h0
      rw [List.drop_zero]
      obtain ⟨o1, o2, o3, o4⟩ := dq_ok hd0 oa
      rw [o4, hv]
      (repeat' ((conv => whnf); first | refine Then.mk ?_ | left | refine OpsA.cons ?_ | refine OpsA.nil ?_ | refine AWq.seq ?_ | refine AWq.region ?_ | refine AWq.cond ?_ | refine AWq.block ?_ | refine AWq.skip ?_ | refine AWq.ret ?_ | refine AWq.exit ?_ | refine AWq.loop ?_ | (refine Both.mk ?_ ?_ <;> intro hc <;> (first | exact Bool.noConfusion hc | exact absurd (by with_reducible rfl) hc | exact (hc : False).elim | exact absurd (by assumption) hc | exact absurd hc (by assumption) | (exfalso; omega) | exact absurd hc (by decide) | skip)) | (intro c hc; (try (simp only [AH.none_iff] at hc; repeat (have hn := hc.1; replace hc := hc.2))); (first | (have hc2 := Eq.trans hc (by with_reducible assumption); clear hc; subst hc2) | (refine i64_k hc ?_ ?_ ?_ ; omega; omega; (clear hc; intro hc; subst hc)) | (refine u64_k hc ?_ ?_ ?_ ; omega; omega; (clear hc; intro hc; subst hc)) | (refine u8_k hc ?_ ?_ ?_ ; omega; omega; (clear hc; intro hc; subst hc)) | subst hc | skip)) | (apply Exists.intro; apply And.intro; (focus (repeat (first | assumption | exact AH.set_same _ _ _ | ((first | refine AH.get_ne ?_ ?_ | refine AH.getd_ne ?_ ?_); (first | assumption | omega | exact Ne.symm (by assumption) | exact AH.ne_none (by assumption) (by assumption) | exact AH.none_ne (by assumption) (by assumption) | exact (AH.none_set (by assumption)).1 | exact Ne.symm (AH.none_set (by assumption)).1)))); done)) | (apply Exists.intro; apply And.intro; first | (with_reducible assumption) | ((try simp only [List.getElem?_drop, Nat.mul_one, Nat.add_zero, Nat.zero_add]); first | (with_reducible assumption) | (refine u8s_get ?_; omega) | (refine iS_get ?_; omega) | assumption | rfl)) | (apply And.intro; (first | rfl | (with_reducible assumption) | exact Nat.le_of_ble_eq_true rfl | omega | (exact Int.ofNat_lt.2 (Nat.lt_of_lt_of_eq (by with_reducible assumption) (by decide +kernel))) | assumption | (simp <;> fail) | (simp <;> omega) | (focus (repeat' (first | exact one_u8s _ | exact one_iS _ _ | rfl | apply one_take | apply one_drop | apply one_append)); done))))) <;> (try (conv => whnf))
      exact HLe.refl _
    · obtain ⟨j, rfl⟩ : ∃ j, k = j + 1 := ⟨k - 1, by omega⟩
      have hst := dq_step d a (j := j) (by omega)
      have hod := dq_ok hd0 (oa.drop (j + 1))
      have hgj := dA_gi (l := a) (i := j) (by omega)
      have haj := oa.at j
      have hkj : ((j + 1 : Nat) : Int) - 1 = j := by omega
      have hsd : (dq d (a.drop (j + 1))).2 < d := by rw [hod.2.2.2]; exact Nat.mod_lt _ (by omega)
      rw [hkj]
      generalize (dq d (a.drop (j + 1))).2 = s at *
      generalize (dq d (a.drop (j + 1))).1 = qs at *
      generalize a.getD j 0 = x0 at *
      obtain ⟨R, hR⟩ : ∃ R, R = x0 + 10000 * s := ⟨_, rfl⟩
      rw [← hR] at hst
      have hRd : R < 10000 * d := by omega
      have hR8 : R < 100000000 := by omega
      have hnm := fun H => normal_k false (x0 :: dg s) (fun y hy => (List.mem_cons.1 hy).elim (fun e => by rw [e]; exact haj) (dok_dg s y)) (by
        rw [List.length_cons]
        have := dg_len (n := s) (k := 1) (by omega)
        omega) H
      have hdR : dv (x0 :: dg s) = R := by show x0 + 10000 * dv (dg s) = R; rw [dv_dg, hR]
      rw [hdR] at hnm
      unfold nN at hnm
      have hone := dA_one (dg s)
      have hone2 := dA_one (x0 :: dg s)
      have hsl : (dg s).length ≤ 1 := dg_len (n := s) (k := 1) (by omega)
      have hdal : (dA (dg s)).length = (dg s).length := by simp
      have hlx : (x0 :: dg s).length = 1 + (dg s).length := by rw [List.length_cons]; omega
      rw [hlx] at hnm
      have kr : (H.set r (.row (dA (List.replicate (j + 1) 0 ++ qs)) 0)) r = some (.row (dA (List.replicate (j + 1) 0 ++ qs)) 0) := AH.set_same _ _ _
      have hbase : HLe H (H.set r (.row (dA (List.replicate (j + 1) 0 ++ qs)) 0)) := HLe.fresh _ hrH
      have hnone : ∀ c, (H.set r (.row (dA (List.replicate (j + 1) 0 ++ qs)) 0)) c = none → H c = none := fun c hc => (AH.none_set hc).2
      generalize (H.set r (.row (dA (List.replicate (j + 1) 0 ++ qs)) 0)) = G at *
      (repeat' ((conv => whnf); first | refine Then.mk ?_ | refine Or.inr (Or.inl ?_) | refine OpsA.cons ?_ | refine OpsA.nil ?_ | refine AWq.seq ?_ | refine AWq.region ?_ | refine AWq.cond ?_ | refine AWq.block ?_ | refine AWq.skip ?_ | refine AWq.ret ?_ | refine AWq.exit ?_ | refine AWq.loop ?_ | (refine Both.mk ?_ ?_ <;> intro hc <;> (first | exact Bool.noConfusion hc | exact absurd (by with_reducible rfl) hc | exact (hc : False).elim | exact absurd (by assumption) hc | exact absurd hc (by assumption) | (exfalso; omega) | exact absurd hc (by decide) | skip)) | (intro c hc; (try (simp only [AH.none_iff] at hc; repeat (have hn := hc.1; replace hc := hc.2))); (first | (have hc2 := Eq.trans hc (by with_reducible assumption); clear hc; subst hc2) | (refine i64_k hc ?_ ?_ ?_ ; omega; omega; (clear hc; intro hc; subst hc)) | (refine u64_k hc ?_ ?_ ?_ ; omega; omega; (clear hc; intro hc; subst hc)) | (refine u8_k hc ?_ ?_ ?_ ; omega; omega; (clear hc; intro hc; subst hc)) | subst hc | skip)) | (apply Exists.intro; apply And.intro; (focus (repeat (first | assumption | exact AH.set_same _ _ _ | ((first | refine AH.get_ne ?_ ?_ | refine AH.getd_ne ?_ ?_); (first | assumption | omega | exact Ne.symm (by assumption) | exact AH.ne_none (by assumption) (by assumption) | exact AH.none_ne (by assumption) (by assumption) | exact (AH.none_set (by assumption)).1 | exact Ne.symm (AH.none_set (by assumption)).1)))); done)) | (apply Exists.intro; apply And.intro; first | (with_reducible assumption) | ((try simp only [List.getElem?_drop, Nat.mul_one, Nat.add_zero, Nat.zero_add]); first | (with_reducible assumption) | (refine u8s_get ?_; omega) | (refine iS_get ?_; omega) | assumption | rfl)) | (apply And.intro; (first | rfl | (with_reducible assumption) | exact Nat.le_of_ble_eq_true rfl | omega | (exact Int.ofNat_lt.2 (Nat.lt_of_lt_of_eq (by with_reducible assumption) (by decide +kernel))) | assumption | (simp <;> fail) | (simp <;> omega) | (focus (repeat' (first | exact one_u8s _ | exact one_iS _ _ | rfl | apply one_take | apply one_drop | apply one_append)); done))))) <;> (try (conv => whnf))
      have hcG : G c = none := by assumption
      refine ACall.frz (pre := [.bool false]) (post := []) (r := c) (v := 0 + 1) (es := 1) (n := 1 + (dg s).length) (cells := dA (x0 :: dg s)) (AH.set_same _ _ _) (by rw [dA_len, hlx]; omega) ?_
      rw [AH.set_set, AH.del_set _ _ _ hcG]
      refine ACall.to (hnm _) ?_
      have q1 := fun H => digit_c R d hR8 hd0 hd H
      (repeat' ((conv => whnf); first | refine Then.mk ?_ | left | refine OpsA.cons ?_ | refine OpsA.nil ?_ | refine AWq.seq ?_ | refine AWq.region ?_ | refine AWq.cond ?_ | refine AWq.block ?_ | refine AWq.skip ?_ | refine AWq.ret ?_ | refine AWq.exit ?_ | refine AWq.loop ?_ | (refine ACall.to (q1 _) ?_) | (refine Both.mk ?_ ?_ <;> intro hc <;> (first | exact Bool.noConfusion hc | exact absurd (by with_reducible rfl) hc | exact (hc : False).elim | exact absurd (by assumption) hc | exact absurd hc (by assumption) | (exfalso; omega) | exact absurd hc (by decide) | skip)) | (intro c hc; (try (simp only [AH.none_iff] at hc; repeat (have hn := hc.1; replace hc := hc.2))); (first | (have hc2 := Eq.trans hc (by with_reducible assumption); clear hc; subst hc2) | (refine i64_k hc ?_ ?_ ?_ ; omega; omega; (clear hc; intro hc; subst hc)) | (refine u64_k hc ?_ ?_ ?_ ; omega; omega; (clear hc; intro hc; subst hc)) | (refine u8_k hc ?_ ?_ ?_ ; omega; omega; (clear hc; intro hc; subst hc)) | subst hc | skip)) | (apply Exists.intro; apply And.intro; (focus (repeat (first | assumption | exact AH.set_same _ _ _ | ((first | refine AH.get_ne ?_ ?_ | refine AH.getd_ne ?_ ?_); (first | assumption | omega | exact Ne.symm (by assumption) | exact AH.ne_none (by assumption) (by assumption) | exact AH.none_ne (by assumption) (by assumption) | exact (AH.none_set (by assumption)).1 | exact Ne.symm (AH.none_set (by assumption)).1)))); done)) | (apply Exists.intro; apply And.intro; first | (with_reducible assumption) | ((try simp only [List.getElem?_drop, Nat.mul_one, Nat.add_zero, Nat.zero_add]); first | (with_reducible assumption) | (refine u8s_get ?_; omega) | (refine iS_get ?_; omega) | assumption | rfl)) | (apply And.intro; (first | rfl | (with_reducible assumption) | exact Nat.le_of_ble_eq_true rfl | omega | (exact Int.ofNat_lt.2 (Nat.lt_of_lt_of_eq (by with_reducible assumption) (by decide +kernel))) | assumption | (simp <;> fail) | (simp <;> omega) | (focus (repeat' (first | exact one_u8s _ | exact one_iS _ _ | rfl | apply one_take | apply one_drop | apply one_append)); done))))) <;> (try (conv => whnf))
      have q2 := fun m (hm : m < 10000) H => small_c d m hd0 hd hm H
      have hR2 : (dg R).length ≤ 2 := dg_len (n := R) (k := 2) (by omega)
      have hq9 : R / d ≤ 9999 := by
        have : R / d < 10000 := (Nat.div_lt_iff_lt_mul (by omega)).2 hRd
        omega
      have hdm : ∀ m, m < 10000 → (dg (d * m)).length ≤ 2 := fun m hm => dg_len (n := d * m) (k := 2) (Nat.lt_of_lt_of_le (Nat.mul_lt_mul_of_lt_of_le hd (Nat.le_of_lt hm) (by decide)) (by decide))
      have hcmp : ∀ m, m < 10000 → ∀ H, ACall Try.prog 78 [.cs (dA (dg (d * m))) (dg (d * m)).length, .cs (dA (dg R)) (dg R).length] H (fun v H' => v = .int .i64 (cmpV (d * m) R) ∧ H' = H) := fun m hm H => compared_c (d * m) R (by have := hdm m hm; omega) (by omega) H
      have hqd : R / d * d ≤ R := Nat.div_mul_le_self _ _
      have hqd2 : d * (R / d) + R % d = R := Nat.div_add_mod _ _
      have hlo := lo_le (R := R) hd0
      have hhi := le_hi hd0 hRd
      have hhi9 : hiV R d ≤ 9999 := by unfold hiV; omega
      have hmq : ∀ m, d * m ≤ R ↔ m ≤ R / d := fun m => by
        rw [Nat.le_div_iff_mul_le (by omega), Nat.mul_comm]
      have hmo := minL_ok (dok_dg R) (dok_dg (d * (R / d))) (by
        by_cases hl : (dg R).length < (dg (d * (R / d))).length
        · have := dg_short hl; omega
        · omega) (by rw [dv_dg, dv_dg]; omega)
      obtain ⟨w1, w2, w3⟩ := hmo
      rw [dv_dg, dv_dg, show R - d * (R / d) = R % d by omega] at w2
      have hmin := fun H => minus_c (dg R) (dg (d * (R / d))) (dok_dg R) (dok_dg (d * (R / d))) (by omega) H
      have hnm2 := fun H => normal_k false (minL (dg R) (dg (d * (R / d)))) w1 (by omega) H
      rw [w2, w3] at hnm2
      unfold nN at hnm2
      have hsm := q2 (R / d) (by omega)
      have hrow : wrA (dA (List.replicate (j + 1) 0 ++ qs)) (0 + (j : Int).toNat * 1) [.int .i64 (R / d : Nat)] = dA (List.replicate j 0 ++ (R / d :: qs)) := by
        have e : List.replicate (j + 1) 0 ++ qs = List.replicate j 0 ++ 0 :: qs := by rw [List.replicate_succ']; simp
        rw [Nat.zero_add, Nat.mul_one, Int.toNat_natCast, e, dA_wr (by simp)]
        congr 1
        have := set_at (List.replicate j 0) qs 0 (R / d)
        rwa [List.length_replicate] at this
      have hrl : (dA (List.replicate (j + 1) 0 ++ qs)).length = a.length := by
        have := hod.2.1
        rw [List.length_drop] at this
        simp; omega
      refine AWp_loop (σ := Nat × Nat) (12 :: 13 :: 14 :: 57 :: 58 :: 59 :: 60 :: 61 :: 62 :: 63 :: 64 :: 65 :: 66 :: 67 :: 68 :: 69 :: 70 :: 71 :: 72 :: 73 :: []) (fun (lo, hi) => [(12, .int .i64 lo), (13, .int .i64 hi)]) (fun _ => G) (fun (lo, hi) => lo ≤ R / d ∧ R / d ≤ hi ∧ hi ≤ 9999) (fun (lo, hi) => hi - lo) (loV R d, hiV R d) rfl ⟨hlo, hhi, hhi9⟩ ⟨rfl, rfl, trivial⟩ (by ((repeat' (first | refine HLe.set_of _ _ ?_ ?_ | refine HLe.del _ ?_ ?_)) <;> (first | assumption | exact HLe.refl _ | exact HLe.none (by assumption) (by assumption) | (simp_all; done)))) ?_
      rintro ⟨lo, hi⟩ ⟨i1, i2, i3⟩
      dsimp only at i1 i2 i3 ⊢
      refine AWp.of tt_ok (dok _) rfl ?_
      by_cases hlh : lo < hi
      · obtain ⟨m, hm⟩ : ∃ m, m = (lo + hi + 1) / 2 := ⟨_, rfl⟩
        have em : IntKind.i64.wrap (((lo : Int) + hi + 1).tdiv 2) = m := by rw [Int.tdiv_eq_ediv_of_nonneg (by omega), IntKind.wrap_i64]; omega
        have hsm := q2 m (by omega)
        have hcm := hcmp m (by omega)
        have hcv : cmpV (d * m) R = if d * m < R then -1 else if R < d * m then 1 else 0 := rfl
        have hmm := hmq m
        by_cases hle : d * m ≤ R
        · have hc0 : cmpV (d * m) R ≤ 0 := by rw [hcv]; split <;> (try split) <;> omega
          generalize cmpV (d * m) R = cv at *
          (repeat' ((conv => whnf); first | refine Then.mk ?_ | left | refine OpsA.cons ?_ | refine OpsA.nil ?_ | refine AWq.seq ?_ | refine AWq.region ?_ | refine AWq.cond ?_ | refine AWq.block ?_ | refine AWq.skip ?_ | refine AWq.ret ?_ | refine AWq.exit ?_ | refine AWq.loop ?_ | (refine ACall.to (hsm _) ?_) | (refine ACall.to (hcm _) ?_) | (refine Both.mk ?_ ?_ <;> intro hc <;> (first | exact Bool.noConfusion hc | exact absurd (by with_reducible rfl) hc | exact (hc : False).elim | exact absurd (by assumption) hc | exact absurd hc (by assumption) | (exfalso; omega) | exact absurd hc (by decide) | skip)) | (intro c hc; (try (simp only [AH.none_iff] at hc; repeat (have hn := hc.1; replace hc := hc.2))); (first | (have hc2 := Eq.trans hc (by with_reducible assumption); clear hc; subst hc2) | (refine i64_k hc ?_ ?_ ?_ ; omega; omega; (clear hc; intro hc; subst hc)) | (refine u64_k hc ?_ ?_ ?_ ; omega; omega; (clear hc; intro hc; subst hc)) | (refine u8_k hc ?_ ?_ ?_ ; omega; omega; (clear hc; intro hc; subst hc)) | subst hc | skip)) | (apply Exists.intro; apply And.intro; (focus (repeat (first | assumption | exact AH.set_same _ _ _ | ((first | refine AH.get_ne ?_ ?_ | refine AH.getd_ne ?_ ?_); (first | assumption | omega | exact Ne.symm (by assumption) | exact AH.ne_none (by assumption) (by assumption) | exact AH.none_ne (by assumption) (by assumption) | exact (AH.none_set (by assumption)).1 | exact Ne.symm (AH.none_set (by assumption)).1)))); done)) | (apply Exists.intro; apply And.intro; first | (with_reducible assumption) | ((try simp only [List.getElem?_drop, Nat.mul_one, Nat.add_zero, Nat.zero_add]); first | (with_reducible assumption) | (refine u8s_get ?_; omega) | (refine iS_get ?_; omega) | assumption | rfl)) | (apply And.intro; (first | rfl | (with_reducible assumption) | exact Nat.le_of_ble_eq_true rfl | omega | (exact Int.ofNat_lt.2 (Nat.lt_of_lt_of_eq (by with_reducible assumption) (by decide +kernel))) | assumption | (simp <;> fail) | (simp <;> omega) | (focus (repeat' (first | exact one_u8s _ | exact one_iS _ _ | rfl | apply one_take | apply one_drop | apply one_append)); done))))) <;> (try (conv => whnf))
          exact ⟨(m, hi), ⟨hmm.1 hle, i2, i3⟩, by show hi - m < hi - lo; omega, ⟨rfl, rfl, trivial⟩, HLe.refl _⟩
        · have hc0 : 0 < cmpV (d * m) R := by rw [hcv, if_neg (by omega), if_pos (by omega)]; decide
          have hm1 : R / d < m := by
            by_cases h : m ≤ R / d
            · exact absurd (hmm.2 h) hle
            · omega
          generalize cmpV (d * m) R = cv at *
          (repeat' ((conv => whnf); first | refine Then.mk ?_ | left | refine OpsA.cons ?_ | refine OpsA.nil ?_ | refine AWq.seq ?_ | refine AWq.region ?_ | refine AWq.cond ?_ | refine AWq.block ?_ | refine AWq.skip ?_ | refine AWq.ret ?_ | refine AWq.exit ?_ | refine AWq.loop ?_ | (refine ACall.to (hsm _) ?_) | (refine ACall.to (hcm _) ?_) | (refine Both.mk ?_ ?_ <;> intro hc <;> (first | exact Bool.noConfusion hc | exact absurd (by with_reducible rfl) hc | exact (hc : False).elim | exact absurd (by assumption) hc | exact absurd hc (by assumption) | (exfalso; omega) | exact absurd hc (by decide) | skip)) | (intro c hc; (try (simp only [AH.none_iff] at hc; repeat (have hn := hc.1; replace hc := hc.2))); (first | (have hc2 := Eq.trans hc (by with_reducible assumption); clear hc; subst hc2) | (refine i64_k hc ?_ ?_ ?_ ; omega; omega; (clear hc; intro hc; subst hc)) | (refine u64_k hc ?_ ?_ ?_ ; omega; omega; (clear hc; intro hc; subst hc)) | (refine u8_k hc ?_ ?_ ?_ ; omega; omega; (clear hc; intro hc; subst hc)) | subst hc | skip)) | (apply Exists.intro; apply And.intro; (focus (repeat (first | assumption | exact AH.set_same _ _ _ | ((first | refine AH.get_ne ?_ ?_ | refine AH.getd_ne ?_ ?_); (first | assumption | omega | exact Ne.symm (by assumption) | exact AH.ne_none (by assumption) (by assumption) | exact AH.none_ne (by assumption) (by assumption) | exact (AH.none_set (by assumption)).1 | exact Ne.symm (AH.none_set (by assumption)).1)))); done)) | (apply Exists.intro; apply And.intro; first | (with_reducible assumption) | ((try simp only [List.getElem?_drop, Nat.mul_one, Nat.add_zero, Nat.zero_add]); first | (with_reducible assumption) | (refine u8s_get ?_; omega) | (refine iS_get ?_; omega) | assumption | rfl)) | (apply And.intro; (first | rfl | (with_reducible assumption) | exact Nat.le_of_ble_eq_true rfl | omega | (exact Int.ofNat_lt.2 (Nat.lt_of_lt_of_eq (by with_reducible assumption) (by decide +kernel))) | assumption | (simp <;> fail) | (simp <;> omega) | (focus (repeat' (first | exact one_u8s _ | exact one_iS _ _ | rfl | apply one_take | apply one_drop | apply one_append)); done))))) <;> (try (conv => whnf))
          exact ⟨(lo, m - 1), ⟨i1, by omega, by omega⟩, by show m - 1 - lo < hi - lo; omega, ⟨rfl, congrArg (AV.int .i64) (by omega), trivial⟩, HLe.refl _⟩
      · have hlq : lo = R / d := by omega
        subst hlq
        generalize hQ : R / d = Q at *
        generalize hM : R % d = M at *
        generalize minL (dg R) (dg (d * Q)) = mn at *
        (repeat' ((conv => whnf); first | refine Then.mk ?_ | left | refine OpsA.cons ?_ | refine OpsA.nil ?_ | refine AWq.seq ?_ | refine AWq.region ?_ | refine AWq.cond ?_ | refine AWq.block ?_ | refine AWq.skip ?_ | refine AWq.ret ?_ | refine AWq.exit ?_ | refine AWq.loop ?_ | (refine ACall.to (hsm _) ?_) | (refine ACall.to (hmin _) ?_) | (refine ACall.to (hnm2 _) ?_) | (refine Both.mk ?_ ?_ <;> intro hc <;> (first | exact Bool.noConfusion hc | exact absurd (by with_reducible rfl) hc | exact (hc : False).elim | exact absurd (by assumption) hc | exact absurd hc (by assumption) | (exfalso; omega) | exact absurd hc (by decide) | skip)) | (intro c hc; (try (simp only [AH.none_iff] at hc; repeat (have hn := hc.1; replace hc := hc.2))); (first | (have hc2 := Eq.trans hc (by with_reducible assumption); clear hc; subst hc2) | (refine i64_k hc ?_ ?_ ?_ ; omega; omega; (clear hc; intro hc; subst hc)) | (refine u64_k hc ?_ ?_ ?_ ; omega; omega; (clear hc; intro hc; subst hc)) | (refine u8_k hc ?_ ?_ ?_ ; omega; omega; (clear hc; intro hc; subst hc)) | subst hc | skip)) | (apply Exists.intro; apply And.intro; (focus (repeat (first | assumption | exact AH.set_same _ _ _ | ((first | refine AH.get_ne ?_ ?_ | refine AH.getd_ne ?_ ?_); (first | assumption | omega | exact Ne.symm (by assumption) | exact AH.ne_none (by assumption) (by assumption) | exact AH.none_ne (by assumption) (by assumption) | exact (AH.none_set (by assumption)).1 | exact Ne.symm (AH.none_set (by assumption)).1)))); done)) | (apply Exists.intro; apply And.intro; first | (with_reducible assumption) | ((try simp only [List.getElem?_drop, Nat.mul_one, Nat.add_zero, Nat.zero_add]); first | (with_reducible assumption) | (refine u8s_get ?_; omega) | (refine iS_get ?_; omega) | assumption | rfl)) | (apply And.intro; (first | rfl | (with_reducible assumption) | exact Nat.le_of_ble_eq_true rfl | omega | (exact Int.ofNat_lt.2 (Nat.lt_of_lt_of_eq (by with_reducible assumption) (by decide +kernel))) | assumption | (simp <;> fail) | (simp <;> omega) | (focus (repeat' (first | exact one_u8s _ | exact one_iS _ _ | rfl | apply one_take | apply one_drop | apply one_append)); done))))) <;> (try (conv => whnf))
        have hcG3 : G c = none := by assumption
        refine ⟨j, by omega, Nat.lt_succ_self _, ⟨?_, rfl, trivial⟩, ?_⟩
        · rw [hst]; rfl
        · rw [hst]
          dsimp only
          rw [← hrow]
          exact HLe.set (HLe.set_of _ _ (HLe.set_of _ _ hbase (hnone _ hcG3)) (hnone _ hcG3)) _ _
end Go.Proofs.Ytgmooalikccbiaa
/- The frame of the abstract walk, part 31: drawn regions in which rows are made and cells are taken and written, beside loads from other rows. -/
set_option linter.unusedVariables false
set_option linter.unusedSimpArgs false
namespace Go.Fw
open Go.RowKit

variable {κ : KM} {F : FM} {B : Nat} {w0 w : World} {H : AH} {P : Program} {T : TT}

/-- An operation's class: its result's, or that of the cell to which it writes. -/
def cK (cl : List (Nat × Nat)) (o : Oper) : Option Nat :=
  match o.dst with
  | some t => cOf cl (some t)
  | none => match o.op with
    | .store _ (.tmp a) _ => cOf cl (some a)
    | _ => none
theorem cOf_in {cl : List (Nat × Nat)} {d : Option Nat} {c : Nat} : cOf cl d = some c → c ∈ cl.map (·.2) := by
  cases d with
  | none => intro h; cases cl <;> simp [cOf] at h
  | some t =>
    induction cl with
    | nil => intro h; simp [cOf] at h
    | cons y l ih =>
      obtain ⟨u, c'⟩ := y
      intro h
      simp only [cOf] at h
      cases hb : Nat.beq u t with
      | true => rw [hb] at h; simp only [cond_true, Option.some.injEq] at h; subst h; simp
      | false => rw [hb] at h; simp only [cond_false] at h; exact List.mem_cons_of_mem _ (ih h)
theorem cK_in {cl : List (Nat × Nat)} {o : Oper} {c : Nat} (h : cK cl o = some c) : c ∈ cl.map (·.2) := by
  unfold cK at h
  split at h
  · exact cOf_in h
  · split at h
    · exact cOf_in h
    · cases h
/-- Alike but for the rows of the classes. -/
def OutK (cl : List (Nat × Nat)) (nm : Nat → Nat) (G H : AH) : Prop := ∀ q, (∀ c, c ∈ cl.map (·.2) → nm c ≠ q) → G q = H q
theorem OutK.refl {cl : List (Nat × Nat)} {nm : Nat → Nat} : OutK cl nm H H := fun _ _ => rfl
theorem OutK.set {cl : List (Nat × Nat)} {nm : Nat → Nat} {G : AH} {c : Nat} {o : AO} (hc : c ∈ cl.map (·.2)) (h : OutK cl nm G H) : OutK cl nm G (H.set (nm c) o) :=
  fun q hq => (h q hq).trans (AH.set_ne _ _ (fun e => hq c hc e.symm)).symm
theorem OutK.set' {cl : List (Nat × Nat)} {nm : Nat → Nat} {G : AH} {c : Nat} {o : AO} (hc : c ∈ cl.map (·.2)) (h : OutK cl nm G H) : OutK cl nm (G.set (nm c) o) H :=
  fun q hq => (AH.set_ne _ _ (fun e => hq c hc e.symm)).trans (h q hq)

theorem VR.renameP {κ κ' : KM} {r v q u off : Nat} {x : Value} {i : Inc} (hi : κ r v = some i) (hq : κ' q u = some i) (h : VR κ F (.ptr r v off) x) : VR κ' F (.ptr q u off) x := by
  cases h with
  | ptr h => rw [hi] at h; cases h; exact .ptr hq
/-- What takes a cell. -/
def TakesP (P : Program) (T : TT) (o : Op) (e : Env) (G : AH) (cells : List AV) : Prop :=
  stepA P T o e G (fun v' H' => ∃ r, G r = none ∧ v' = .ptr r 0 0 ∧ H' = G.set r (.row cells 0))
/-- One row changes. -/
def LStepK (P : Program) (T : TT) (o : Op) (e : Env) (G : AH) (q : Nat) (v : AV) (o' : AO) : Prop :=
  LStep1 P T o e G q v o' ∨ ∃ cells, v = .ptr q 1 0 ∧ o' = .row cells 1 ∧ G q = some (.row [] 0) ∧ TakesP P T o e G cells
theorem Left.namedP {x : Value} {w' : World} {cells : List AV} {q : Nat} (hq : H q = some (.row [] 0)) (h : Left κ F B w0 (fun v' H' => ∃ r, H r = none ∧ v' = .ptr r 0 0 ∧ H' = H.set r (.row cells 0)) x w') :
    Left κ F B w0 (fun v' H' => v' = .ptr q 1 0 ∧ H' = H.set q (.row cells 1)) x w' := by
  obtain ⟨y, H', κ', F', h1, h2, I, hv, r, hr, rfl, rfl⟩ := h
  have hne : q ≠ r := fun e => by rw [e, hr] at hq; cases hq
  obtain ⟨i, hi, _⟩ := I.objs _ _ (AH.set_same H r (.row cells 0))
  obtain ⟨hle, I'⟩ := I.rename (q := q) (u := 0) (AH.set_same H r (.row cells 0)) hi (by rw [AH.set_ne _ _ hne]; exact hq) hne
  rw [AH.del_set _ _ _ hr] at I'
  exact ⟨_, _, _, F', h1.trans hle, h2, I', VR.renameP hi (KM.put_same ..) hv, rfl, rfl⟩

/-- Those of one class are ordered. -/
def ordK (all : Array Oper) (cl : List (Nat × Nat)) : Bool :=
  let ah := aheadOf all
  (List.range all.size).all fun j => (List.range j).all fun i =>
    match (all[i]?).bind (cK cl), (all[j]?).bind (cK cl) with
    | some a, some b => !(Nat.beq a b) || (ah.getD j 0).testBit i
    | _, _ => true

theorem ordK_spec {all : Array Oper} {cl : List (Nat × Nat)} (h : ordK all cl = true) {i j c : Nat} (hlt : i < j) (hj : j < all.size) (h1 : (all[i]?).bind (cK cl) = some c) (h2 : (all[j]?).bind (cK cl) = some c) :
    ((aheadOf all).getD j 0).testBit i = true := by
  unfold ordK at h
  have a1 := List.all_eq_true.1 h j (by simpa using hj)
  have a2 := List.all_eq_true.1 a1 i (by simpa using hlt)
  simp only [h1, h2] at a2
  have : Nat.beq c c = true := Nat.beq_refl c
  simpa [this] using a2

def drawKS (N : Nat) (P : Program) (T : TT) (cl : List (Nat × Nat)) (nm : Nat → Nat) : List Oper → (St → AH → Prop) → St → AH → Prop
  | [], K, s, H => K s H
  | o :: rest, K, s, H => dstOk N o.dst = true ∧ o.guard = none ∧ match cK cl o with
    | none => ∃ v, (∀ G, OutK cl nm G H → LStep0 P T o.op s.e G v) ∧ drawKS N P T cl nm rest K (putS s o.dst v) H
    | some c => ∃ ob v o', H (nm c) = some ob ∧ (∀ G, OutK cl nm G H → G (nm c) = some ob → LStepK P T o.op s.e G (nm c) v o') ∧ drawKS N P T cl nm rest K (putS s o.dst v) (H.set (nm c) o')

def infK (cl : List (Nat × Nat)) (nm : Nat → Nat) (l : List Oper) (obs : List AO) (k : Nat) : Option (Nat × AO) :=
  ((l[k]?).bind (cK cl)).map fun c => (nm c, obs.getD k (.row [] 0))

theorem lookK_cons (cl : List (Nat × Nat)) (nm : Nat → Nat) (o : Oper) (l : List Oper) (x : AO) (xs : List AO) (H : AH) : ∀ k, lookG (infK cl nm (o :: l) (x :: xs)) H (fun _ => true) (k + 1) = lookG (infK cl nm l xs) (setO H (infK cl nm (o :: l) (x :: xs) 0)) (fun _ => true) k
  | 0 => rfl
  | k + 1 => by
    have ih := lookK_cons cl nm o l x xs H k
    have e : infK cl nm (o :: l) (x :: xs) (k + 1) = infK cl nm l xs k := by simp [infK]
    show setO (lookG (infK cl nm (o :: l) (x :: xs)) H (fun _ => true) (k + 1)) (infK cl nm (o :: l) (x :: xs) (k + 1)) = setO (lookG (infK cl nm l xs) _ (fun _ => true) k) (infK cl nm l xs k)
    rw [ih, e]

theorem chainK {N : Nat} {cl : List (Nat × Nat)} {nm : Nat → Nat} {K : St → AH → Prop} : ∀ (l : List Oper) (s : St) (H : AH), drawKS N P T cl nm l K s H → ∃ (vs : List AV) (obs : List AO),
    (∀ j o, l[j]? = some o → dstOk N o.dst = true ∧ o.guard = none ∧ match cK cl o with
      | none => ∀ G, OutK cl nm G H → LStep0 P T o.op (lookE (dstF l) (valF vs) s.e (fun _ => true) j) G (valF vs j)
      | some c => ∃ ob, lookG (infK cl nm l obs) H (fun _ => true) j (nm c) = some ob ∧ ∀ G, OutK cl nm G H → G (nm c) = some ob → LStepK P T o.op (lookE (dstF l) (valF vs) s.e (fun _ => true) j) G (nm c) (valF vs j) (obs.getD j (.row [] 0))) ∧
    K ⟨lookE (dstF l) (valF vs) s.e (fun _ => true) l.length, s.d⟩ (lookG (infK cl nm l obs) H (fun _ => true) l.length)
  | [], s, H, h => ⟨[], [], fun j o hj => by simp at hj, h⟩
  | o :: l, s, H, ⟨h1, h2, h3⟩ => by
    have build : ∀ (v : AV) (x : AO) (H2 : AH), (∀ G, OutK cl nm G H → OutK cl nm G H2) → (∀ obs : List AO, setO H (infK cl nm (o :: l) (x :: obs) 0) = H2) → drawKS N P T cl nm l K (putS s o.dst v) H2 →
        (match cK cl o with
          | none => ∀ G, OutK cl nm G H → LStep0 P T o.op s.e G v
          | some c => ∃ ob, H (nm c) = some ob ∧ ∀ G, OutK cl nm G H → G (nm c) = some ob → LStepK P T o.op s.e G (nm c) v x) →
        ∃ (vs : List AV) (obs : List AO), (∀ j o', (o :: l)[j]? = some o' → dstOk N o'.dst = true ∧ o'.guard = none ∧ match cK cl o' with
          | none => ∀ G, OutK cl nm G H → LStep0 P T o'.op (lookE (dstF (o :: l)) (valF vs) s.e (fun _ => true) j) G (valF vs j)
          | some c => ∃ ob, lookG (infK cl nm (o :: l) obs) H (fun _ => true) j (nm c) = some ob ∧ ∀ G, OutK cl nm G H → G (nm c) = some ob → LStepK P T o'.op (lookE (dstF (o :: l)) (valF vs) s.e (fun _ => true) j) G (nm c) (valF vs j) (obs.getD j (.row [] 0))) ∧
        K ⟨lookE (dstF (o :: l)) (valF vs) s.e (fun _ => true) (o :: l).length, s.d⟩ (lookG (infK cl nm (o :: l) obs) H (fun _ => true) (o :: l).length) := by
      intro v x H2 hout hH2 hr h0
      obtain ⟨vs, obs, ih1, ih2⟩ := chainK l _ _ hr
      refine ⟨v :: vs, x :: obs, fun j o' hj => ?_, ?_⟩
      · cases j with
        | zero =>
          simp at hj; subst hj
          exact ⟨h1, h2, h0⟩
        | succ j =>
          have := ih1 j o' (by simpa using hj)
          rw [lookE_cons, lookK_cons, hH2 obs]
          refine ⟨this.1, this.2.1, ?_⟩
          have t2 := this.2.2
          cases hc : cK cl o' with
          | none => rw [hc] at t2; exact fun G hG => by simpa [valF, putS] using t2 G (hout G hG)
          | some c => rw [hc] at t2; obtain ⟨ob, t3, t4⟩ := t2; exact ⟨ob, t3, fun G hG hq => by simpa [valF, putS] using t4 G (hout G hG) hq⟩
      · rw [List.length_cons, lookE_cons, lookK_cons, hH2 obs]
        exact ih2
    cases hc : cK cl o with
    | none =>
      rw [hc] at h3 build
      obtain ⟨v, h3, h4⟩ := h3
      exact build v (.row [] 0) H (fun _ h => h) (fun obs => by simp [infK, hc, setO]) h4 h3
    | some c =>
      rw [hc] at h3 build
      obtain ⟨ob, v, o', h3, h4, h5⟩ := h3
      exact build v o' (H.set (nm c) o') (fun _ h => h.set (cK_in hc)) (fun obs => by simp [infK, hc, setO]) h5 ⟨ob, h3, h4⟩

theorem anyK_ok (hT : T.ok P = true) (ro : Option Nat) {N : Nat} {ws : Nat → Bool} {ops : Array Oper} {cl : List (Nat × Nat)} {nm : Nat → Nat} {K R : St → AH → Prop} {X : Nat → St → AH → Prop} {s : St} {vs : List AV} {obs : List AO} (hord : orderOk ops = true) (hcls : ordK ops cl = true)
    (hnm : ∀ c c', c ∈ cl.map (·.2) → c' ∈ cl.map (·.2) → nm c = nm c' → c = c') (hws : ∀ t, t ∈ dstsOf ops.toList → ws t = true)
    (hstep : ∀ j o, ops.toList[j]? = some o → dstOk N o.dst = true ∧ o.guard = none ∧ match cK cl o with
      | none => ∀ G, OutK cl nm G H → LStep0 P T o.op (lookE (dstF ops.toList) (valF vs) s.e (fun _ => true) j) G (valF vs j)
      | some c => ∃ ob, lookG (infK cl nm ops.toList obs) H (fun _ => true) j (nm c) = some ob ∧ ∀ G, OutK cl nm G H → G (nm c) = some ob → LStepK P T o.op (lookE (dstF ops.toList) (valF vs) s.e (fun _ => true) j) G (nm c) (valF vs j) (obs.getD j (.row [] 0)))
    (hend : K ⟨lookE (dstF ops.toList) (valF vs) s.e (fun _ => true) ops.toList.length, s.d⟩ (lookG (infK cl nm ops.toList obs) H (fun _ => true) ops.toList.length)) :
    ∀ (fuel : Nat) (listed : Array Bool) (κ : KM) (F : FM) (w : World) (a : Act), listed.size = ops.size → (∀ j, doneP listed ops.size j = true → Waited ops (doneP listed ops.size) j) →
      ((List.range ops.size).filter fun k => !doneP listed ops.size k).length = fuel → Inv κ F B w0 (lookG (infK cl nm ops.toList obs) H (doneP listed ops.size) ops.size) w →
      ER κ F N ⟨lookE (dstF ops.toList) (valF vs) s.e (doneP listed ops.size) ops.size, s.d⟩ a → wpAnyIn (fence ro) 0 P .any ops (QOk κ F B w0 N ws s K R X) fuel listed a w := by
  have hinf : ∀ k q o, infK cl nm ops.toList obs k = some (q, o) → ∃ c, k < ops.size ∧ (ops[k]?).bind (cK cl) = some c ∧ q = nm c ∧ c ∈ cl.map (·.2) := by
    intro k q o h
    unfold infK at h
    rw [Array.getElem?_toList] at h
    cases hx : (ops[k]?).bind (cK cl) with
    | none => rw [hx] at h; simp at h
    | some c =>
      rw [hx] at h
      simp at h
      refine ⟨c, ?_, rfl, h.1.symm, ?_⟩
      · cases hk : ops[k]? with
        | none => rw [hk] at hx; simp at hx
        | some x => exact (Array.getElem?_eq_some_iff.1 hk).1
      · cases hk : ops[k]? with
        | none => rw [hk] at hx; simp at hx
        | some x =>
          rw [hk] at hx
          simp only [Option.bind_some] at hx
          exact cK_in hx
  have hsame : ∀ k k' q o o', infK cl nm ops.toList obs k = some (q, o) → infK cl nm ops.toList obs k' = some (q, o') → k < k' → ((aheadOf ops).getD k' 0).testBit k = true := by
    intro k k' q o o' h1 h2 hlt
    obtain ⟨c, hk, hc, e1, hm⟩ := hinf _ _ _ h1
    obtain ⟨c', hk', hc', e2, hm'⟩ := hinf _ _ _ h2
    have : c = c' := hnm c c' hm hm' (e1.symm.trans e2)
    subst this
    exact ordK_spec hcls hlt hk' hc hc'
  have hout : ∀ (p : Nat → Bool) n, OutK cl nm (lookG (infK cl nm ops.toList obs) H p n) H := by
    intro p n
    induction n with
    | zero => exact .refl
    | succ n ih =>
      simp only [lookG]
      cases p n with
      | false => exact ih
      | true =>
        simp only [cond_true]
        cases hi : infK cl nm ops.toList obs n with
        | none => exact ih
        | some x =>
          obtain ⟨q, o⟩ := x
          obtain ⟨c, _, _, e, hm⟩ := hinf _ _ _ hi
          subst e
          exact ih.set' hm
  have hlow := orderOk_low hord
  have hdst : ∀ k, dstF ops.toList k = (ops[k]?).bind (·.dst) := fun k => by simp [dstF]
  have hagree : ∀ p : Nat → Bool, Agree ws s ⟨lookE (dstF ops.toList) (valF vs) s.e p ops.size, s.d⟩ := by
    intro p t ht
    show lookE _ _ _ p ops.size t = s.e t
    have : ∀ n, lookE (dstF ops.toList) (valF vs) s.e p n t = s.e t := by
      intro n
      induction n with
      | zero => rfl
      | succ n ih =>
        simp only [lookE]
        cases p n with
        | false => exact ih
        | true =>
          have hne : dstF ops.toList n ≠ some t := by
            intro e
            have : t ∈ dstsOf ops.toList := by
              simp only [dstF] at e
              cases hx : ops.toList[n]? with
              | none => rw [hx] at e; simp at e
              | some o =>
                rw [hx] at e
                simp at e
                exact List.mem_filterMap.2 ⟨o, List.mem_of_getElem? hx, e⟩
            rw [hws t this] at ht; cases ht
          simp only [cond_true, putA_ne _ _ _ hne, ih]
    exact this _
  have ready : ∀ (listed : Array Bool), listed.size = ops.size → ∀ i, i ∈ Region.ready .any ops listed → i < ops.size ∧ doneP listed ops.size i = false ∧ Waited ops (doneP listed ops.size) i := by
    intro listed hsz i hi
    simp only [Region.ready, List.mem_filter, List.mem_range, Bool.and_eq_true, Bool.not_eq_true'] at hi
    obtain ⟨hi, hl, ha⟩ := hi
    have hdone : doneP listed ops.size i = false := by
      have e : listed.getD i false = listed.getD i true := by simp [Array.getD_eq_getD_getElem?, show i < listed.size by omega]
      simp [doneP, e, hl]
    refine ⟨hi, hdone, fun o ho e he hb => ?_⟩
    rw [ho] at ha
    simp only [Option.map_some, Option.getD_some] at ha
    have := Array.all_eq_true'.1 ha e (by simpa using he)
    simp only [hb, Bool.not_true, Bool.false_or] at this
    have hlt := hlow i o ho e he hb
    simp [doneP, this, blt_of (show e.on < ops.size by omega)]
  intro fuel
  induction fuel with
  | zero =>
    intro listed κ F w a hsz hcl hcount I hE
    have hall : ∀ k, k < ops.size → doneP listed ops.size k = true := by
      intro k hk
      cases hd : doneP listed ops.size k with
      | true => rfl
      | false =>
        have : k ∈ (List.range ops.size).filter fun k => !doneP listed ops.size k := by simp [hk, hd]
        rw [List.length_eq_zero_iff.1 hcount] at this
        cases this
    refine ⟨?_, ?_⟩
    · cases hr : Region.ready .any ops listed with
      | nil => rfl
      | cons i r =>
        obtain ⟨h1, h2, _⟩ := ready listed hsz i (by rw [hr]; simp)
        rw [hall i h1] at h2; cases h2
    · have heq : lookE (dstF ops.toList) (valF vs) s.e (doneP listed ops.size) ops.size = lookE (dstF ops.toList) (valF vs) s.e (fun _ => true) ops.size := by
        funext t; exact lookE_congr _ (fun k hk _ => hall k hk)
      have hH : lookG (infK cl nm ops.toList obs) H (doneP listed ops.size) ops.size = lookG (infK cl nm ops.toList obs) H (fun _ => true) ops.size := by
        funext q; exact lookG_at _ (fun k o hk _ => hall k hk)
      refine ⟨_, _, κ, F, KLe.refl _, FLe.refl _, I, hE, hagree _, ?_⟩
      rw [heq, hH]
      simpa using hend
  | succ fuel ih =>
    intro listed κ F w a hsz hcl hcount I hE
    refine ⟨fun hr => ?_, fun i hi => ?_⟩
    · -- somebody is ready
      exfalso
      obtain ⟨k, hk⟩ : ∃ k, k ∈ (List.range ops.size).filter fun k => !doneP listed ops.size k := by
        cases hx : (List.range ops.size).filter fun k => !doneP listed ops.size k with
        | nil => rw [hx] at hcount; simp at hcount
        | cons k _ => exact ⟨k, by simp⟩
      have key : ∀ k, k < ops.size → doneP listed ops.size k = false → False := by
        intro k
        induction k using Nat.strongRecOn with
        | _ k ih2 =>
          intro hk hd
          have : k ∈ Region.ready .any ops listed := by
            simp only [Region.ready, List.mem_filter, List.mem_range, Bool.and_eq_true, Bool.not_eq_true']
            refine ⟨hk, ?_, ?_⟩
            · simp only [doneP, blt_of hk, Bool.true_and] at hd
              have e : listed.getD k false = listed.getD k true := by simp [Array.getD_eq_getD_getElem?, show k < listed.size by omega]
              rw [← e]; exact hd
            · have ho : ops[k]? = some ops[k] := by simp [hk]
              rw [ho]
              simp only [Option.map_some, Option.getD_some]
              refine Array.all_eq_true'.2 fun e he => ?_
              cases hb : Region.binds .any e with
              | false => rfl
              | true =>
                have hlt := hlow k _ ho e (by simpa using he) hb
                cases hd' : doneP listed ops.size e.on with
                | false => exact (ih2 e.on hlt (by omega) hd').elim
                | true => simp only [doneP, Bool.and_eq_true] at hd'; simp [hd'.2]
          rw [hr] at this; cases this
      simp only [List.mem_filter, List.mem_range, Bool.not_eq_true'] at hk
      exact key k hk.1 hk.2
    · obtain ⟨hil, hdi, hwi⟩ := ready listed hsz i hi
      have ho : ops[i]? = some ops[i] := by simp [hil]
      obtain ⟨o, rfl⟩ : ∃ o, o = ops[i] := ⟨_, rfl⟩
      obtain ⟨hdst0, hgd, hg⟩ := hstep i ops[i] (by simp [hil])
      have hahead := ahead_done hlow hcl i hil hwi
      -- what the operation looks at stands there
      have sees : ∀ t, t ∈ looks ops ops[i] → lookE (dstF ops.toList) (valF vs) s.e (doneP listed ops.size) ops.size t = lookE (dstF ops.toList) (valF vs) s.e (fun _ => true) i t := by
        intro t ht
        refine lookE_lt ops.size (by omega) (fun k hk hkd => ?_)
        rw [hdst] at hkd
        by_cases hki : k = i
        · subst hki; constructor
          · intro h; rw [hdi] at h; cases h
          · intro h; omega
        · obtain ⟨h1, h2⟩ := orderOk_spec hord hkd ho (.inl ht) hki
          constructor
          · intro hp
            rcases Nat.lt_or_ge k i with hlt | hge
            · exact hlt
            · have := ahead_done hlow hcl k hk (hcl k hp) i (h2 (by omega))
              rw [hdi] at this; cases this
          · intro hlt; exact hahead k (h1 hlt)
      have hev : ∀ x, x ∈ (ops[i]).op.operands → ev (lookE (dstF ops.toList) (valF vs) s.e (fun _ => true) i) x = ev (lookE (dstF ops.toList) (valF vs) s.e (doneP listed ops.size) ops.size) x := by
        intro x hx
        cases x with
        | tmp t => exact (sees t (List.mem_append_left _ (List.mem_filterMap.2 ⟨.tmp t, by simpa using hx, rfl⟩))).symm
        | _ => rfl
      have hwt : Region.wanted ops[i] (yielded ops a.tmps) = true := wanted_of (K := fun b => b = true) hE (by rw [hgd]; rfl)
      have hlset : ∀ k, doneP (listed.setIfInBounds i true) ops.size k = (doneP listed ops.size k || Nat.beq k i) := by
        intro k
        simp only [doneP, Array.getD_eq_getD_getElem?, Array.getElem?_setIfInBounds]
        by_cases hki : i = k
        · subst hki; simp [show i < listed.size by omega, blt_of hil, Nat.beq_refl]
        · have : Nat.beq k i = false := by cases hb : Nat.beq k i with
            | false => rfl
            | true => exact absurd (Nat.eq_of_beq_eq_true hb).symm hki
          simp [hki, this]
      have hlsetf : doneP (listed.setIfInBounds i true) ops.size = fun k => doneP listed ops.size k || Nat.beq k i := funext hlset
      have hput : lookE (dstF ops.toList) (valF vs) s.e (doneP (listed.setIfInBounds i true) ops.size) ops.size = putA (lookE (dstF ops.toList) (valF vs) s.e (doneP listed ops.size) ops.size) (dstF ops.toList i) (valF vs i) := by
        rw [hlsetf]
        refine lookE_put hdi ops.size hil (fun k hk hki hkd hnn hp => ?_)
        rcases Nat.lt_or_ge k i with hlt | hge
        · exact hlt
        · exfalso
          cases hdn : dstF ops.toList i with
          | none => exact hnn hdn
          | some t =>
            rw [hdn] at hkd
            have hoi : (ops[i]).dst = some t := by rw [hdst, ho] at hdn; simpa using hdn
            obtain ⟨_, h2⟩ := orderOk_spec hord (by rw [← hdst]; exact hkd) ho (.inr hoi) hki
            have := ahead_done hlow hcl k hk (hcl k hp) i (h2 (by omega))
            rw [hdi] at this; cases this
      have hcl' : ∀ j, doneP (listed.setIfInBounds i true) ops.size j = true → Waited ops (doneP (listed.setIfInBounds i true) ops.size) j := by
        intro j hj o' ho' e he hbe
        rw [hlset] at hj ⊢
        rw [Bool.or_eq_true] at hj
        rcases hj with h | h
        · rw [hcl j h o' ho' e he hbe]; rfl
        · obtain rfl := Nat.eq_of_beq_eq_true h
          rw [hwi o' ho' e he hbe]; rfl
      have hcount' : ((List.range ops.size).filter fun k => !doneP (listed.setIfInBounds i true) ops.size k).length = fuel := by
        have key : ∀ (l : List Nat), l.Nodup → i ∈ l → (l.filter fun k => !doneP listed ops.size k).length = (l.filter fun k => !doneP (listed.setIfInBounds i true) ops.size k).length + 1 := by
          intro l
          induction l with
          | nil => intro _ h; cases h
          | cons k l ih =>
            intro hnd hm
            obtain ⟨hk, hnd⟩ := List.nodup_cons.1 hnd
            by_cases hki : k = i
            · subst hki
              have hrest : (l.filter fun k' => !doneP listed ops.size k') = l.filter fun k' => !doneP (listed.setIfInBounds k true) ops.size k' := by
                refine List.filter_congr fun k' hk' => ?_
                rw [hlset]
                have : Nat.beq k' k = false := by cases hb : Nat.beq k' k with
                  | false => rfl
                  | true => exact absurd (Nat.eq_of_beq_eq_true hb ▸ hk') hk
                simp [this]
              rw [List.filter_cons, List.filter_cons, hlset, hdi, Nat.beq_refl, hrest]
              simp
            · have hm' : i ∈ l := by rcases List.mem_cons.1 hm with h | h; · exact absurd h.symm hki
                                     · exact h
              have hb : Nat.beq k i = false := by cases hb : Nat.beq k i with
                | false => rfl
                | true => exact absurd (Nat.eq_of_beq_eq_true hb) hki
              have := ih hnd hm'
              rw [List.filter_cons, List.filter_cons, hlset, hb, Bool.or_false]
              cases doneP listed ops.size k <;> simp [this]
        have := key (List.range ops.size) List.nodup_range (by simpa using hil)
        omega
      have hdi' : dstF ops.toList i = (ops[i]).dst := by rw [hdst, ho]; rfl
      have hG : lookG (infK cl nm ops.toList obs) H (doneP (listed.setIfInBounds i true) ops.size) ops.size = setO (lookG (infK cl nm ops.toList obs) H (doneP listed ops.size) ops.size) (infK cl nm ops.toList obs i) := by
        rw [hlsetf]
        refine lookG_put hdi ops.size hil (fun k q o o' h1 h2 h3 h4 => ?_)
        cases hd : doneP listed ops.size k with
        | false => rfl
        | true =>
          have := ahead_done hlow hcl k h2 (hcl k hd) i (hsame _ _ _ _ _ h3 h4 h1)
          rw [hdi] at this; cases this
      unfold wpOpIn
      rw [ho]
      simp only
      rw [if_pos hwt]
      have go : ∀ v w', Left κ F B w0 (fun v' H' => v' = valF vs i ∧ H' = lookG (infK cl nm ops.toList obs) H (doneP (listed.setIfInBounds i true) ops.size) ops.size) v w' →
          wpAnyIn (fence ro) 0 P .any ops (QOk κ F B w0 N ws s K R X) fuel (listed.setIfInBounds i true) (a.put (ops[i]).dst v) w' := by
        rintro v w' ⟨y, H', κ', F', hk, hf, I', hv, rfl, rfl⟩
        have hE' := (hE.mono hk hf).put hdst0 hv
        have := ih (listed.setIfInBounds i true) κ' F' w' _ (by simp [hsz]) hcl' hcount' I' (by rw [hput, hdi']; exact hE')
        exact wpAnyIn_mono (fun e a w hq => QOk.from hk hf (Agree.refl _ _) hq) _ _ _ _ this
      have hinfi : infK cl nm ops.toList obs i = (cK cl ops[i]).map fun c => (nm c, obs.getD i (.row [] 0)) := by simp [infK, hil]
      rw [hG, hinfi] at go
      have hcong := fun (G : AH) (KK : AV → AH → Prop) => stepA_congr (P := P) (T := T) (H := G) (K := KK) hev
      cases hc : cK cl ops[i] with
      | none =>
        rw [hc] at hg go
        simp only [Option.map_none, setO] at go
        rcases hg (lookG (infK cl nm ops.toList obs) H (doneP listed ops.size) ops.size) (hout _ _) with h | ⟨cells, n, es, hv, hlen, h⟩
        · rw [hcong] at h
          exact stepA_ok hT ro I hE.e h go
        · unfold Makes at h
          rw [hcong] at h
          refine stepA_ok hT ro I hE.e h fun v w' hL => go v w' ?_
          rw [hv]
          exact Left.cold hlen hL
      | some c =>
        rw [hc] at hg go
        simp only [Option.map_some, setO] at go
        obtain ⟨ob, h1, h2⟩ := hg
        have hat : lookG (infK cl nm ops.toList obs) H (doneP listed ops.size) ops.size (nm c) = some ob := by
          rw [← h1]
          have hii : infK cl nm ops.toList obs i = some (nm c, obs.getD i (.row [] 0)) := by rw [hinfi, hc]; rfl
          refine (lookG_up (i := i) ops.size (by omega) (fun k o h3 h4 h5 => ?_)).trans (lookG_at i (fun k o h3 h5 => ?_))
          · by_cases e : k = i
            · rw [e]; exact hdi
            · cases hd : doneP listed ops.size k with
              | false => rfl
              | true =>
                have := ahead_done hlow hcl k h4 (hcl k hd) i (hsame _ _ _ _ _ hii h5 (by omega))
                rw [hdi] at this; cases this
          · exact hahead k (hsame _ _ _ _ _ h5 hii h3)
        rcases h2 _ (hout _ _) hat with (h | ⟨cells, n, es, hv, ho', hq, h⟩) | ⟨cells, hv, ho', hq, h⟩
        · rw [hcong] at h
          exact stepA_ok hT ro I hE.e h go
        · unfold Makes at h
          rw [hcong] at h
          refine stepA_ok hT ro I hE.e h fun v w' hL => go v w' ?_
          rw [hv, ho']
          exact Left.named hq hL
        · unfold TakesP at h
          rw [hcong] at h
          refine stepA_ok hT ro I hE.e h fun v w' hL => go v w' ?_
          rw [hv, ho']
          exact Left.namedP hq hL

theorem AWp_drawK (hT : T.ok P = true) (hm : P.follows .mixedOrders = true) {N : Nat} {ro : Option Nat} {ws : Nat → Bool} {id : Nat} {ops : Array Oper} {K R : St → AH → Prop} {X : Nat → St → AH → Prop} {s : St} (cl : List (Nat × Nat)) (nm : Nat → Nat)
    (hnm : ∀ c c', c ∈ cl.map (·.2) → c' ∈ cl.map (·.2) → nm c = nm c' → c = c') (hws : (writes (.region id ops true)).all ws = true) (hord : (orderOk ops && ordK ops cl) = true) (h : drawKS N P T cl nm ops.toList K s H) :
    AWp N P ro ws (.region id ops true) K R X s H := by
  refine ⟨fun κ F B w0 w a I hE => wpIn_region_any hm ?_⟩
  obtain ⟨vs, obs, hstep, hend⟩ := chainK _ _ _ h
  rw [Bool.and_eq_true] at hord
  have hz : ∀ k, doneP (Array.replicate ops.size false) ops.size k = false := by
    intro k
    simp only [doneP, Array.getD_eq_getD_getElem?]
    by_cases hk : k < ops.size
    · simp [hk]
    · simp [hk]
  refine anyK_ok hT ro hord.1 hord.2 hnm (all_mem hws) hstep hend ops.size _ κ F _ a (by simp) (fun j hj => by rw [hz] at hj; cases hj) ?_ ?_ ?_
  · have : ((List.range ops.size).filter fun k => !doneP (Array.replicate ops.size false) ops.size k) = List.range ops.size := List.filter_eq_self.2 fun k _ => by simp [hz]
    rw [this]; simp
  · have : ∀ n, lookG (infK cl nm ops.toList obs) H (doneP (Array.replicate ops.size false) ops.size) n = H := by
      intro n
      induction n with
      | zero => rfl
      | succ n ih => simp only [lookG, hz, cond_false, ih]
    rw [this]; exact I.drew
  · have : ∀ n, lookE (dstF ops.toList) (valF vs) s.e (doneP (Array.replicate ops.size false) ops.size) n = s.e := by
      intro n
      induction n with
      | zero => rfl
      | succ n ih => simp only [lookE, hz, cond_false, ih]
    rw [this]; exact hE

structure DrawK (N : Nat) (P : Program) (T : TT) (cl : List (Nat × Nat)) (nm : Nat → Nat) (l : List Oper) (K : St → AH → Prop) (s : St) (H : AH) : Prop where
  out : drawKS N P T cl nm l K s H

/-- The name stands for no class. -/
def offR (nm : Nat → Nat) (r : Nat) : List (Nat × Nat) → Prop
  | [] => True
  | p :: l => nm p.2 ≠ r ∧ offR nm r l
theorem offR_iff {nm : Nat → Nat} {r : Nat} : ∀ {l : List (Nat × Nat)}, offR nm r l → ∀ c, c ∈ l.map (·.2) → nm c ≠ r
  | [], _, c, hc => by cases hc
  | p :: l, ⟨h1, h2⟩, c, hc => by
    rcases List.mem_cons.1 hc with rfl | hc
    · exact h1
    · exact offR_iff h2 c hc

/-- Off the classes: no memory, or a load from a row of no class. -/
def offK (P : Program) (T : TT) (cl : List (Nat × Nat)) (nm : Nat → Nat) (o : Op) (e : Env) (H : AH) (K : AV → Prop) : Prop :=
  match o with
  | .load t a =>
    (match T.get t with
     | some tr => (match ev e a with
       | .ptr r v off => offR nm r cl ∧ loadA tr (.ptr r v off) H K
       | b => loadC tr b K)
     | none => False)
  | o => pureL P T o e K

theorem loadA_det {tr : TR} {r v off : Nat} {K : AV → Prop} (h : loadA tr (.ptr r v off) H K) : ∃ x, K x ∧ ∀ G : AH, G r = H r → loadA tr (.ptr r v off) G (fun y => y = x) := by
  unfold loadA at h
  simp only at h
  obtain ⟨cells, hH, h⟩ := h
  cases hag : tr.agg with
  | true =>
    rw [hag] at h
    obtain ⟨h1, h2⟩ := h
    refine ⟨_, h2, fun G hG => ?_⟩
    unfold loadA
    simp only
    refine ⟨cells, hG.trans hH, ?_⟩
    rw [hag]
    exact ⟨h1, rfl⟩
  | false =>
    rw [hag] at h
    obtain ⟨h1, x, h2, h3⟩ := when_iff.1 h
    refine ⟨x, h3, fun G hG => ?_⟩
    unfold loadA
    simp only
    refine ⟨cells, hG.trans hH, ?_⟩
    rw [hag]
    exact when_iff.2 ⟨h1, x, h2, rfl⟩

theorem offK_ok {cl : List (Nat × Nat)} {nm : Nat → Nat} {o : Op} {e : Env} {K : AV → Prop} (h : offK P T cl nm o e H K) : ∃ v, (∀ G, OutK cl nm G H → LStep0 P T o e G v) ∧ K v := by
  unfold offK at h
  split at h
  · rename_i t a
    split at h
    · rename_i tr hg
      split at h
      · rename_i r v off ha
        obtain ⟨h1, h2⟩ := h
        obtain ⟨x, h3, h4⟩ := loadA_det h2
        refine ⟨x, fun G hG => .inl ?_, h3⟩
        have := h4 G (hG r (offR_iff h1))
        show opA T (.load t a) e G (fun v' H' => v' = x ∧ H' = G)
        simp only [opA, hg, ha]
        simpa using this
      · obtain ⟨v, h1, h2⟩ := det_loadC _ _ _ h
        refine ⟨v, fun G _ => .inl ?_, h2⟩
        show opA T (.load t a) e G (fun v' H' => v' = v ∧ H' = G)
        simp only [opA, hg]
        simpa using loadC_ok (H := G) h1
    · exact h.elim
  · obtain ⟨v, h1, h2⟩ := pureL_ok h
    exact ⟨v, fun G _ => h1 G, h2⟩

/-- On a class. -/
def onK (T : TT) (q : Nat) (ob : AO) (o : Op) (e : Env) (K : AV → AO → Prop) : Prop :=
  match o with
  | .alloc t => (match T.get t with | some tr => ob = .row [] 0 ∧ K (.ptr q 1 0) (.row tr.zero 1) | none => False)
  | .store t a x =>
    (match T.get t, ev e a, cellsOf (ev e x) with
     | some tr, .ptr r v off, some l => r = q ∧ ∃ cells, ob = .row cells v ∧ off + tr.size ≤ cells.length ∧ l.length = tr.size ∧ l.all one = true ∧ K .junk (.row (wrA cells off l) v)
     | _, _, _ => False)
  | .load t a =>
    (match T.get t, ev e a with
     | some tr, .ptr r v off => r = q ∧ loadA tr (.ptr r v off) (fun _ => some ob) fun x => K x ob
     | _, _ => False)
  | o => appL T q ob o e K

theorem onK_ok {q : Nat} {ob : AO} {o : Op} {e : Env} {K : AV → AO → Prop} (h : onK T q ob o e K) : ∃ v o', (∀ G, G q = some ob → LStepK P T o e G q v o') ∧ K v o' := by
  unfold onK at h
  split at h
  · rename_i t
    split at h
    · rename_i tr hg
      obtain ⟨h1, h2⟩ := h
      refine ⟨_, _, fun G hG => .inr ⟨tr.zero, rfl, rfl, by rw [hG, h1], ?_⟩, h2⟩
      show opA T (.alloc t) e G (fun v' H' => ∃ r, G r = none ∧ v' = .ptr r 0 0 ∧ H' = G.set r (.row tr.zero 0))
      simp only [opA, hg]
      exact fun r hr => ⟨r, hr, rfl, rfl⟩
    · exact h.elim
  · rename_i t a x
    split at h
    · rename_i tr r v off l hg ha hx
      obtain ⟨rfl, cells, h1, h2, h3, h4, h5⟩ := h
      refine ⟨_, _, fun G hG => .inl (.inl ?_), h5⟩
      show opA T (.store t a x) e G (fun v' H' => v' = AV.junk ∧ H' = G.set r (AO.row (wrA cells off l) v))
      simp only [opA, hg, ha]
      unfold storeA
      simp only [hx]
      exact ⟨cells, by rw [hG, h1], h2, h3, h4, by simp⟩
    · exact h.elim
  · rename_i t a
    split at h
    · rename_i tr r v off hg ha
      obtain ⟨rfl, h2⟩ := h
      obtain ⟨x, h3, h4⟩ := loadA_det h2
      refine ⟨x, ob, fun G hG => .inl (.inl ?_), h3⟩
      show opA T (.load t a) e G (fun v' H' => v' = x ∧ H' = G.set r ob)
      simp only [opA, hg, ha]
      rw [AH.set_id hG]
      simpa using h4 G hG
    · exact h.elim
  · obtain ⟨v, o', h1, h2⟩ := appL_ok (P := P) h
    exact ⟨v, o', fun G hG => .inl (h1 G hG), h2⟩

def drawKD (N : Nat) (P : Program) (T : TT) (cl : List (Nat × Nat)) (nm : Nat → Nat) (o : Oper) (rest : List Oper) (K : St → AH → Prop) (e : Env) (d : List Nat) (H : AH) : Prop :=
  when (dstOk N o.dst && o.guard.isNone) (match cK cl o with
    | none => offK P T cl nm o.op e H fun v => force v fun v => DrawK N P T cl nm rest K ⟨putA e o.dst v, d⟩ H
    | some c => ∃ ob, H (nm c) = some ob ∧ onK T (nm c) ob o.op e fun v o' => force v fun v => DrawK N P T cl nm rest K ⟨putA e o.dst v, d⟩ (H.set (nm c) o'))

theorem DrawK.nil {N : Nat} {cl : List (Nat × Nat)} {nm : Nat → Nat} {K : St → AH → Prop} {s : St} (h : K s H) : DrawK N P T cl nm [] K s H := ⟨h⟩
theorem DrawK.consD {N : Nat} {cl : List (Nat × Nat)} {nm : Nat → Nat} {o : Oper} {rest : List Oper} {K : St → AH → Prop} {e : Env} {d : List Nat} (h : drawKD N P T cl nm o rest K e d H) : DrawK N P T cl nm (o :: rest) K ⟨e, d⟩ H := by
  refine ⟨?_⟩
  unfold drawKD at h
  unfold drawKS
  obtain ⟨h1, h2⟩ := when_iff.1 h
  rw [Bool.and_eq_true] at h1
  refine ⟨h1.1, by simpa using h1.2, ?_⟩
  split at h2
  · rename_i hc
    obtain ⟨v, h3, h4⟩ := offK_ok h2
    rw [force_eq] at h4
    exact ⟨v, h3, h4.out⟩
  · rename_i c hc
    obtain ⟨ob, h3, h4⟩ := h2
    obtain ⟨v, o', h5, h6⟩ := onK_ok (P := P) h4
    rw [force_eq] at h6
    exact ⟨ob, v, o', h3, fun G _ hG => h5 G hG, h6.out⟩

theorem AWq.drawK (hm : P.follows .mixedOrders = true) {N : Nat} {ro : Option Nat} {ws : Nat → Bool} {id : Nat} {ops : Array Oper} {K R : St → AH → Prop} {X : Nat → St → AH → Prop} {s : St} (cl : List (Nat × Nat)) (nm : Nat → Nat)
    (hnm : ∀ c c', c ∈ cl.map (·.2) → c' ∈ cl.map (·.2) → nm c = nm c' → c = c') (hord : (orderOk ops && ordK ops cl) = true) (h : DrawK N P T cl nm ops.toList K s H) :
    AWq N P T ro ws (.region id ops true) K R X s H :=
  ⟨fun hT hdraw hw => AWp_drawK hT hm cl nm hnm (List.all_eq_true.2 hw) hord h.out⟩
end Go.Fw
/- The reference's integers: Compare, Small, Div by a digit. -/
namespace Go.Proofs.Ytgmooalikccbiaa
open Go.Fw Go
set_option linter.unusedVariables false
set_option linter.unusedSimpArgs false

set_option maxRecDepth 8000 in
theorem cmpI_c (g k : Bool) (x y : Nat) (hx : (dg x).length ≤ 100000000) (hy : (dg y).length ≤ 100000000) (H : AH) :
    ACall Try.prog 76 [nR g x, nR k y] H (fun v H' => v = .int .i64 (if g = k then (if g = true then cmpV y x else cmpV x y) else if g = true then -1 else 1) ∧ H' = H) := by
  refine ACall.back ?_
  have h1 := fun H => compared_c x y hx hy H
  have h2 := fun H => compared_c y x hy hx H
  unfold nR
  generalize cmpV x y = c1 at *
  generalize cmpV y x = c2 at *
  cases g <;> cases k
  all_goals
    simp only [if_true, if_false, reduceCtorEq]
    refine ACall_of tt_ok (dok _) Try.func76 rfl (by decide) rfl ?_
    (repeat' ((conv => whnf); first | refine Then.mk ?_ | left | refine OpsA.cons ?_ | refine OpsA.nil ?_ | refine AWq.seq ?_ | refine AWq.region ?_ | refine AWq.cond ?_ | refine AWq.skip ?_ | refine AWq.ret ?_ | (refine ACall.to (h1 _) ?_) | (refine ACall.to (h2 _) ?_) | (refine Both.mk ?_ ?_ <;> intro hc <;> (first | exact Bool.noConfusion hc | exact absurd (by with_reducible rfl) hc | exact (hc : False).elim | exact absurd (by assumption) hc | exact absurd hc (by assumption) | (exfalso; omega) | exact absurd hc (by decide) | skip)) | (intro c hc; (try (simp only [AH.none_iff] at hc; repeat (have hn := hc.1; replace hc := hc.2))); (first | (have hc2 := Eq.trans hc (by with_reducible assumption); clear hc; subst hc2) | (refine i64_k hc ?_ ?_ ?_ ; omega; omega; (clear hc; intro hc; subst hc)) | (refine u64_k hc ?_ ?_ ?_ ; omega; omega; (clear hc; intro hc; subst hc)) | (refine u8_k hc ?_ ?_ ?_ ; omega; omega; (clear hc; intro hc; subst hc)) | subst hc | skip)) | (apply Exists.intro; apply And.intro; (focus (repeat (first | assumption | exact AH.set_same _ _ _ | ((first | refine AH.get_ne ?_ ?_ | refine AH.getd_ne ?_ ?_); (first | assumption | omega | exact Ne.symm (by assumption) | exact AH.ne_none (by assumption) (by assumption) | exact AH.none_ne (by assumption) (by assumption) | exact (AH.none_set (by assumption)).1 | exact Ne.symm (AH.none_set (by assumption)).1)))); done)) | (apply Exists.intro; apply And.intro; first | (with_reducible assumption) | ((try simp only [List.getElem?_drop, Nat.mul_one, Nat.add_zero, Nat.zero_add]); first | (with_reducible assumption) | (refine u8s_get ?_; omega) | (refine iS_get ?_; omega) | assumption | rfl)) | (apply And.intro; (first | rfl | (with_reducible assumption) | exact Nat.le_of_ble_eq_true rfl | omega | (exact Int.ofNat_lt.2 (Nat.lt_of_lt_of_eq (by with_reducible assumption) (by decide +kernel))) | assumption | (simp <;> fail) | (simp <;> omega) | (focus (repeat' (first | exact one_u8s _ | exact one_iS _ _ | rfl | apply one_take | apply one_drop | apply one_append)); done))))) <;> (try (conv => whnf))
    ((repeat' (first | refine HLe.set_of _ _ ?_ ?_ | refine HLe.del _ ?_ ?_)) <;> (first | assumption | exact HLe.refl _ | exact HLe.none (by assumption) (by assumption) | (simp_all; done)))

set_option maxRecDepth 8000 in
theorem smallI_c (r : Nat) (hr : r < 10000) (H : AH) :
    ACall Try.prog 65 [nR false r] H (fun v H' => v = .tup [.int .i64 (r : Nat), .bool true] ∧ H' = H) := by
  refine ACall.back ?_
  have hl : (dg r).length ≤ 1 := dg_len (n := r) (k := 1) (by omega)
  have o1 := fun H => of_c 9223372036854775807 (by decide) H
  have o2 := fun H => of_c (-9223372036854775808) (by decide) H
  rw [show (decide ((9223372036854775807 : Int) < 0)) = false from rfl, show ab 9223372036854775807 = 9223372036854775807 from rfl, nN_false] at o1
  rw [show (decide ((-9223372036854775808 : Int) < 0)) = true from rfl, show ab (-9223372036854775808) = 9223372036854775808 from rfl] at o2
  rw [nN_R, show (true && !decide (9223372036854775808 = 0)) = true from rfl] at o2
  have c1 := fun H => cmpI_c false false r 9223372036854775807 (by omega) (Nat.le_trans (dg_len (k := 5) (by decide)) (by decide)) H
  have c2 := fun H => cmpI_c false true r 9223372036854775808 (by omega) (Nat.le_trans (dg_len (k := 5) (by decide)) (by decide)) H
  rw [if_pos rfl, if_neg (by decide), show cmpV r 9223372036854775807 = -1 from by unfold cmpV; rw [if_pos (by omega)]] at c1
  rw [if_neg (by decide), if_neg (by decide)] at c2
  have hd : (dg r).length = 0 ∧ r = 0 ∨ (dg r).length = 1 ∧ (dA (dg r))[(0 : Int).toNat]? = some (.int .i64 (r : Nat)) := by
    by_cases h0 : r = 0
    · subst h0; rw [dg_zero]; exact .inl ⟨rfl, rfl⟩
    · rw [dg_one hr h0]; exact .inr ⟨rfl, rfl⟩
  unfold nR at *
  generalize dA (dg 9223372036854775807) = A1 at *
  generalize (dg 9223372036854775807).length = L1 at *
  generalize dA (dg 9223372036854775808) = A2 at *
  generalize (dg 9223372036854775808).length = L2 at *
  generalize dA (dg r) = a at *
  generalize (dg r).length = L at *
  refine ACall_of tt_ok (dok _) Try.func65 rfl (by decide) rfl ?_
  (repeat' ((conv => whnf); first | left | refine OpsA.cons ?_ | refine OpsA.nil ?_ | refine AWq.seq ?_ | refine AWq.region ?_ | refine AWq.cond ?_ | refine AWq.block ?_ | refine AWq.skip ?_ | refine AWq.ret ?_ | refine AWq.exit ?_ | refine AWq.loop ?_ | refine DrawA.consD ?_ | refine DrawA.nil ?_ | refine AWq.draw (by decide +kernel) ?_ | (refine ACall.to (o1 _) ?_) | (refine ACall.to (o2 _) ?_) | (refine ACall.to (c1 _) ?_) | (refine ACall.to (c2 _) ?_) | (apply Exists.intro; apply And.intro; exact o1 _) | (apply Exists.intro; apply And.intro; exact o2 _) | (apply Exists.intro; apply And.intro; exact c1 _) | (apply Exists.intro; apply And.intro; exact c2 _) | (apply Exists.intro; apply Exists.intro; apply And.intro; exact o1 _) | (apply Exists.intro; apply Exists.intro; apply And.intro; exact o2 _) | (apply Exists.intro; apply Exists.intro; apply And.intro; exact c1 _) | (apply Exists.intro; apply Exists.intro; apply And.intro; exact c2 _) | (refine Both.mk ?_ ?_ <;> intro hc <;> (first | exact Bool.noConfusion hc | exact absurd (by with_reducible rfl) hc | exact (hc : False).elim | exact absurd (by assumption) hc | exact absurd hc (by assumption) | (exfalso; omega) | exact absurd hc (by decide) | skip)) | (intro c hc; (try (simp only [AH.none_iff] at hc; repeat (have hn := hc.1; replace hc := hc.2))); (first | (have hc2 := Eq.trans hc (by with_reducible assumption); clear hc; subst hc2) | (refine i64_k hc ?_ ?_ ?_ ; omega; omega; (clear hc; intro hc; subst hc)) | (refine u64_k hc ?_ ?_ ?_ ; omega; omega; (clear hc; intro hc; subst hc)) | (refine u8_k hc ?_ ?_ ?_ ; omega; omega; (clear hc; intro hc; subst hc)) | subst hc | skip)) | (apply Exists.intro; apply And.intro; (focus (repeat (first | assumption | exact AH.set_same _ _ _ | ((first | refine AH.get_ne ?_ ?_ | refine AH.getd_ne ?_ ?_); (first | assumption | omega | exact Ne.symm (by assumption) | exact AH.ne_none (by assumption) (by assumption) | exact AH.none_ne (by assumption) (by assumption) | exact (AH.none_set (by assumption)).1 | exact Ne.symm (AH.none_set (by assumption)).1)))); done)) | (apply Exists.intro; apply And.intro; first | (with_reducible assumption) | ((try simp only [List.getElem?_drop, Nat.mul_one, Nat.add_zero, Nat.zero_add]); first | (with_reducible assumption) | (refine u8s_get ?_; omega) | (refine iS_get ?_; omega) | assumption | rfl)) | (apply And.intro; (first | rfl | (with_reducible assumption) | exact Nat.le_of_ble_eq_true rfl | omega | (exact Int.ofNat_lt.2 (Nat.lt_of_lt_of_eq (by with_reducible assumption) (by decide +kernel))) | assumption | (simp <;> fail) | (simp <;> omega) | (focus (repeat' (first | exact one_u8s _ | exact one_iS _ _ | rfl | apply one_take | apply one_drop | apply one_append)); done))))) <;> (try (conv => whnf))
  repeat (refine Then.mk ?_; (repeat' ((conv => whnf); first | left | refine OpsA.cons ?_ | refine OpsA.nil ?_ | refine AWq.seq ?_ | refine AWq.region ?_ | refine AWq.cond ?_ | refine AWq.block ?_ | refine AWq.skip ?_ | refine AWq.ret ?_ | refine AWq.exit ?_ | refine AWq.loop ?_ | refine DrawA.consD ?_ | refine DrawA.nil ?_ | refine AWq.draw (by decide +kernel) ?_ | (refine ACall.to (o1 _) ?_) | (refine ACall.to (o2 _) ?_) | (refine ACall.to (c1 _) ?_) | (refine ACall.to (c2 _) ?_) | (apply Exists.intro; apply And.intro; exact o1 _) | (apply Exists.intro; apply And.intro; exact o2 _) | (apply Exists.intro; apply And.intro; exact c1 _) | (apply Exists.intro; apply And.intro; exact c2 _) | (apply Exists.intro; apply Exists.intro; apply And.intro; exact o1 _) | (apply Exists.intro; apply Exists.intro; apply And.intro; exact o2 _) | (apply Exists.intro; apply Exists.intro; apply And.intro; exact c1 _) | (apply Exists.intro; apply Exists.intro; apply And.intro; exact c2 _) | (refine Both.mk ?_ ?_ <;> intro hc <;> (first | exact Bool.noConfusion hc | exact absurd (by with_reducible rfl) hc | exact (hc : False).elim | exact absurd (by assumption) hc | exact absurd hc (by assumption) | (exfalso; omega) | exact absurd hc (by decide) | skip)) | (intro c hc; (try (simp only [AH.none_iff] at hc; repeat (have hn := hc.1; replace hc := hc.2))); (first | (have hc2 := Eq.trans hc (by with_reducible assumption); clear hc; subst hc2) | (refine i64_k hc ?_ ?_ ?_ ; omega; omega; (clear hc; intro hc; subst hc)) | (refine u64_k hc ?_ ?_ ?_ ; omega; omega; (clear hc; intro hc; subst hc)) | (refine u8_k hc ?_ ?_ ?_ ; omega; omega; (clear hc; intro hc; subst hc)) | subst hc | skip)) | (apply Exists.intro; apply And.intro; (focus (repeat (first | assumption | exact AH.set_same _ _ _ | ((first | refine AH.get_ne ?_ ?_ | refine AH.getd_ne ?_ ?_); (first | assumption | omega | exact Ne.symm (by assumption) | exact AH.ne_none (by assumption) (by assumption) | exact AH.none_ne (by assumption) (by assumption) | exact (AH.none_set (by assumption)).1 | exact Ne.symm (AH.none_set (by assumption)).1)))); done)) | (apply Exists.intro; apply And.intro; first | (with_reducible assumption) | ((try simp only [List.getElem?_drop, Nat.mul_one, Nat.add_zero, Nat.zero_add]); first | (with_reducible assumption) | (refine u8s_get ?_; omega) | (refine iS_get ?_; omega) | assumption | rfl)) | (apply And.intro; (first | rfl | (with_reducible assumption) | exact Nat.le_of_ble_eq_true rfl | omega | (exact Int.ofNat_lt.2 (Nat.lt_of_lt_of_eq (by with_reducible assumption) (by decide +kernel))) | assumption | (simp <;> fail) | (simp <;> omega) | (focus (repeat' (first | exact one_u8s _ | exact one_iS _ _ | rfl | apply one_take | apply one_drop | apply one_append)); done))))) <;> (try (conv => whnf)))
  all_goals
    obtain ⟨b, hb⟩ : ∃ b, b = c := ⟨c, rfl⟩
    have hbH : H c = none := by assumption
    have kb : (H.set c (.row [.bool false, .cs a L] 0)) c = some (.row [.bool false, .cs a L] 0) := AH.set_same _ _ _
    have hle : HLe H (H.set c (.row [.bool false, .cs a L] 0)) := HLe.fresh _ hbH
    generalize (H.set c (.row [.bool false, .cs a L] 0)) = G at *
    refine AWp_loop (σ := Nat × Nat) (4 :: 5 :: 20 :: 21 :: 22 :: 23 :: 24 :: 25 :: 26 :: 27 :: 28 :: 29 :: 30 :: 31 :: 32 :: 33 :: 34 :: 35 :: 36 :: 37 :: 38 :: 39 :: 40 :: 41 :: []) (fun (k, n) => [(4, .int .i64 n), (5, .int .i64 ((k : Int) - 1))]) (fun _ => G) (fun (k, n) => (k = 0 ∧ n = r) ∨ (k = 1 ∧ L = 1 ∧ n = 0)) (fun (k, n) => k) (L, 0) rfl ?_ ⟨rfl, rfl, trivial⟩ (HLe.refl _) ?_
    · rcases hd with ⟨h1, h2⟩ | ⟨h1, h2⟩
      · exact .inl ⟨h1, h2.symm⟩
      · exact .inr ⟨h1, h1, rfl⟩
    · rintro ⟨k, n⟩ hi
      dsimp only at hi ⊢
      refine AWp.of tt_ok (dok _) rfl ?_
      rcases hi with ⟨rfl, rfl⟩ | ⟨rfl, h2, rfl⟩
      · (repeat' ((conv => whnf); first | refine Then.mk ?_ | left | refine OpsA.cons ?_ | refine OpsA.nil ?_ | refine AWq.seq ?_ | refine AWq.region ?_ | refine AWq.cond ?_ | refine AWq.block ?_ | refine AWq.skip ?_ | refine AWq.ret ?_ | refine AWq.exit ?_ | refine AWq.loop ?_ | refine DrawA.consD ?_ | refine DrawA.nil ?_ | refine AWq.draw (by decide +kernel) ?_ | (refine Both.mk ?_ ?_ <;> intro hc <;> (first | exact Bool.noConfusion hc | exact absurd (by with_reducible rfl) hc | exact (hc : False).elim | exact absurd (by assumption) hc | exact absurd hc (by assumption) | (exfalso; omega) | exact absurd hc (by decide) | skip)) | (intro c hc; (try (simp only [AH.none_iff] at hc; repeat (have hn := hc.1; replace hc := hc.2))); (first | (have hc2 := Eq.trans hc (by with_reducible assumption); clear hc; subst hc2) | (refine i64_k hc ?_ ?_ ?_ ; omega; omega; (clear hc; intro hc; subst hc)) | (refine u64_k hc ?_ ?_ ?_ ; omega; omega; (clear hc; intro hc; subst hc)) | (refine u8_k hc ?_ ?_ ?_ ; omega; omega; (clear hc; intro hc; subst hc)) | subst hc | skip)) | (apply Exists.intro; apply And.intro; (focus (repeat (first | assumption | exact AH.set_same _ _ _ | ((first | refine AH.get_ne ?_ ?_ | refine AH.getd_ne ?_ ?_); (first | assumption | omega | exact Ne.symm (by assumption) | exact AH.ne_none (by assumption) (by assumption) | exact AH.none_ne (by assumption) (by assumption) | exact (AH.none_set (by assumption)).1 | exact Ne.symm (AH.none_set (by assumption)).1)))); done)) | (apply Exists.intro; apply And.intro; first | (with_reducible assumption) | ((try simp only [List.getElem?_drop, Nat.mul_one, Nat.add_zero, Nat.zero_add]); first | (with_reducible assumption) | (refine u8s_get ?_; omega) | (refine iS_get ?_; omega) | assumption | rfl)) | (apply And.intro; (first | rfl | (with_reducible assumption) | exact Nat.le_of_ble_eq_true rfl | omega | (exact Int.ofNat_lt.2 (Nat.lt_of_lt_of_eq (by with_reducible assumption) (by decide +kernel))) | assumption | (simp <;> fail) | (simp <;> omega) | (focus (repeat' (first | exact one_u8s _ | exact one_iS _ _ | rfl | apply one_take | apply one_drop | apply one_append)); done))))) <;> (try (conv => whnf))
        assumption
      · subst h2
        have ha : a[Int.toNat 0]? = some (.int .i64 (r : Nat)) := by
          rcases hd with h | h
          · exact absurd h.1 (by decide)
          · exact h.2
        (repeat' ((conv => whnf); first | refine Then.mk ?_ | left | refine OpsA.cons ?_ | refine OpsA.nil ?_ | refine AWq.seq ?_ | refine AWq.region ?_ | refine AWq.cond ?_ | refine AWq.block ?_ | refine AWq.skip ?_ | refine AWq.ret ?_ | refine AWq.exit ?_ | refine AWq.loop ?_ | refine DrawA.consD ?_ | refine DrawA.nil ?_ | refine AWq.draw (by decide +kernel) ?_ | (refine Both.mk ?_ ?_ <;> intro hc <;> (first | exact Bool.noConfusion hc | exact absurd (by with_reducible rfl) hc | exact (hc : False).elim | exact absurd (by assumption) hc | exact absurd hc (by assumption) | (exfalso; omega) | exact absurd hc (by decide) | skip)) | (intro c hc; (try (simp only [AH.none_iff] at hc; repeat (have hn := hc.1; replace hc := hc.2))); (first | (have hc2 := Eq.trans hc (by with_reducible assumption); clear hc; subst hc2) | (refine i64_k hc ?_ ?_ ?_ ; omega; omega; (clear hc; intro hc; subst hc)) | (refine u64_k hc ?_ ?_ ?_ ; omega; omega; (clear hc; intro hc; subst hc)) | (refine u8_k hc ?_ ?_ ?_ ; omega; omega; (clear hc; intro hc; subst hc)) | subst hc | skip)) | (apply Exists.intro; apply And.intro; (focus (repeat (first | assumption | exact AH.set_same _ _ _ | ((first | refine AH.get_ne ?_ ?_ | refine AH.getd_ne ?_ ?_); (first | assumption | omega | exact Ne.symm (by assumption) | exact AH.ne_none (by assumption) (by assumption) | exact AH.none_ne (by assumption) (by assumption) | exact (AH.none_set (by assumption)).1 | exact Ne.symm (AH.none_set (by assumption)).1)))); done)) | (apply Exists.intro; apply And.intro; first | (with_reducible assumption) | ((try simp only [List.getElem?_drop, Nat.mul_one, Nat.add_zero, Nat.zero_add]); first | (with_reducible assumption) | (refine u8s_get ?_; omega) | (refine iS_get ?_; omega) | assumption | rfl)) | (apply And.intro; (first | rfl | (with_reducible assumption) | exact Nat.le_of_ble_eq_true rfl | omega | (exact Int.ofNat_lt.2 (Nat.lt_of_lt_of_eq (by with_reducible assumption) (by decide +kernel))) | assumption | (simp <;> fail) | (simp <;> omega) | (focus (repeat' (first | exact one_u8s _ | exact one_iS _ _ | rfl | apply one_take | apply one_drop | apply one_append)); done))))) <;> (try (conv => whnf))
        exact ⟨(0, r), .inl ⟨rfl, rfl⟩, Nat.zero_lt_one, ⟨congrArg (AV.int .i64) (by omega), rfl, trivial⟩, HLe.refl _⟩

set_option maxHeartbeats 4000000 in
set_option maxRecDepth 8000 in
theorem div_c (x d : Nat) (hx : (dg x).length ≤ 50000000) (hd0 : d ≠ 0) (hd : d < 10000) (H : AH) :
    ACall Try.prog 63 [nR false x, nR false d] H (fun y H' => y = .tup [nN false (x / d), nN false (x % d)] ∧ H' = H) := by
  refine ACall.back ?_
  obtain ⟨o1, o2, o3, o4⟩ := dq_ok hd0 (dok_dg x)
  rw [dv_dg] at o3
  have hdv := fun H => divided_c x d hx hd0 hd H
  have hnm := fun H => normal_k false (dq d (dg x)).1 o1 (by omega) H
  rw [o3, o2] at hnm
  have hm2 : x % d < 10000 := Nat.lt_trans (Nat.mod_lt _ (by omega)) hd
  have hnr := fun H => normal_k false (dg (x % d)) (dok_dg _) (Nat.le_trans (dg_len (k := 1) (by omega)) (by decide)) H
  rw [dv_dg] at hnr
  have hql : (dA (dq d (dg x)).1).length = (dg x).length * 1 := by simp [o2]
  generalize dA (dq d (dg x)).1 = qs at *
  generalize x / d = q at *
  generalize x % d = m at *
  simp only [nN_false] at hnm hnr ⊢
  unfold nR at *
  rw [dg_one hd hd0]
  generalize dA (dg q) = Q at *
  generalize (dg q).length = QL at *
  generalize dA (dg m) = M at *
  generalize (dg m).length = ML at *
  generalize dA (dg x) = X at *
  generalize (dg x).length = XL at *
  have hdk : ∀ H, ACall Try.prog 73 [.cs X XL, .cs (dA [d]) 1] H (fun y H' => ∃ c, y = .tup [.sl c 0 1 0 XL none, .cs M ML] ∧ H c = none ∧ H' = H.set c (.row qs 0)) := fun H =>
    ACall.told ((hdv H).mono fun y H' ⟨c, h1, h2, h3⟩ => ⟨y, _, AVle.refl _, h3, c, h1, h2, rfl⟩)
  generalize hD : dA [d] = D at *
  have hD1 : [d].length = 1 := rfl
  rw [hD1]
  clear hdv hD hD1
  refine ACall_of tt_ok (dok _) Try.func63 rfl (by decide) rfl ?_
  (repeat' ((conv => whnf); first | left | refine OpsA.cons ?_ | refine OpsA.nil ?_ | refine AWq.seq ?_ | refine AWq.region ?_ | refine AWq.cond ?_ | refine AWq.skip ?_ | refine AWq.ret ?_ | refine DrawA.consD ?_ | refine DrawA.nil ?_ | refine AWq.draw (by decide +kernel) ?_ | (refine Both.mk ?_ ?_ <;> intro hc <;> (first | exact Bool.noConfusion hc | exact absurd (by with_reducible rfl) hc | exact (hc : False).elim | exact absurd (by assumption) hc | exact absurd hc (by assumption) | (exfalso; omega) | exact absurd hc (by decide) | skip)) | (intro c hc; (try (simp only [AH.none_iff] at hc; repeat (have hn := hc.1; replace hc := hc.2))); (first | (have hc2 := Eq.trans hc (by with_reducible assumption); clear hc; subst hc2) | (refine i64_k hc ?_ ?_ ?_ ; omega; omega; (clear hc; intro hc; subst hc)) | (refine u64_k hc ?_ ?_ ?_ ; omega; omega; (clear hc; intro hc; subst hc)) | (refine u8_k hc ?_ ?_ ?_ ; omega; omega; (clear hc; intro hc; subst hc)) | subst hc | skip)) | (apply Exists.intro; apply And.intro; (focus (repeat (first | assumption | exact AH.set_same _ _ _ | ((first | refine AH.get_ne ?_ ?_ | refine AH.getd_ne ?_ ?_); (first | assumption | omega | exact Ne.symm (by assumption) | exact AH.ne_none (by assumption) (by assumption) | exact AH.none_ne (by assumption) (by assumption) | exact (AH.none_set (by assumption)).1 | exact Ne.symm (AH.none_set (by assumption)).1)))); done)) | (apply Exists.intro; apply And.intro; first | (with_reducible assumption) | ((try simp only [List.getElem?_drop, Nat.mul_one, Nat.add_zero, Nat.zero_add]); first | (with_reducible assumption) | (refine u8s_get ?_; omega) | (refine iS_get ?_; omega) | assumption | rfl)) | (apply And.intro; (first | rfl | (with_reducible assumption) | exact Nat.le_of_ble_eq_true rfl | omega | (exact Int.ofNat_lt.2 (Nat.lt_of_lt_of_eq (by with_reducible assumption) (by decide +kernel))) | assumption | (simp <;> fail) | (simp <;> omega) | (focus (repeat' (first | exact one_u8s _ | exact one_iS _ _ | rfl | apply one_take | apply one_drop | apply one_append)); done))))) <;> (try (conv => whnf))
  rename_i r2 z2 r3 n32 z3 r4 n43 n42 z4 n54 n53
  obtain ⟨r5, h5⟩ : ∃ r, r = c := ⟨c, rfl⟩
  rw [← h5] at hn n54 n53 ⊢
  have z5 : H r5 = none := h5 ▸ hc
  clear h5 hc
  clear c
  obtain ⟨nm, k0, k1⟩ : ∃ nm : Nat → Nat, nm 0 = r4 ∧ nm 1 = r5 := ⟨fun k => if k = 0 then r4 else r5, rfl, rfl⟩
  subst k0 k1
  refine Then.mk ?_
  (repeat' ((conv => whnf); first | left | refine OpsA.cons ?_ | refine OpsA.nil ?_ | refine AWq.seq ?_ | refine AWq.region ?_ | refine AWq.cond ?_ | refine AWq.skip ?_ | refine AWq.ret ?_ | refine DrawA.consD ?_ | refine DrawA.nil ?_ | refine AWq.draw (by decide +kernel) ?_ | (refine Both.mk ?_ ?_ <;> intro hc <;> (first | exact Bool.noConfusion hc | exact absurd (by with_reducible rfl) hc | exact (hc : False).elim | exact absurd (by assumption) hc | exact absurd hc (by assumption) | (exfalso; omega) | exact absurd hc (by decide) | skip)) | (intro c hc; (try (simp only [AH.none_iff] at hc; repeat (have hn := hc.1; replace hc := hc.2))); (first | (have hc2 := Eq.trans hc (by with_reducible assumption); clear hc; subst hc2) | (refine i64_k hc ?_ ?_ ?_ ; omega; omega; (clear hc; intro hc; subst hc)) | (refine u64_k hc ?_ ?_ ?_ ; omega; omega; (clear hc; intro hc; subst hc)) | (refine u8_k hc ?_ ?_ ?_ ; omega; omega; (clear hc; intro hc; subst hc)) | subst hc | skip)) | (apply Exists.intro; apply And.intro; (focus (repeat (first | assumption | exact AH.set_same _ _ _ | ((first | refine AH.get_ne ?_ ?_ | refine AH.getd_ne ?_ ?_); (first | assumption | omega | exact Ne.symm (by assumption) | exact AH.ne_none (by assumption) (by assumption) | exact AH.none_ne (by assumption) (by assumption) | exact (AH.none_set (by assumption)).1 | exact Ne.symm (AH.none_set (by assumption)).1)))); done)) | (apply Exists.intro; apply And.intro; first | (with_reducible assumption) | ((try simp only [List.getElem?_drop, Nat.mul_one, Nat.add_zero, Nat.zero_add]); first | (with_reducible assumption) | (refine u8s_get ?_; omega) | (refine iS_get ?_; omega) | assumption | rfl)) | (apply And.intro; (first | rfl | (with_reducible assumption) | exact Nat.le_of_ble_eq_true rfl | omega | (exact Int.ofNat_lt.2 (Nat.lt_of_lt_of_eq (by with_reducible assumption) (by decide +kernel))) | assumption | (simp <;> fail) | (simp <;> omega) | (focus (repeat' (first | exact one_u8s _ | exact one_iS _ _ | rfl | apply one_take | apply one_drop | apply one_append)); done))))) <;> (try (conv => whnf))
  refine (hdk _).mono ?_
  rintro y H' ⟨c9, rfl, h9, rfl⟩
  have h9' := h9
  simp only [AH.none_iff] at h9'
  obtain ⟨m1, m2, m3, m4, m5⟩ := h9'
  (repeat' ((conv => whnf); first | left | refine OpsA.cons ?_ | refine OpsA.nil ?_ | refine AWq.seq ?_ | refine AWq.region ?_ | refine AWq.cond ?_ | refine AWq.skip ?_ | refine AWq.ret ?_ | refine DrawA.consD ?_ | refine DrawA.nil ?_ | refine AWq.draw (by decide +kernel) ?_ | (refine Both.mk ?_ ?_ <;> intro hc <;> (first | exact Bool.noConfusion hc | exact absurd (by with_reducible rfl) hc | exact (hc : False).elim | exact absurd (by assumption) hc | exact absurd hc (by assumption) | (exfalso; omega) | exact absurd hc (by decide) | skip)) | (intro c hc; (try (simp only [AH.none_iff] at hc; repeat (have hn := hc.1; replace hc := hc.2))); (first | (have hc2 := Eq.trans hc (by with_reducible assumption); clear hc; subst hc2) | (refine i64_k hc ?_ ?_ ?_ ; omega; omega; (clear hc; intro hc; subst hc)) | (refine u64_k hc ?_ ?_ ?_ ; omega; omega; (clear hc; intro hc; subst hc)) | (refine u8_k hc ?_ ?_ ?_ ; omega; omega; (clear hc; intro hc; subst hc)) | subst hc | skip)) | (apply Exists.intro; apply And.intro; (focus (repeat (first | assumption | exact AH.set_same _ _ _ | ((first | refine AH.get_ne ?_ ?_ | refine AH.getd_ne ?_ ?_); (first | assumption | omega | exact Ne.symm (by assumption) | exact AH.ne_none (by assumption) (by assumption) | exact AH.none_ne (by assumption) (by assumption) | exact (AH.none_set (by assumption)).1 | exact Ne.symm (AH.none_set (by assumption)).1)))); done)) | (apply Exists.intro; apply And.intro; first | (with_reducible assumption) | ((try simp only [List.getElem?_drop, Nat.mul_one, Nat.add_zero, Nat.zero_add]); first | (with_reducible assumption) | (refine u8s_get ?_; omega) | (refine iS_get ?_; omega) | assumption | rfl)) | (apply And.intro; (first | rfl | (with_reducible assumption) | exact Nat.le_of_ble_eq_true rfl | omega | (exact Int.ofNat_lt.2 (Nat.lt_of_lt_of_eq (by with_reducible assumption) (by decide +kernel))) | assumption | (simp <;> fail) | (simp <;> omega) | (focus (repeat' (first | exact one_u8s _ | exact one_iS _ _ | rfl | apply one_take | apply one_drop | apply one_append)); done))))) <;> (try (conv => whnf))
  refine Then.mk ?_
  (repeat' ((conv => whnf); first | left | refine OpsA.cons ?_ | refine OpsA.nil ?_ | refine AWq.seq ?_ | refine AWq.region ?_ | refine AWq.cond ?_ | refine AWq.skip ?_ | refine AWq.ret ?_ | refine DrawA.consD ?_ | refine DrawA.nil ?_ | refine AWq.draw (by decide +kernel) ?_ | (refine Both.mk ?_ ?_ <;> intro hc <;> (first | exact Bool.noConfusion hc | exact absurd (by with_reducible rfl) hc | exact (hc : False).elim | exact absurd (by assumption) hc | exact absurd hc (by assumption) | (exfalso; omega) | exact absurd hc (by decide) | skip)) | (intro c hc; (try (simp only [AH.none_iff] at hc; repeat (have hn := hc.1; replace hc := hc.2))); (first | (have hc2 := Eq.trans hc (by with_reducible assumption); clear hc; subst hc2) | (refine i64_k hc ?_ ?_ ?_ ; omega; omega; (clear hc; intro hc; subst hc)) | (refine u64_k hc ?_ ?_ ?_ ; omega; omega; (clear hc; intro hc; subst hc)) | (refine u8_k hc ?_ ?_ ?_ ; omega; omega; (clear hc; intro hc; subst hc)) | subst hc | skip)) | (apply Exists.intro; apply And.intro; (focus (repeat (first | assumption | exact AH.set_same _ _ _ | ((first | refine AH.get_ne ?_ ?_ | refine AH.getd_ne ?_ ?_); (first | assumption | omega | exact Ne.symm (by assumption) | exact AH.ne_none (by assumption) (by assumption) | exact AH.none_ne (by assumption) (by assumption) | exact (AH.none_set (by assumption)).1 | exact Ne.symm (AH.none_set (by assumption)).1)))); done)) | (apply Exists.intro; apply And.intro; first | (with_reducible assumption) | ((try simp only [List.getElem?_drop, Nat.mul_one, Nat.add_zero, Nat.zero_add]); first | (with_reducible assumption) | (refine u8s_get ?_; omega) | (refine iS_get ?_; omega) | assumption | rfl)) | (apply And.intro; (first | rfl | (with_reducible assumption) | exact Nat.le_of_ble_eq_true rfl | omega | (exact Int.ofNat_lt.2 (Nat.lt_of_lt_of_eq (by with_reducible assumption) (by decide +kernel))) | assumption | (simp <;> fail) | (simp <;> omega) | (focus (repeat' (first | exact one_u8s _ | exact one_iS _ _ | rfl | apply one_take | apply one_drop | apply one_append)); done))))) <;> (try (conv => whnf))
  refine ACall.frz (pre := [_]) (post := []) (AH.set_same _ _ _) hql ?_
  rw [AH.del_set _ _ _ h9]
  (repeat' ((conv => whnf); first | left | refine OpsA.cons ?_ | refine OpsA.nil ?_ | refine AWq.seq ?_ | refine AWq.region ?_ | refine AWq.cond ?_ | refine AWq.skip ?_ | refine AWq.ret ?_ | refine DrawA.consD ?_ | refine DrawA.nil ?_ | refine AWq.draw (by decide +kernel) ?_ | (refine ACall.to (hnm _) ?_) | (apply Exists.intro; apply And.intro; exact hnm _) | (apply Exists.intro; apply Exists.intro; apply And.intro; exact hnm _) | (refine Both.mk ?_ ?_ <;> intro hc <;> (first | exact Bool.noConfusion hc | exact absurd (by with_reducible rfl) hc | exact (hc : False).elim | exact absurd (by assumption) hc | exact absurd hc (by assumption) | (exfalso; omega) | exact absurd hc (by decide) | skip)) | (intro c hc; (try (simp only [AH.none_iff] at hc; repeat (have hn := hc.1; replace hc := hc.2))); (first | (have hc2 := Eq.trans hc (by with_reducible assumption); clear hc; subst hc2) | (refine i64_k hc ?_ ?_ ?_ ; omega; omega; (clear hc; intro hc; subst hc)) | (refine u64_k hc ?_ ?_ ?_ ; omega; omega; (clear hc; intro hc; subst hc)) | (refine u8_k hc ?_ ?_ ?_ ; omega; omega; (clear hc; intro hc; subst hc)) | subst hc | skip)) | (apply Exists.intro; apply And.intro; (focus (repeat (first | assumption | exact AH.set_same _ _ _ | ((first | refine AH.get_ne ?_ ?_ | refine AH.getd_ne ?_ ?_); (first | assumption | omega | exact Ne.symm (by assumption) | exact AH.ne_none (by assumption) (by assumption) | exact AH.none_ne (by assumption) (by assumption) | exact (AH.none_set (by assumption)).1 | exact Ne.symm (AH.none_set (by assumption)).1)))); done)) | (apply Exists.intro; apply And.intro; first | (with_reducible assumption) | ((try simp only [List.getElem?_drop, Nat.mul_one, Nat.add_zero, Nat.zero_add]); first | (with_reducible assumption) | (refine u8s_get ?_; omega) | (refine iS_get ?_; omega) | assumption | rfl)) | (apply And.intro; (first | rfl | (with_reducible assumption) | exact Nat.le_of_ble_eq_true rfl | omega | (exact Int.ofNat_lt.2 (Nat.lt_of_lt_of_eq (by with_reducible assumption) (by decide +kernel))) | assumption | (simp <;> fail) | (simp <;> omega) | (focus (repeat' (first | exact one_u8s _ | exact one_iS _ _ | rfl | apply one_take | apply one_drop | apply one_append)); done))))) <;> (try (conv => whnf))
  refine Then.mk ?_
  (repeat' ((conv => whnf); first | left | refine OpsA.cons ?_ | refine OpsA.nil ?_ | refine AWq.seq ?_ | refine AWq.region ?_ | refine AWq.cond ?_ | refine AWq.skip ?_ | refine AWq.ret ?_ | refine DrawA.consD ?_ | refine DrawA.nil ?_ | refine AWq.draw (by decide +kernel) ?_ | (refine ACall.to (hnr _) ?_) | (apply Exists.intro; apply And.intro; exact hnr _) | (apply Exists.intro; apply Exists.intro; apply And.intro; exact hnr _) | (refine Both.mk ?_ ?_ <;> intro hc <;> (first | exact Bool.noConfusion hc | exact absurd (by with_reducible rfl) hc | exact (hc : False).elim | exact absurd (by assumption) hc | exact absurd hc (by assumption) | (exfalso; omega) | exact absurd hc (by decide) | skip)) | (intro c hc; (try (simp only [AH.none_iff] at hc; repeat (have hn := hc.1; replace hc := hc.2))); (first | (have hc2 := Eq.trans hc (by with_reducible assumption); clear hc; subst hc2) | (refine i64_k hc ?_ ?_ ?_ ; omega; omega; (clear hc; intro hc; subst hc)) | (refine u64_k hc ?_ ?_ ?_ ; omega; omega; (clear hc; intro hc; subst hc)) | (refine u8_k hc ?_ ?_ ?_ ; omega; omega; (clear hc; intro hc; subst hc)) | subst hc | skip)) | (apply Exists.intro; apply And.intro; (focus (repeat (first | assumption | exact AH.set_same _ _ _ | ((first | refine AH.get_ne ?_ ?_ | refine AH.getd_ne ?_ ?_); (first | assumption | omega | exact Ne.symm (by assumption) | exact AH.ne_none (by assumption) (by assumption) | exact AH.none_ne (by assumption) (by assumption) | exact (AH.none_set (by assumption)).1 | exact Ne.symm (AH.none_set (by assumption)).1)))); done)) | (apply Exists.intro; apply And.intro; first | (with_reducible assumption) | ((try simp only [List.getElem?_drop, Nat.mul_one, Nat.add_zero, Nat.zero_add]); first | (with_reducible assumption) | (refine u8s_get ?_; omega) | (refine iS_get ?_; omega) | assumption | rfl)) | (apply And.intro; (first | rfl | (with_reducible assumption) | exact Nat.le_of_ble_eq_true rfl | omega | (exact Int.ofNat_lt.2 (Nat.lt_of_lt_of_eq (by with_reducible assumption) (by decide +kernel))) | assumption | (simp <;> fail) | (simp <;> omega) | (focus (repeat' (first | exact one_u8s _ | exact one_iS _ _ | rfl | apply one_take | apply one_drop | apply one_append)); done))))) <;> (try (conv => whnf))
  refine Then.mk ?_
  (repeat' ((conv => whnf); first | left | refine OpsA.cons ?_ | refine OpsA.nil ?_ | refine AWq.seq ?_ | refine AWq.region ?_ | refine AWq.cond ?_ | refine AWq.skip ?_ | refine AWq.ret ?_ | refine DrawA.consD ?_ | refine DrawA.nil ?_ | refine AWq.draw (by decide +kernel) ?_ | (refine Both.mk ?_ ?_ <;> intro hc <;> (first | exact Bool.noConfusion hc | exact absurd (by with_reducible rfl) hc | exact (hc : False).elim | exact absurd (by assumption) hc | exact absurd hc (by assumption) | (exfalso; omega) | exact absurd hc (by decide) | skip)) | (intro c hc; (try (simp only [AH.none_iff] at hc; repeat (have hn := hc.1; replace hc := hc.2))); (first | (have hc2 := Eq.trans hc (by with_reducible assumption); clear hc; subst hc2) | (refine i64_k hc ?_ ?_ ?_ ; omega; omega; (clear hc; intro hc; subst hc)) | (refine u64_k hc ?_ ?_ ?_ ; omega; omega; (clear hc; intro hc; subst hc)) | (refine u8_k hc ?_ ?_ ?_ ; omega; omega; (clear hc; intro hc; subst hc)) | subst hc | skip)) | (apply Exists.intro; apply And.intro; (focus (repeat (first | assumption | exact AH.set_same _ _ _ | ((first | refine AH.get_ne ?_ ?_ | refine AH.getd_ne ?_ ?_); (first | assumption | omega | exact Ne.symm (by assumption) | exact AH.ne_none (by assumption) (by assumption) | exact AH.none_ne (by assumption) (by assumption) | exact (AH.none_set (by assumption)).1 | exact Ne.symm (AH.none_set (by assumption)).1)))); done)) | (apply Exists.intro; apply And.intro; first | (with_reducible assumption) | ((try simp only [List.getElem?_drop, Nat.mul_one, Nat.add_zero, Nat.zero_add]); first | (with_reducible assumption) | (refine u8s_get ?_; omega) | (refine iS_get ?_; omega) | assumption | rfl)) | (apply And.intro; (first | rfl | (with_reducible assumption) | exact Nat.le_of_ble_eq_true rfl | omega | (exact Int.ofNat_lt.2 (Nat.lt_of_lt_of_eq (by with_reducible assumption) (by decide +kernel))) | assumption | (simp <;> fail) | (simp <;> omega) | (focus (repeat' (first | exact one_u8s _ | exact one_iS _ _ | rfl | apply one_take | apply one_drop | apply one_append)); done))))) <;> (try (conv => whnf))
  refine Then.mk ?_
  (repeat' ((conv => whnf); first | left | refine OpsA.cons ?_ | refine OpsA.nil ?_ | refine AWq.seq ?_ | refine AWq.region ?_ | refine AWq.cond ?_ | refine AWq.skip ?_ | refine AWq.ret ?_ | refine DrawA.consD ?_ | refine DrawA.nil ?_ | refine AWq.draw (by decide +kernel) ?_ | (refine Both.mk ?_ ?_ <;> intro hc <;> (first | exact Bool.noConfusion hc | exact absurd (by with_reducible rfl) hc | exact (hc : False).elim | exact absurd (by assumption) hc | exact absurd hc (by assumption) | (exfalso; omega) | exact absurd hc (by decide) | skip)) | (intro c hc; (try (simp only [AH.none_iff] at hc; repeat (have hn := hc.1; replace hc := hc.2))); (first | (have hc2 := Eq.trans hc (by with_reducible assumption); clear hc; subst hc2) | (refine i64_k hc ?_ ?_ ?_ ; omega; omega; (clear hc; intro hc; subst hc)) | (refine u64_k hc ?_ ?_ ?_ ; omega; omega; (clear hc; intro hc; subst hc)) | (refine u8_k hc ?_ ?_ ?_ ; omega; omega; (clear hc; intro hc; subst hc)) | subst hc | skip)) | (apply Exists.intro; apply And.intro; (focus (repeat (first | assumption | exact AH.set_same _ _ _ | ((first | refine AH.get_ne ?_ ?_ | refine AH.getd_ne ?_ ?_); (first | assumption | omega | exact Ne.symm (by assumption) | exact AH.ne_none (by assumption) (by assumption) | exact AH.none_ne (by assumption) (by assumption) | exact (AH.none_set (by assumption)).1 | exact Ne.symm (AH.none_set (by assumption)).1)))); done)) | (apply Exists.intro; apply And.intro; first | (with_reducible assumption) | ((try simp only [List.getElem?_drop, Nat.mul_one, Nat.add_zero, Nat.zero_add]); first | (with_reducible assumption) | (refine u8s_get ?_; omega) | (refine iS_get ?_; omega) | assumption | rfl)) | (apply And.intro; (first | rfl | (with_reducible assumption) | exact Nat.le_of_ble_eq_true rfl | omega | (exact Int.ofNat_lt.2 (Nat.lt_of_lt_of_eq (by with_reducible assumption) (by decide +kernel))) | assumption | (simp <;> fail) | (simp <;> omega) | (focus (repeat' (first | exact one_u8s _ | exact one_iS _ _ | rfl | apply one_take | apply one_drop | apply one_append)); done))))) <;> (try (conv => whnf))
  refine Then.mk ?_
  refine AWq.seq ?_
  refine AWq.drawK mo [(4, 0), (5, 1)] nm ?_ (by decide +kernel) ?_
  · intro a b ha hb hab
    simp at ha hb
    rcases ha with rfl | rfl <;> rcases hb with rfl | rfl <;> first | rfl | exact absurd hab n54 | exact absurd hab (Ne.symm n54)
  (repeat' ((conv => whnf); first | refine DrawK.consD ?_ | refine DrawK.nil ?_ | (apply And.intro; (focus (repeat (first | exact trivial | (refine And.intro (a := _ ≠ _) (b := offR _ _ _) ?_ ?_; (first | assumption | omega | exact Ne.symm (by assumption) | exact AH.ne_none (by assumption) (by assumption) | exact AH.none_ne (by assumption) (by assumption) | exact (AH.none_set (by assumption)).1 | exact Ne.symm (AH.none_set (by assumption)).1)))); done)) | refine Then.mk ?_ | left | refine OpsA.cons ?_ | refine OpsA.nil ?_ | refine AWq.seq ?_ | refine AWq.region ?_ | refine AWq.cond ?_ | refine AWq.skip ?_ | refine AWq.ret ?_ | refine DrawA.consD ?_ | refine DrawA.nil ?_ | refine AWq.draw (by decide +kernel) ?_ | (refine Both.mk ?_ ?_ <;> intro hc <;> (first | exact Bool.noConfusion hc | exact absurd (by with_reducible rfl) hc | exact (hc : False).elim | exact absurd (by assumption) hc | exact absurd hc (by assumption) | (exfalso; omega) | exact absurd hc (by decide) | skip)) | (intro c hc; (try (simp only [AH.none_iff] at hc; repeat (have hn := hc.1; replace hc := hc.2))); (first | (have hc2 := Eq.trans hc (by with_reducible assumption); clear hc; subst hc2) | (refine i64_k hc ?_ ?_ ?_ ; omega; omega; (clear hc; intro hc; subst hc)) | (refine u64_k hc ?_ ?_ ?_ ; omega; omega; (clear hc; intro hc; subst hc)) | (refine u8_k hc ?_ ?_ ?_ ; omega; omega; (clear hc; intro hc; subst hc)) | subst hc | skip)) | (apply Exists.intro; apply And.intro; (focus (repeat (first | assumption | exact AH.set_same _ _ _ | ((first | refine AH.get_ne ?_ ?_ | refine AH.getd_ne ?_ ?_); (first | assumption | omega | exact Ne.symm (by assumption) | exact AH.ne_none (by assumption) (by assumption) | exact AH.none_ne (by assumption) (by assumption) | exact (AH.none_set (by assumption)).1 | exact Ne.symm (AH.none_set (by assumption)).1)))); done)) | (apply Exists.intro; apply And.intro; first | (with_reducible assumption) | ((try simp only [List.getElem?_drop, Nat.mul_one, Nat.add_zero, Nat.zero_add]); first | (with_reducible assumption) | (refine u8s_get ?_; omega) | (refine iS_get ?_; omega) | assumption | rfl)) | (apply And.intro; (first | rfl | (with_reducible assumption) | exact Nat.le_of_ble_eq_true rfl | omega | (exact Int.ofNat_lt.2 (Nat.lt_of_lt_of_eq (by with_reducible assumption) (by decide +kernel))) | assumption | (simp <;> fail) | (simp <;> omega) | (focus (repeat' (first | exact one_u8s _ | exact one_iS _ _ | rfl | apply one_take | apply one_drop | apply one_append)); done))))) <;> (try (conv => whnf))
  ((repeat' (first | refine HLe.set_of _ _ ?_ ?_ | refine HLe.del _ ?_ ?_)) <;> (first | assumption | exact HLe.refl _ | exact HLe.none (by assumption) (by assumption) | (simp_all; done)))
end Go.Proofs.Ytgmooalikccbiaa
/- The plain law of the coder: counts, ranges, digits. -/
namespace Go.Proofs.Ytgmooalikccbiaa
open Go.Fw Go
set_option linter.unusedVariables false
set_option linter.unusedSimpArgs false

/-- The sum of the counts below a symbol. -/
def plc (c : Nat → Nat) : Nat → Nat
  | 0 => 0
  | k + 1 => plc c k + c k

theorem plc_le {c : Nat → Nat} {a b : Nat} (h : a ≤ b) : plc c a ≤ plc c b := by
  induction b with
  | zero => rw [Nat.le_zero.1 h]; exact Nat.le_refl _
  | succ b ih =>
    by_cases e : a = b + 1
    · rw [e]; exact Nat.le_refl _
    · have := ih (by omega)
      show plc c a ≤ plc c b + c b
      omega
theorem plc_one {c : Nat → Nat} {s n : Nat} (h : s < n) : plc c s + c s ≤ plc c n := plc_le (c := c) (a := s + 1) h
theorem plc_add {c : Nat → Nat} {s a : Nat} : ∀ {n : Nat}, plc (fun k => if k = s then c k + a else c k) n = plc c n + (if s < n then a else 0)
  | 0 => by simp [plc]
  | n + 1 => by
    unfold plc
    rw [plc_add (n := n)]
    by_cases h1 : n = s
    · subst h1; simp; omega
    · by_cases h2 : s < n
      · rw [if_pos h2, if_neg h1, if_pos (show s < n + 1 by omega)]; omega
      · rw [if_neg h2, if_neg h1, if_neg (show ¬ s < n + 1 by omega)]; omega
theorem plc_half {c : Nat → Nat} : ∀ {n : Nat}, 2 * plc (fun k => (c k + 1) / 2) n ≤ plc c n + n
  | 0 => by simp [plc]
  | n + 1 => by
    unfold plc
    have := plc_half (c := c) (n := n)
    omega

/-- What See makes of counts. -/
def upM (c : Nat → Nat) (s : Nat) : Nat → Nat := fun k => if k = s then c k + 32 else c k
def seeM (n : Nat) (c : Nat → Nat) (s : Nat) : Nat → Nat := if 32768 < plc (upM c s) n then fun k => (upM c s k + 1) / 2 else upM c s

structure MdOk (n : Nat) (c : Nat → Nat) : Prop where
  hn : n ≤ 1024
  pos : ∀ k, k < n → 1 ≤ c k
  sum : plc c n ≤ 32768
theorem MdOk.le {n : Nat} {c : Nat → Nat} (h : MdOk n c) {k : Nat} (hk : k < n) : c k ≤ 32768 := by
  have := plc_one (c := c) hk; have := h.sum; omega
theorem MdOk.tot {n : Nat} {c : Nat → Nat} (h : MdOk n c) {s : Nat} (hs : s < n) : 1 ≤ plc c n := by
  have := plc_one (c := c) hs; have := h.pos s hs; omega
theorem plc_ones : ∀ n, plc (fun _ => 1) n = n
  | 0 => rfl
  | n + 1 => by unfold plc; rw [plc_ones n]
theorem MdOk.new {n : Nat} (h : n ≤ 1024) : MdOk n fun _ => 1 := ⟨h, fun _ _ => Nat.le_refl _, by rw [plc_ones]; omega⟩
theorem MdOk.see {n : Nat} {c : Nat → Nat} (h : MdOk n c) {s : Nat} (hs : s < n) : MdOk n (seeM n c s) := by
  have hu : plc (upM c s) n = plc c n + 32 := by
    have := plc_add (c := c) (s := s) (a := 32) (n := n)
    rw [if_pos hs] at this
    exact this
  have hp : ∀ k, k < n → 1 ≤ upM c s k := fun k hk => by
    have := h.pos k hk
    unfold upM; split <;> omega
  have := h.sum; have := h.hn
  unfold seeM
  split
  · refine ⟨h.hn, fun k hk => ?_, ?_⟩
    · have := hp k hk
      show 1 ≤ (upM c s k + 1) / 2
      omega
    · have := plc_half (c := upM c s) (n := n)
      omega
  · exact ⟨h.hn, hp, by omega⟩

/-- A coder: the code as a number, the range, the bytes that are done. -/
structure Cs where
  V : Nat
  W : Nat
  L : Nat
structure CsOk (σ : Cs) : Prop where
  lo : 16777216 ≤ σ.W
  hi : σ.W ≤ 4294967296
  room : σ.V + σ.W ≤ 4294967296 * 256 ^ σ.L

def nrw (σ : Cs) (p c t : Nat) : Cs := ⟨σ.V + σ.W / t * p, σ.W / t * c, σ.L⟩
def shf : Nat → Cs → Cs
  | 0, σ => σ
  | f + 1, σ => if σ.W < 16777216 then shf f ⟨σ.V * 256, σ.W * 256, σ.L + 1⟩ else σ
def stp (σ : Cs) (p c t : Nat) : Cs := shf 3 (nrw σ p c t)
def cs0 : Cs := ⟨0, 4294967296, 0⟩
theorem cs0_ok : CsOk cs0 := ⟨by decide, by decide, by decide⟩

theorem shf_done {σ : Cs} (h : 16777216 ≤ σ.W) : ∀ f, shf f σ = σ
  | 0 => rfl
  | f + 1 => by unfold shf; rw [if_neg (by omega)]
theorem shf_ex : ∀ (f : Nat) (σ : Cs), 16777216 ≤ σ.W * 256 ^ f → σ.W ≤ 4294967296 → ∃ d, d ≤ f ∧ shf f σ = ⟨σ.V * 256 ^ d, σ.W * 256 ^ d, σ.L + d⟩ ∧ 16777216 ≤ σ.W * 256 ^ d ∧ σ.W * 256 ^ d ≤ 4294967296
  | 0, σ, h, h2 => ⟨0, Nat.le_refl _, by simp [shf], by simpa using h, by simpa using h2⟩
  | f + 1, σ, h, h2 => by
    unfold shf
    by_cases hw : σ.W < 16777216
    · rw [if_pos hw]
      obtain ⟨d, hd, he, h3, h4⟩ := shf_ex f ⟨σ.V * 256, σ.W * 256, σ.L + 1⟩ (by show _ ≤ σ.W * 256 * 256 ^ f; rw [Nat.mul_assoc, Nat.mul_comm 256, ← Nat.pow_succ]; exact h) (by show σ.W * 256 ≤ _; omega)
      have e : ∀ x : Nat, x * 256 * 256 ^ d = x * 256 ^ (d + 1) := fun x => by rw [Nat.mul_assoc, Nat.mul_comm 256, ← Nat.pow_succ]
      refine ⟨d + 1, by omega, ?_, ?_, ?_⟩
      · rw [he]
        show Cs.mk (σ.V * 256 * 256 ^ d) (σ.W * 256 * 256 ^ d) (σ.L + 1 + d) = _
        rw [e, e, show σ.L + 1 + d = σ.L + (d + 1) by omega]
      · rw [← e]; exact h3
      · rw [← e]; exact h4
    · rw [if_neg hw]
      exact ⟨0, by omega, by simp, by simp; omega, by simpa using h2⟩

/-- What holds of a step. -/
structure StOk (p c t : Nat) : Prop where
  c1 : 1 ≤ c
  pc : p + c ≤ t
  t1 : t ≤ 32768

theorem nrw_r {σ : Cs} (h : CsOk σ) {t : Nat} (h1 : 1 ≤ t) (h2 : t ≤ 32768) : 512 ≤ σ.W / t ∧ σ.W / t * t ≤ σ.W ∧ σ.W / t ≤ 4294967296 := by
  refine ⟨?_, Nat.div_mul_le_self _ _, Nat.le_trans (Nat.div_le_self _ _) h.hi⟩
  rw [Nat.le_div_iff_mul_le (by omega)]
  have := h.lo; omega
theorem nrw_ok {σ : Cs} (h : CsOk σ) {p c t : Nat} (hs : StOk p c t) : 512 ≤ (nrw σ p c t).W ∧ (nrw σ p c t).W ≤ σ.W ∧ (nrw σ p c t).V + (nrw σ p c t).W ≤ σ.V + σ.W ∧ σ.W / t * p ≤ σ.W := by
  obtain ⟨h1, h2, h3⟩ := nrw_r h (t := t) (by have := hs.c1; have := hs.pc; omega) hs.t1
  have a1 : σ.W / t * p + σ.W / t * c ≤ σ.W / t * t := by rw [← Nat.mul_add]; exact Nat.mul_le_mul_left _ hs.pc
  have a2 : σ.W / t ≤ σ.W / t * c := Nat.le_mul_of_pos_right _ hs.c1
  show 512 ≤ σ.W / t * c ∧ σ.W / t * c ≤ σ.W ∧ σ.V + σ.W / t * p + σ.W / t * c ≤ _ ∧ _
  omega
theorem stp_ex {σ : Cs} (h : CsOk σ) {p c t : Nat} (hs : StOk p c t) : ∃ d, d ≤ 2 ∧ stp σ p c t = ⟨(σ.V + σ.W / t * p) * 256 ^ d, σ.W / t * c * 256 ^ d, σ.L + d⟩ ∧ CsOk (stp σ p c t) := by
  obtain ⟨h1, h2, h3, h4⟩ := nrw_ok h hs
  obtain ⟨d, hd, he, h5, h6⟩ := shf_ex 3 (nrw σ p c t) (by have : (256 : Nat) ^ 3 = 16777216 := by decide
                                                           rw [this]; omega) (by have := h.hi; omega)
  have hr := h.room
  have hd2 : d ≤ 2 := by
    by_cases e : d = 3
    · subst e
      have : (256 : Nat) ^ 3 = 16777216 := by decide
      rw [this] at h6
      omega
    · omega
  refine ⟨d, hd2, he, ?_⟩
  unfold stp
  rw [he]
  refine ⟨h5, h6, ?_⟩
  show (nrw σ p c t).V * 256 ^ d + (nrw σ p c t).W * 256 ^ d ≤ 4294967296 * 256 ^ (σ.L + d)
  rw [← Nat.add_mul, Nat.pow_add, ← Nat.mul_assoc]
  exact Nat.mul_le_mul_right _ (by omega)
theorem stp_ok {σ : Cs} (h : CsOk σ) {p c t : Nat} (hs : StOk p c t) : CsOk (stp σ p c t) := let ⟨_, _, _, h⟩ := stp_ex h hs; h

/-- Digits of 256, the most significant one first. -/
def dig : Nat → Nat → List UInt8
  | 0, _ => []
  | L + 1, x => dig L (x / 256) ++ [UInt8.ofNat (x % 256)]
@[simp] theorem dig_len : ∀ (L x : Nat), (dig L x).length = L
  | 0, _ => rfl
  | L + 1, x => by simp [dig, dig_len L]
theorem dig_snoc (L x b : Nat) (h : b < 256) : dig (L + 1) (x * 256 + b) = dig L x ++ [UInt8.ofNat b] := by
  show dig L ((x * 256 + b) / 256) ++ [UInt8.ofNat ((x * 256 + b) % 256)] = _
  rw [show (x * 256 + b) / 256 = x by omega, show (x * 256 + b) % 256 = b by omega]
theorem dig_snoc0 (L x : Nat) : dig (L + 1) (x * 256) = dig L x ++ [0] := by
  show dig L (x * 256 / 256) ++ [UInt8.ofNat (x * 256 % 256)] = _
  rw [Nat.mul_div_cancel _ (by decide), Nat.mul_mod_left]
  rfl
theorem dig_zeros (L x : Nat) : ∀ k, dig (L + k) (x * 256 ^ k) = dig L x ++ List.replicate k 0
  | 0 => by simp
  | k + 1 => by
    rw [← Nat.add_assoc, Nat.pow_succ, ← Nat.mul_assoc]
    rw [dig_snoc0, dig_zeros L x k, List.append_assoc, List.replicate_succ']
theorem dig_getD : ∀ (L x j : Nat), j < L → (dig L x).getD j 0 = UInt8.ofNat (x / 256 ^ (L - 1 - j) % 256)
  | 0, _, _, h => by omega
  | L + 1, x, j, h => by
    unfold dig
    by_cases e : j = L
    · subst e
      rw [List.getD_eq_getElem?_getD, List.getElem?_append_right (by simp)]
      simp
    · rw [List.getD_eq_getElem?_getD, List.getElem?_append_left (by simp; omega), ← List.getD_eq_getElem?_getD, dig_getD L (x / 256) j (by omega), Nat.div_div_eq_div_mul, ← Nat.pow_succ', show L + 1 - 1 - j = (L - 1 - j) + 1 by omega]

/-- The first bytes as a number; behind the bytes are zeros. -/
def bv (b : List UInt8) : Nat → Nat
  | 0 => 0
  | j + 1 => bv b j * 256 + (b.getD j 0).toNat
theorem bv_dig {L x : Nat} (h : x < 256 ^ L) : ∀ j, j ≤ L → bv (dig L x) j = x / 256 ^ (L - j)
  | 0, _ => by rw [Nat.sub_zero, Nat.div_eq_of_lt h]; rfl
  | j + 1, hj => by
    unfold bv
    rw [bv_dig h j (by omega), dig_getD L x j (by omega)]
    have e : L - j = (L - (j + 1)) + 1 := by omega
    rw [e, Nat.pow_succ, ← Nat.div_div_eq_div_mul, show L - 1 - j = L - (j + 1) by omega]
    generalize x / 256 ^ (L - (j + 1)) = y
    have : (UInt8.ofNat (y % 256)).toNat = y % 256 := by simp
    rw [this]; omega
theorem bv_lt (b : List UInt8) : ∀ j, bv b j < 256 ^ j
  | 0 => Nat.one_pos
  | j + 1 => by
    unfold bv
    have := bv_lt b j
    have h2 : (b.getD j 0).toNat < 256 := (b.getD j 0).toNat_lt
    rw [Nat.pow_succ]; omega
theorem bv_congr {a b : List UInt8} : ∀ j, (∀ i, i < j → a.getD i 0 = b.getD i 0) → bv a j = bv b j
  | 0, _ => rfl
  | j + 1, h => by unfold bv; rw [bv_congr j (fun i hi => h i (by omega)), h j (by omega)]

/-- How many bytes are left without the zeros at the end. -/
def trimN (bs : List UInt8) : Nat → Nat
  | 0 => 0
  | n + 1 => if bs.getD n 0 = 0 then trimN bs n else n + 1
theorem trimN_zero (bs : List UInt8) : ∀ n i, trimN bs n ≤ i → i < n → bs.getD i 0 = 0
  | 0, _, _, h => by omega
  | n + 1, i, h1, h2 => by
    unfold trimN at h1
    split at h1
    · rename_i h
      by_cases e : i = n
      · rw [e]; exact h
      · exact trimN_zero bs n i h1 (by omega)
    · omega
def trim (bs : List UInt8) : List UInt8 := bs.take (trimN bs bs.length)
theorem trim_getD (bs : List UInt8) (i : Nat) : (trim bs).getD i 0 = bs.getD i 0 := by
  unfold trim
  rw [List.getD_eq_getElem?_getD, List.getElem?_take]
  by_cases h : i < trimN bs bs.length
  · rw [if_pos h, ← List.getD_eq_getElem?_getD]
  · rw [if_neg h]
    by_cases h2 : i < bs.length
    · exact (trimN_zero bs bs.length i (by omega) h2).symm
    · rw [List.getD_eq_getElem?_getD, List.getElem?_eq_none (by omega)]
def codeS (σ : Cs) : List UInt8 := trim (dig (σ.L + 4) σ.V)
theorem bv_code {σ : Cs} (h : CsOk σ) {j : Nat} (hj : j ≤ σ.L + 4) : bv (codeS σ) j = σ.V / 256 ^ (σ.L + 4 - j) := by
  have hr := h.room; have hl := h.lo
  rw [← bv_dig (L := σ.L + 4) (x := σ.V) (by rw [Nat.pow_add, show (256 : Nat) ^ 4 = 4294967296 by decide]; omega) j hj]
  exact bv_congr j fun i _ => trim_getD _ _

/-- Models and a coder. -/
structure Es where
  M : Nat → Nat → Nat
  σ : Cs
def es0 : Es := ⟨fun _ _ => 1, cs0⟩
structure EsOk (n : Nat) (E : Es) : Prop where
  md : ∀ k, MdOk n (E.M k)
  cs : CsOk E.σ
theorem es0_ok {n : Nat} (h : n ≤ 1024) : EsOk n es0 := ⟨fun _ => MdOk.new h, cs0_ok⟩
def symE (n : Nat) (E : Es) (k s : Nat) : Es := ⟨fun j => if j = k then seeM n (E.M k) s else E.M j, stp E.σ (plc (E.M k) s) (E.M k s) (plc (E.M k) n)⟩
theorem EsOk.st {n : Nat} {E : Es} (h : EsOk n E) (k : Nat) {s : Nat} (hs : s < n) : StOk (plc (E.M k) s) (E.M k s) (plc (E.M k) n) :=
  ⟨(h.md k).pos s hs, plc_one hs, (h.md k).sum⟩
theorem EsOk.sym {n : Nat} {E : Es} (h : EsOk n E) (k : Nat) {s : Nat} (hs : s < n) : EsOk n (symE n E k s) := by
  refine ⟨fun j => ?_, stp_ok h.cs (h.st k hs)⟩
  show MdOk n (if j = k then seeM n (E.M k) s else E.M j)
  split
  · exact (h.md k).see hs
  · exact h.md j

/-- The code with which a coder ends lies in the range of an earlier one. -/
structure Lies (σ τ : Cs) : Prop where
  len : σ.L ≤ τ.L
  lo : σ.V * 256 ^ (τ.L - σ.L) ≤ τ.V
  hi : τ.V < (σ.V + σ.W) * 256 ^ (τ.L - σ.L)
theorem Lies.refl {σ : Cs} (h : CsOk σ) : Lies σ σ := ⟨Nat.le_refl _, by simp, by have := h.lo; simp; omega⟩
theorem Lies.step {σ τ : Cs} (h : CsOk σ) {p c t : Nat} (hs : StOk p c t) (hl : Lies (stp σ p c t) τ) :
    Lies σ τ ∧ (σ.V + σ.W / t * p) * 256 ^ (τ.L - σ.L) ≤ τ.V ∧ τ.V < (σ.V + σ.W / t * p + σ.W / t * c) * 256 ^ (τ.L - σ.L) := by
  obtain ⟨d, hd, he, _⟩ := stp_ex h hs
  obtain ⟨_, _, h3, _⟩ := nrw_ok h hs
  have h3 : σ.V + σ.W / t * p + σ.W / t * c ≤ σ.V + σ.W := h3
  obtain ⟨l1, l2, l3⟩ := hl
  rw [he] at l1 l2 l3
  have l1 : σ.L + d ≤ τ.L := l1
  have l2 : (σ.V + σ.W / t * p) * 256 ^ d * 256 ^ (τ.L - (σ.L + d)) ≤ τ.V := l2
  have l3 : τ.V < ((σ.V + σ.W / t * p) * 256 ^ d + σ.W / t * c * 256 ^ d) * 256 ^ (τ.L - (σ.L + d)) := l3
  have e : 256 ^ d * 256 ^ (τ.L - (σ.L + d)) = 256 ^ (τ.L - σ.L) := by rw [← Nat.pow_add]; congr 1; omega
  rw [Nat.mul_assoc, e] at l2
  rw [← Nat.add_mul, Nat.mul_assoc, e] at l3
  refine ⟨⟨by omega, Nat.le_trans (Nat.mul_le_mul_right _ (by omega)) l2, Nat.lt_of_lt_of_le l3 (Nat.mul_le_mul_right _ h3)⟩, l2, l3⟩

/-- How far the code is behind the beginning of the range. -/
def k_lowR (b : List UInt8) (σ : Cs) : Nat := bv b (σ.L + 4) - σ.V
theorem Lies.low {σ τ : Cs} (ht : CsOk τ) (hl : Lies σ τ) : σ.V ≤ bv (codeS τ) (σ.L + 4) ∧ bv (codeS τ) (σ.L + 4) = τ.V / 256 ^ (τ.L - σ.L) := by
  have h1 := hl.len
  rw [bv_code ht (by omega), show τ.L + 4 - (σ.L + 4) = τ.L - σ.L by omega]
  exact ⟨(Nat.le_div_iff_mul_le (Nat.pow_pos (by decide))).2 hl.lo, rfl⟩
/-- A step is read as it was written. -/
theorem Lies.at {σ τ : Cs} (h : CsOk σ) (ht : CsOk τ) {p c t : Nat} (hs : StOk p c t) (hl : Lies (stp σ p c t) τ) :
    p ≤ k_lowR (codeS τ) σ / (σ.W / t) ∧ k_lowR (codeS τ) σ / (σ.W / t) < p + c := by
  obtain ⟨h1, h2, h3⟩ := Lies.step h hs hl
  obtain ⟨h4, h5⟩ := Lies.low ht h1
  obtain ⟨r1, _, _⟩ := nrw_r h (t := t) (by have := hs.c1; have := hs.pc; omega) hs.t1
  have hp : 0 < 256 ^ (τ.L - σ.L) := Nat.pow_pos (by decide)
  have h2 := (Nat.le_div_iff_mul_le hp).2 h2
  have h3 := (Nat.div_lt_iff_lt_mul hp).2 h3
  unfold k_lowR
  rw [h5]
  generalize τ.V / 256 ^ (τ.L - σ.L) = x at *
  constructor
  · rw [Nat.le_div_iff_mul_le (by omega), Nat.mul_comm]; omega
  · rw [Nat.div_lt_iff_lt_mul (by omega), Nat.mul_comm, Nat.mul_add]; omega
end Go.Proofs.Ytgmooalikccbiaa
/- The plain law of the coder, on: what Encode and Decode come to, and that the one undoes the other. -/
namespace Go.Proofs.Ytgmooalikccbiaa
open Go.Fw Go
set_option linter.unusedVariables false
set_option linter.unusedSimpArgs false

def inN (x : Int) (n : Nat) : Prop := 0 ≤ x ∧ x < n
instance (x : Int) (n : Nat) : Decidable (inN x n) := inferInstanceAs (Decidable (_ ∧ _))

/-- After so many symbols. -/
def encSt (n many : Nat) (sy cx : List Int) : Nat → Option Es
  | 0 => some es0
  | i + 1 => match encSt n many sy cx i with
    | none => none
    | some E => if inN (sy.getD i 0) n ∧ inN (cx.getD i 0) many then some (symE n E (cx.getD i 0).toNat (sy.getD i 0).toNat) else none

theorem encSt_ok {n many : Nat} (hn : n ≤ 1024) {sy cx : List Int} : ∀ {i : Nat} {E : Es}, encSt n many sy cx i = some E → EsOk n E
  | 0, E, h => by cases h; exact es0_ok hn
  | i + 1, E, h => by
    unfold encSt at h
    cases hh : encSt n many sy cx i with
    | none => rw [hh] at h; cases h
    | some E' =>
      rw [hh] at h
      have ih := encSt_ok hn hh
      dsimp only at h
      split at h
      · rename_i hc
        cases h
        exact ih.sym _ (by have := hc.1.2; have := hc.1.1; omega)
      · cases h
def SizesP (n many : Int) : Prop := 1 ≤ n ∧ n ≤ 1024 ∧ 1 ≤ many ∧ many ≤ 256
instance (n many : Int) : Decidable (SizesP n many) := inferInstanceAs (Decidable (_ ∧ _))

def encS (n many : Int) (sy cx : List Int) : List UInt8 × Int :=
  if SizesP n many ∧ sy.length = cx.length then
    if sy.length ≤ 65536 then
      match encSt n.toNat many.toNat sy cx sy.length with
      | some E => (codeS E.σ, 0)
      | none => ([], 5)
    else ([], 4)
  else ([], 1)

/-- The symbol at a place among the counts. -/
def fnd (c : Nat → Nat) (x n : Nat) : Nat := ((List.range n).find? fun s => decide (x < plc c (s + 1))).getD 0
theorem fnd_ok {c : Nat → Nat} {x n : Nat} (h : x < plc c n) : fnd c x n < n ∧ plc c (fnd c x n) ≤ x ∧ x < plc c (fnd c x n + 1) := by
  have hn : 0 < n := by
    cases n with
    | zero => simp [plc] at h
    | succ n => omega
  unfold fnd
  cases hf : (List.range n).find? fun s => decide (x < plc c (s + 1)) with
  | none =>
    rw [List.find?_eq_none] at hf
    have := hf (n - 1) (by simp; omega)
    rw [show n - 1 + 1 = n by omega] at this
    simp at this; omega
  | some s =>
    have h1 := List.find?_some hf
    have h2 := List.mem_of_find?_eq_some hf
    simp at h1 h2
    refine ⟨h2, ?_, h1⟩
    show plc c s ≤ x
    by_cases e : s = 0
    · rw [e]; exact Nat.zero_le _
    · rw [List.find?_eq_some_iff_append] at hf
      obtain ⟨_, xs, ys, hab, hlt⟩ := hf
      have hl : xs.length = s := by
        have := congrArg (fun l => l[xs.length]?) hab
        simp at this
        rw [List.getElem?_eq_some_iff] at this
        obtain ⟨hx, hy⟩ := this
        simpa using hy
      have hm : s - 1 ∈ xs := by
        have h3 : (List.range n)[s - 1]? = xs[s - 1]? := by rw [hab, List.getElem?_append_left (by omega)]
        rw [List.getElem?_range (by omega)] at h3
        exact List.mem_of_getElem? h3.symm
      have := hlt (s - 1) hm
      rw [show s - 1 + 1 = s by omega] at this
      simp at this; exact this
theorem fnd_eq {c : Nat → Nat} {x n s : Nat} (hs : s < n) (h1 : plc c s ≤ x) (h2 : x < plc c (s + 1)) : fnd c x n = s := by
  obtain ⟨a, b, d⟩ := fnd_ok (c := c) (x := x) (n := n) (Nat.lt_of_lt_of_le h2 (plc_le (c := c) (a := s + 1) hs))
  generalize fnd c x n = t at *
  by_cases e : t < s
  · have := plc_le (c := c) (a := t + 1) (b := s) e; omega
  · by_cases e2 : s < t
    · have := plc_le (c := c) (a := s + 1) (b := t) e2; omega
    · omega

/-- One symbol is read: none where the code lies in no part of the range. -/
def atR (b : List UInt8) (σ : Cs) (t : Nat) : Nat := k_lowR b σ / (σ.W / t)
def decSym (n : Nat) (b : List UInt8) (E : Es) (k : Nat) : Option (Nat × Es) :=
  if atR b E.σ (plc (E.M k) n) < plc (E.M k) n then
    some (fnd (E.M k) (atR b E.σ (plc (E.M k) n)) n, symE n E k (fnd (E.M k) (atR b E.σ (plc (E.M k) n)) n))
  else none

/-- A reader is well: it is not behind its range. -/
structure RdOk (b : List UInt8) (σ : Cs) : Prop where
  le : σ.V ≤ bv b (σ.L + 4)
  lt : bv b (σ.L + 4) < σ.V + σ.W
theorem rd0_ok (b : List UInt8) : RdOk b cs0 := by
  refine ⟨Nat.zero_le _, ?_⟩
  have := bv_lt b 4
  rw [show (256 : Nat) ^ 4 = 4294967296 by decide] at this
  show bv b 4 < 0 + 4294967296
  omega
theorem bv_more (b : List UInt8) (j : Nat) : ∀ d, bv b j * 256 ^ d ≤ bv b (j + d) ∧ bv b (j + d) < (bv b j + 1) * 256 ^ d
  | 0 => by simp
  | d + 1 => by
    obtain ⟨h1, h2⟩ := bv_more b j d
    have h3 : (b.getD (j + d) 0).toNat < 256 := (b.getD (j + d) 0).toNat_lt
    have e : ∀ x, x * 256 ^ (d + 1) = x * 256 ^ d * 256 := fun x => by rw [Nat.pow_succ, Nat.mul_assoc]
    have e2 : bv b (j + (d + 1)) = bv b (j + d) * 256 + (b.getD (j + d) 0).toNat := rfl
    rw [e, e, e2]
    omega
theorem RdOk.low {b : List UInt8} {σ : Cs} (h : RdOk b σ) : k_lowR b σ < σ.W := by
  have := h.le; have := h.lt
  unfold k_lowR; omega
/-- A step is read, where the code lies in it. -/
theorem RdOk.step {b : List UInt8} {σ : Cs} (h : RdOk b σ) (hc : CsOk σ) {p c t : Nat} (hs : StOk p c t) (h1 : p ≤ atR b σ t) (h2 : atR b σ t < p + c) : RdOk b (stp σ p c t) ∧ σ.W / t * p ≤ k_lowR b σ ∧ k_lowR b σ < σ.W / t * p + σ.W / t * c := by
  obtain ⟨d, hd, he, _⟩ := stp_ex hc hs
  obtain ⟨r1, _, _⟩ := nrw_r hc (t := t) (by have := hs.c1; have := hs.pc; omega) hs.t1
  unfold atR at h1 h2
  rw [Nat.le_div_iff_mul_le (by omega), Nat.mul_comm] at h1
  rw [Nat.div_lt_iff_lt_mul (by omega), Nat.mul_comm, Nat.mul_add] at h2
  refine ⟨?_, h1, h2⟩
  rw [he]
  have hle := h.le
  unfold k_lowR at h1 h2
  have a1 : σ.V + σ.W / t * p ≤ bv b (σ.L + 4) := by omega
  have a2 : bv b (σ.L + 4) + 1 ≤ σ.V + σ.W / t * p + σ.W / t * c := by omega
  obtain ⟨m1, m2⟩ := bv_more b (σ.L + 4) d
  refine ⟨?_, ?_⟩
  · show (σ.V + σ.W / t * p) * 256 ^ d ≤ bv b (σ.L + d + 4)
    rw [show σ.L + d + 4 = σ.L + 4 + d by omega]
    exact Nat.le_trans (Nat.mul_le_mul_right _ a1) m1
  · show bv b (σ.L + d + 4) < (σ.V + σ.W / t * p) * 256 ^ d + σ.W / t * c * 256 ^ d
    rw [show σ.L + d + 4 = σ.L + 4 + d by omega, ← Nat.add_mul]
    exact Nat.lt_of_lt_of_le m2 (Nat.mul_le_mul_right _ a2)
theorem decSym_ok {n : Nat} {b : List UInt8} {E : Es} (h : EsOk n E) (hr : RdOk b E.σ) {k s : Nat} {E' : Es} (hd : decSym n b E k = some (s, E')) : s < n ∧ E' = symE n E k s ∧ RdOk b E'.σ := by
  unfold decSym at hd
  split at hd
  · rename_i hlt
    obtain ⟨f1, f2, f3⟩ := fnd_ok hlt
    have he := Option.some.inj hd
    have e1 := congrArg Prod.fst he
    have e2 := congrArg Prod.snd he
    dsimp only at e1 e2
    rw [e1] at f1 f2 f3 e2
    refine ⟨f1, e2.symm, ?_⟩
    rw [← e2]
    exact (hr.step h.cs (h.st k f1) f2 f3).1
  · cases hd

/-- The contexts that symbols have. -/
def ctxs (ctx : Nat → List Int → Int) (sy : List Int) : List Int := (List.range sy.length).map fun i => ctx i (sy.take i)
@[simp] theorem ctxs_len (ctx : Nat → List Int → Int) (sy : List Int) : (ctxs ctx sy).length = sy.length := by simp [ctxs]
end Go.Proofs.Ytgmooalikccbiaa
/- The plain law of the coder, on: integers. -/
namespace Go.Proofs.Ytgmooalikccbiaa
open Go.Fw Go
set_option linter.unusedVariables false
set_option linter.unusedSimpArgs false

/-- How many binary digits. -/
def lenB (u : Nat) : Nat := if u = 0 then 0 else Nat.log2 u + 1
theorem lenB_le {u : Nat} (h : u < 2 ^ 64) : lenB u ≤ 64 := by
  unfold lenB
  split
  · omega
  · rename_i h0
    have := (Nat.log2_lt h0).2 h
    omega
theorem lenB_lt (u : Nat) : u < 2 ^ lenB u := by
  unfold lenB
  split
  · rename_i h; rw [h]; decide
  · exact Nat.lt_log2_self
theorem lenB_top {u : Nat} (h : u ≠ 0) : 2 ^ (lenB u - 1) ≤ u := by
  unfold lenB
  rw [if_neg h]
  exact Nat.log2_self_le h

/-- The integers folded. -/
def fold (x : Int) : Nat := if 0 ≤ x then (2 * x).toNat else (-2 * x - 1).toNat
def unfold' (u : Nat) : Int := if u % 2 = 0 then ((u / 2 : Nat) : Int) else -((u / 2 : Nat) : Int) - 1
theorem unfold_fold (x : Int) : unfold' (fold x) = x := by
  unfold unfold' fold
  split <;> split <;> omega
theorem fold_unfold (u : Nat) : fold (unfold' u) = u := by
  unfold unfold' fold
  split <;> split <;> omega
theorem fold_lt {x : Int} (h : -9223372036854775808 ≤ x ∧ x ≤ 9223372036854775807) : fold x < 2 ^ 64 := by
  unfold fold
  have : (2 : Nat) ^ 64 = 18446744073709551616 := by decide
  split <;> omega

/-- The digits below the first one, so many of them, written. -/
def bitE (σ : Cs) (u k : Nat) : Cs := stp σ (u / 2 ^ k % 2) 1 2
def bitsE (u : Nat) : Nat → Cs → Cs
  | 0, σ => σ
  | k + 1, σ => bitsE u k (bitE σ u k)
theorem bit_st (u k : Nat) : StOk (u / 2 ^ k % 2) 1 2 := ⟨by omega, by omega, by omega⟩
theorem bitE_ok {σ : Cs} (h : CsOk σ) (u k : Nat) : CsOk (bitE σ u k) := stp_ok h (bit_st u k)
theorem bitsE_ok (u : Nat) : ∀ (k : Nat) {σ : Cs}, CsOk σ → CsOk (bitsE u k σ)
  | 0, _, h => h
  | k + 1, _, h => bitsE_ok u k (bitE_ok h u k)

/-- Models, the coder, and the last class. -/
structure Is where
  E : Es
  b : Nat
def is0 : Is := ⟨es0, 0⟩
structure IsOk (I : Is) : Prop where
  es : EsOk 65 I.E
  b : I.b ≤ 64
theorem is0_ok : IsOk is0 := ⟨es0_ok (by omega), by decide⟩
def intI (I : Is) (u : Nat) : Is :=
  ⟨⟨(symE 65 I.E I.b (lenB u)).M, bitsE u (lenB u - 1) (symE 65 I.E I.b (lenB u)).σ⟩, lenB u⟩
theorem IsOk.step {I : Is} (h : IsOk I) {u : Nat} (hu : u < 2 ^ 64) : IsOk (intI I u) := by
  have hl := lenB_le hu
  have := h.es.sym I.b (s := lenB u) (by omega)
  exact ⟨⟨this.md, bitsE_ok u _ this.cs⟩, hl⟩
def intsI (us : List Nat) (I : Is) : Is := us.foldl intI I
theorem intsI_ok : ∀ {us : List Nat} {I : Is}, (∀ u ∈ us, u < 2 ^ 64) → IsOk I → IsOk (intsI us I)
  | [], _, _, h => h
  | u :: us, I, hu, h => intsI_ok (us := us) (fun v hv => hu v (by simp [hv])) (h.step (hu u (by simp)))
theorem intsI_snoc (us : List Nat) (u : Nat) (I : Is) : intsI (us ++ [u]) I = intI (intsI us I) u := by
  unfold intsI; rw [List.foldl_append]; rfl

def intsS (l : List Int) : List UInt8 × Int :=
  if l.length ≤ 65536 then (codeS (intsI (l.map fold) is0).E.σ, 0) else ([], 4)

/-- One is led to another by steps. -/
inductive Leads : Cs → Cs → Prop
  | refl {σ : Cs} : Leads σ σ
  | step {σ τ : Cs} {p c t : Nat} (h : StOk p c t) (r : Leads (stp σ p c t) τ) : Leads σ τ
theorem Leads.trans {a b c : Cs} (h : Leads a b) (k : Leads b c) : Leads a c := by
  induction h with
  | refl => exact k
  | step h _ ih => exact .step h (ih k)
theorem Leads.lies {σ τ : Cs} (h : Leads σ τ) (hc : CsOk σ) (ht : CsOk τ) : Lies σ τ := by
  induction h with
  | refl => exact Lies.refl hc
  | step h _ ih => exact (Lies.step hc h (ih (stp_ok hc h) ht)).1
theorem bitsE_leads (u : Nat) : ∀ (k : Nat) (σ : Cs), Leads σ (bitsE u k σ)
  | 0, _ => .refl
  | k + 1, σ => .step (bit_st u k) (bitsE_leads u k _)
theorem intI_leads {I : Is} (h : IsOk I) {u : Nat} (hu : u < 2 ^ 64) : Leads I.E.σ (intI I u).E.σ := by
  have hl := lenB_le hu
  exact .step (h.es.st I.b (s := lenB u) (by omega)) (bitsE_leads u _ _)
theorem intsI_leads : ∀ {us : List Nat} {I : Is}, (∀ u ∈ us, u < 2 ^ 64) → IsOk I → Leads I.E.σ (intsI us I).E.σ
  | [], _, _, _ => .refl
  | u :: us, I, hu, h => (intI_leads h (hu u (by simp))).trans (intsI_leads (us := us) (fun v hv => hu v (by simp [hv])) (h.step (hu u (by simp))))

/-- So many digits are read behind a number. -/
def rdBits (b : List UInt8) : Nat → Nat × Cs → Option (Nat × Cs)
  | 0, x => some x
  | k + 1, (u, σ) => if atR b σ 2 < 2 then rdBits b k (u * 2 + atR b σ 2, stp σ (atR b σ 2) 1 2) else none
def rdInt (b : List UInt8) (I : Is) : Option (Nat × Is) :=
  match decSym 65 b I.E I.b with
  | none => none
  | some (s, E) => match rdBits b (s - 1) (min s 1, E.σ) with
    | none => none
    | some (u, σ) => some (u, ⟨⟨E.M, σ⟩, s⟩)
def rdSt (b : List UInt8) : Nat → Option (Is × List Int)
  | 0 => some (is0, [])
  | i + 1 => match rdSt b i with
    | none => none
    | some (I, out) => match rdInt b I with
      | none => none
      | some (u, I') => some (I', out ++ [unfold' u])
def readS (b : List UInt8) (count : Int) : List Int × Int :=
  if 0 ≤ count ∧ count ≤ 65536 then
    match rdSt b count.toNat with
    | none => ([], 2)
    | some (_, out) => if (intsS out).1 = b then (out, 0) else ([], 2)
  else ([], 4)

theorem rdBits_ok {b : List UInt8} : ∀ (k : Nat) {u v : Nat} {σ τ : Cs}, CsOk σ → RdOk b σ → rdBits b k (u, σ) = some (v, τ) →
    CsOk τ ∧ RdOk b τ ∧ v / 2 ^ k = u ∧ τ = bitsE v k σ
  | 0, u, v, σ, τ, hc, hr, h => by
    cases h
    exact ⟨hc, hr, by simp, rfl⟩
  | k + 1, u, v, σ, τ, hc, hr, h => by
    unfold rdBits at h
    split at h
    · rename_i hlt
      have hs : StOk (atR b σ 2) 1 2 := ⟨by omega, by omega, by omega⟩
      obtain ⟨h1, h2, h3, h4⟩ := rdBits_ok k (stp_ok hc hs) (hr.step hc hs (Nat.le_refl _) (by omega)).1 h
      refine ⟨h1, h2, ?_, ?_⟩
      · rw [Nat.pow_succ, ← Nat.div_div_eq_div_mul, h3]; omega
      · rw [h4]
        show bitsE v k _ = bitsE v k (stp σ (v / 2 ^ k % 2) 1 2)
        rw [h3, show (u * 2 + atR b σ 2) % 2 = atR b σ 2 by omega]
    · cases h
theorem lenB_of {u s : Nat} (h : u / 2 ^ (s - 1) = min s 1) : lenB u = s := by
  by_cases e : s = 0
  · subst e
    simp at h
    rw [h]; rfl
  · have hs : min s 1 = 1 := by omega
    rw [hs] at h
    have hp : 0 < 2 ^ (s - 1) := Nat.pow_pos (by decide)
    have h1 : 2 ^ (s - 1) ≤ u := by
      have := Nat.div_mul_le_self u (2 ^ (s - 1))
      rw [h] at this; omega
    have h2 : u < 2 ^ s := by
      have : u < (u / 2 ^ (s - 1) + 1) * 2 ^ (s - 1) := by
        rw [Nat.mul_comm]; exact Nat.lt_mul_div_succ u hp
      rw [h] at this
      rw [show s = (s - 1) + 1 by omega, Nat.pow_succ]; omega
    have h0 : u ≠ 0 := by omega
    unfold lenB
    rw [if_neg h0]
    have a1 := (Nat.le_log2 h0).2 h1
    have a2 := (Nat.log2_lt h0).2 h2
    omega
theorem rdInt_ok {b : List UInt8} {I I' : Is} {u : Nat} (h : IsOk I) (hr : RdOk b I.E.σ) (hd : rdInt b I = some (u, I')) : u < 2 ^ 64 ∧ I' = intI I u ∧ RdOk b I'.E.σ := by
  unfold rdInt at hd
  split at hd
  · cases hd
  · rename_i s E hs
    obtain ⟨h1, h2, h3⟩ := decSym_ok h.es hr hs
    have hE := h.es.sym I.b h1
    rw [← h2] at hE
    split at hd
    · cases hd
    · rename_i v σ hb
      have hd := Option.some.inj hd
      have e1 := congrArg Prod.fst hd
      have e2 := congrArg Prod.snd hd
      dsimp only at e1 e2
      subst e1
      obtain ⟨k1, k2, k3, k4⟩ := rdBits_ok (s - 1) hE.cs h3 hb
      have hl := lenB_of k3
      refine ⟨Nat.lt_of_lt_of_le (lenB_lt v) (by rw [hl]; exact Nat.pow_le_pow_right (by decide) (by omega)), ?_, ?_⟩
      · rw [← e2]
        unfold intI
        rw [hl, ← h2, ← k4]
      · rw [← e2]; exact k2
structure RdsOk (b : List UInt8) (i : Nat) (I : Is) (out : List Int) : Prop where
  is : IsOk I
  rd : RdOk b I.E.σ
  len : out.length = i
  run : intsI (out.map fold) is0 = I
  bd : ∀ x ∈ out, -9223372036854775808 ≤ x ∧ x ≤ 9223372036854775807
theorem unfold_bd {u : Nat} (h : u < 2 ^ 64) : -9223372036854775808 ≤ unfold' u ∧ unfold' u ≤ 9223372036854775807 := by
  have : (2 : Nat) ^ 64 = 18446744073709551616 := by decide
  unfold unfold'
  split <;> omega
theorem rdSt_ok {b : List UInt8} : ∀ {i : Nat} {I : Is} {out : List Int}, rdSt b i = some (I, out) → RdsOk b i I out
  | 0, I, out, h => by
    have h := Option.some.inj h
    have e1 := congrArg Prod.fst h
    have e2 := congrArg Prod.snd h
    dsimp only at e1 e2
    subst e1 e2
    exact ⟨is0_ok, rd0_ok b, rfl, rfl, fun x hx => by cases hx⟩
  | i + 1, I, out, h => by
    unfold rdSt at h
    split at h
    · cases h
    · rename_i I0 out0 h0
      have ih := rdSt_ok h0
      split at h
      · cases h
      · rename_i u I' hu
        obtain ⟨k1, k2, k3⟩ := rdInt_ok ih.is ih.rd hu
        have h := Option.some.inj h
        have e1 := congrArg Prod.fst h
        have e2 := congrArg Prod.snd h
        dsimp only at e1 e2
        subst e1 e2
        have hl := ih.len
        refine ⟨by rw [k2]; exact ih.is.step k1, k3, by simp [hl], ?_, ?_⟩
        · rw [List.map_append, List.map_singleton, intsI_snoc, ih.run, fold_unfold, k2]
        · intro x hx
          rcases List.mem_append.1 hx with h | h
          · exact ih.bd x h
          · have : x = unfold' u := by simpa using h
            rw [this]; exact unfold_bd k1

/-- The digits are read as they were written. -/
theorem rdBits_enc {τ : Cs} (ht : CsOk τ) (u : Nat) : ∀ (k : Nat) (σ : Cs), CsOk σ → Leads (bitsE u k σ) τ → rdBits (codeS τ) k (u / 2 ^ k, σ) = some (u, bitsE u k σ)
  | 0, σ, _, _ => by simp [rdBits, bitsE]
  | k + 1, σ, hc, hl => by
    have hs := bit_st u k
    have hl2 : Leads (stp σ (u / 2 ^ k % 2) 1 2) τ := (bitsE_leads u k _).trans hl
    obtain ⟨a1, a2⟩ := Lies.at hc ht hs (hl2.lies (stp_ok hc hs) ht)
    have hat : atR (codeS τ) σ 2 = u / 2 ^ k % 2 := by unfold atR; omega
    unfold rdBits bitsE bitE
    rw [hat, if_pos (by omega), show u / 2 ^ (k + 1) * 2 + u / 2 ^ k % 2 = u / 2 ^ k by rw [Nat.pow_succ, ← Nat.div_div_eq_div_mul]; omega]
    exact rdBits_enc ht u k _ (stp_ok hc hs) hl
theorem top_bit {u : Nat} : u / 2 ^ (lenB u - 1) = min (lenB u) 1 := by
  by_cases h : u = 0
  · subst h; rfl
  · have h1 := lenB_top h
    have h2 := lenB_lt u
    have h3 : 1 ≤ lenB u := by unfold lenB; rw [if_neg h]; omega
    rw [show lenB u = (lenB u - 1) + 1 by omega, Nat.pow_succ] at h2
    have hp : 0 < 2 ^ (lenB u - 1) := Nat.pow_pos (by decide)
    have a1 : 1 ≤ u / 2 ^ (lenB u - 1) := (Nat.le_div_iff_mul_le hp).2 (by omega)
    have a2 : u / 2 ^ (lenB u - 1) < 2 := (Nat.div_lt_iff_lt_mul hp).2 (by omega)
    omega
theorem rdInt_enc {τ : Cs} (ht : CsOk τ) {I : Is} (h : IsOk I) {u : Nat} (hu : u < 2 ^ 64) (hl : Leads (intI I u).E.σ τ) : rdInt (codeS τ) I = some (u, intI I u) := by
  have hb := lenB_le hu
  have hs := h.es.st I.b (s := lenB u) (by omega)
  have hE := h.es.sym I.b (s := lenB u) (by omega)
  have hl1 : Leads (symE 65 I.E I.b (lenB u)).σ τ := (bitsE_leads u _ _).trans hl
  obtain ⟨a1, a2⟩ := Lies.at h.es.cs ht hs (hl1.lies hE.cs ht)
  have hf : fnd (I.E.M I.b) (atR (codeS τ) I.E.σ (plc (I.E.M I.b) 65)) 65 = lenB u := fnd_eq (by omega) a1 a2
  have hlt : atR (codeS τ) I.E.σ (plc (I.E.M I.b) 65) < plc (I.E.M I.b) 65 := Nat.lt_of_lt_of_le a2 (plc_one (by omega))
  have hd : decSym 65 (codeS τ) I.E I.b = some (lenB u, symE 65 I.E I.b (lenB u)) := by
    unfold decSym
    rw [if_pos hlt, hf]
  unfold rdInt
  rw [hd]
  dsimp only
  rw [← top_bit, rdBits_enc ht u _ _ hE.cs hl]
  rfl
theorem rdSt_enc {us : List Nat} (hus : ∀ u ∈ us, u < 2 ^ 64) : ∀ (i : Nat), i ≤ us.length → rdSt (codeS (intsI us is0).E.σ) i = some (intsI (us.take i) is0, (us.take i).map unfold')
  | 0, _ => rfl
  | i + 1, hi => by
    have hil : i < us.length := by omega
    have ht : IsOk (intsI us is0) := intsI_ok hus is0_ok
    have htk : us.take (i + 1) = us.take i ++ [us[i]] := by rw [List.take_add_one, List.getElem?_eq_getElem hil]; rfl
    have hI : IsOk (intsI (us.take i) is0) := intsI_ok (fun u hu => hus u (List.mem_of_mem_take hu)) is0_ok
    have hI1 : IsOk (intsI (us.take (i + 1)) is0) := intsI_ok (fun u hu => hus u (List.mem_of_mem_take hu)) is0_ok
    have hall : intsI (us.drop (i + 1)) (intsI (us.take (i + 1)) is0) = intsI us is0 := by
      unfold intsI
      rw [← List.foldl_append, List.take_append_drop]
    have hl : Leads (intsI (us.take (i + 1)) is0).E.σ (intsI us is0).E.σ := by
      rw [← hall]
      exact intsI_leads (fun u hu => hus u (List.mem_of_mem_drop hu)) hI1
    rw [htk, intsI_snoc] at hl
    unfold rdSt
    rw [rdSt_enc hus i (by omega)]
    dsimp only
    rw [rdInt_enc ht.es.cs hI (hus _ (List.getElem_mem hil)) hl, htk, intsI_snoc, List.map_append, List.map_singleton]
theorem read_round {l : List Int} (hl : l.length ≤ 65536) (hb : ∀ x ∈ l, -9223372036854775808 ≤ x ∧ x ≤ 9223372036854775807) : readS (intsS l).1 l.length = (l, 0) := by
  have hus : ∀ u ∈ l.map fold, u < 2 ^ 64 := fun u hu => by
    obtain ⟨x, hx, rfl⟩ := List.mem_map.1 hu
    exact fold_lt (hb x hx)
  have h1 : (intsS l).1 = codeS (intsI (l.map fold) is0).E.σ := by unfold intsS; rw [if_pos hl]
  have h2 := rdSt_enc hus l.length (by simp)
  have h3 : ((l.map fold).take l.length).map unfold' = l := by
    rw [List.take_of_length_le (by simp), List.map_map]
    have : (unfold' ∘ fold) = id := by funext x; exact unfold_fold x
    rw [this]; simp
  unfold readS
  rw [if_pos (by omega), Int.toNat_natCast]
  rw [h1, h2]
  dsimp only
  rw [h3, h1, if_pos rfl]
end Go.Proofs.Ytgmooalikccbiaa
/- Plain law: varints, as numbers. -/
namespace Go.Proofs.Ytgmooalikccbiaa
open Go.Fw Go
set_option linter.unusedVariables false
set_option linter.unusedSimpArgs false

/-- Numbers with a sign. -/
def zz (n : Int) : Nat := if n < 0 then (-2 * n - 1).toNat else (2 * n).toNat
theorem ofInt_u64 {x : Int} (h : 0 ≤ x ∧ x < 18446744073709551616) : (BitVec.ofInt 64 x).toNat = x.toNat := by
  rw [BitVec.toNat_ofInt]; omega

theorem wrap_u64' (x : Int) : IntKind.u64.wrap x = x % 18446744073709551616 := rfl

theorem zz_wire {n : Int} (h1 : -9223372036854775808 ≤ n) (h2 : n ≤ 9223372036854775807) :
    bitsA .xor .u64 (IntKind.u64.wrap (IntKind.u64.wrap n * 2 ^ (min 1 64))) (IntKind.u64.wrap (n.fdiv (2 ^ (min 63 64)))) = (zz n : Int) := by
  have e1 : IntKind.u64.wrap (IntKind.u64.wrap n * 2 ^ (min 1 64)) = (2 * n) % 18446744073709551616 := by
    simp only [wrap_u64', show min 1 64 = 1 by decide, Int.pow_one]
    omega
  rw [e1]
  show IntKind.u64.wrap ((BitVec.ofInt 64 _ ^^^ BitVec.ofInt 64 _).toNat : Int) = _
  by_cases hn : n < 0
  · have e2 : IntKind.u64.wrap (n.fdiv (2 ^ (min 63 64))) = 18446744073709551615 := by
      rw [wrap_u64', show min 63 64 = 63 by decide, Int.fdiv_eq_ediv_of_nonneg _ (by decide)]
      have : n / 2 ^ 63 = -1 := by omega
      rw [this]; decide
    rw [e2, show BitVec.ofInt 64 18446744073709551615 = BitVec.allOnes 64 by decide, BitVec.xor_allOnes, BitVec.toNat_not, ofInt_u64 (by omega), wrap_u64']
    unfold zz
    rw [if_pos hn]
    omega
  · have e2 : IntKind.u64.wrap (n.fdiv (2 ^ (min 63 64))) = 0 := by
      rw [wrap_u64', show min 63 64 = 63 by decide, Int.fdiv_eq_ediv_of_nonneg _ (by decide)]
      have : n / 2 ^ 63 = 0 := by omega
      rw [this]; decide
    rw [e2, show BitVec.ofInt 64 0 = 0#64 by decide, BitVec.xor_zero, ofInt_u64 (by omega), wrap_u64']
    unfold zz
    rw [if_neg hn]
    omega
end Go.Proofs.Ytgmooalikccbiaa
/- The walks of the coder's models: fresh ones. -/
namespace Go.Proofs.Ytgmooalikccbiaa
open Go.Fw Go
set_option linter.unusedVariables false
set_option linter.unusedSimpArgs false

set_option maxRecDepth 8000 in
theorem Mul64_c (n : Nat) (h : n ≤ 4294967295) (H : AH) : ACall Try.prog 84 [.int .u64 1, .int .u64 n] H (fun y H' => y = .tup [.int .u64 0, .int .u64 n] ∧ H' = H) := by
  have e0 : (2 : Int) ^ min (Int.toNat 32) IntKind.u64.bits = 4294967296 := by decide
  have e1 : (n : Int).fdiv 4294967296 = 0 := by rw [Int.fdiv_eq_ediv_of_nonneg _ (by omega)]; omega
  have e2 : bitsA .and .u64 (n : Int) 4294967295 = n := by
    show IntKind.u64.wrap ((BitVec.ofInt 64 (n : Int) &&& BitVec.ofInt 64 4294967295).toNat : Int) = _
    have ha : (BitVec.ofInt 64 (n : Int)).toNat = n := by rw [BitVec.toNat_ofInt]; omega
    have hb : (BitVec.ofInt 64 4294967295).toNat = 2 ^ 32 - 1 := by decide
    rw [BitVec.toNat_and, ha, hb, Nat.and_two_pow_sub_one_eq_mod, wrap_u64']
    omega
  have e3 : bitsA .and .u64 1 4294967295 = 1 := by decide
  have e4 : Int.fdiv 1 4294967296 = 0 := by decide
  have e5 : IntKind.u64.wrap (n : Int) = n := by rw [wrap_u64']; omega
  have e6 : bitsA .and .u64 0 4294967295 = 0 := by decide
  have e7 : IntKind.u64.wrap 0 = 0 := by decide
  have e8 : Int.fdiv 0 4294967296 = 0 := by decide
  refine ACall_of tt_ok (dok _) Try.func84 rfl (by decide) rfl ?_
  (repeat' ((conv => whnf); first | refine Then.mk ?_ | left | refine OpsA.cons ?_ | refine OpsA.nil ?_ | refine AWq.seq ?_ | refine AWq.region ?_ | refine AWq.cond ?_ | refine AWq.skip ?_ | refine AWq.ret ?_ | (refine Both.mk ?_ ?_ <;> intro hc <;> (first | exact Bool.noConfusion hc | exact absurd (by with_reducible rfl) hc | exact (hc : False).elim | exact absurd (by assumption) hc | exact absurd hc (by assumption) | (exfalso; omega) | exact absurd hc (by decide) | skip)) | (intro c hc; (try (simp only [AH.none_iff] at hc; repeat (have hn := hc.1; replace hc := hc.2))); (first | (have hc2 := Eq.trans hc (by with_reducible assumption); clear hc; subst hc2) | (refine i64_k hc ?_ ?_ ?_ ; omega; omega; (clear hc; intro hc; subst hc)) | (refine u64_k hc ?_ ?_ ?_ ; omega; omega; (clear hc; intro hc; subst hc)) | (refine u8_k hc ?_ ?_ ?_ ; omega; omega; (clear hc; intro hc; subst hc)) | subst hc | skip)) | (apply Exists.intro; apply And.intro; (focus (repeat (first | assumption | exact AH.set_same _ _ _ | ((first | refine AH.get_ne ?_ ?_ | refine AH.getd_ne ?_ ?_); (first | assumption | omega | exact Ne.symm (by assumption) | exact AH.ne_none (by assumption) (by assumption) | exact AH.none_ne (by assumption) (by assumption) | exact (AH.none_set (by assumption)).1 | exact Ne.symm (AH.none_set (by assumption)).1)))); done)) | (apply Exists.intro; apply And.intro; first | (with_reducible assumption) | ((try simp only [List.getElem?_drop, Nat.mul_one, Nat.add_zero, Nat.zero_add]); first | (with_reducible assumption) | (refine u8s_get ?_; omega) | (refine iS_get ?_; omega) | assumption | rfl)) | (apply And.intro; (first | rfl | (with_reducible assumption) | exact Nat.le_of_ble_eq_true rfl | omega | (exact Int.ofNat_lt.2 (Nat.lt_of_lt_of_eq (by with_reducible assumption) (by decide +kernel))) | assumption | (simp <;> fail) | (simp <;> omega) | (focus (repeat' (first | exact one_u8s _ | exact one_iS _ _ | rfl | apply one_take | apply one_drop | apply one_append)); done))))) <;> (try (conv => whnf))
  refine ⟨?_, rfl⟩
  simp only [e0, e1, e2, e3, e4, e5, e6, e7, e8, Int.zero_mul, Int.one_mul, Int.mul_zero, Int.add_zero]
set_option maxRecDepth 8000 in
theorem Mul_c (n : Nat) (h : n ≤ 4294967295) (H : AH) : ACall Try.prog 79 [.int .u64 1, .int .u64 n] H (fun y H' => y = .tup [.int .u64 0, .int .u64 n] ∧ H' = H) := by
  have hm := fun H => Mul64_c n h H
  refine ACall_of tt_ok (dok _) Try.func79 rfl (by decide) rfl ?_
  (repeat' ((conv => whnf); first | refine Then.mk ?_ | left | refine OpsA.cons ?_ | refine OpsA.nil ?_ | refine AWq.seq ?_ | refine AWq.region ?_ | refine AWq.cond ?_ | refine AWq.skip ?_ | refine AWq.ret ?_ | (refine ACall.to (hm _) ?_) | (refine Both.mk ?_ ?_ <;> intro hc <;> (first | exact Bool.noConfusion hc | exact absurd (by with_reducible rfl) hc | exact (hc : False).elim | exact absurd (by assumption) hc | exact absurd hc (by assumption) | (exfalso; omega) | exact absurd hc (by decide) | skip)) | (intro c hc; (try (simp only [AH.none_iff] at hc; repeat (have hn := hc.1; replace hc := hc.2))); (first | (have hc2 := Eq.trans hc (by with_reducible assumption); clear hc; subst hc2) | (refine i64_k hc ?_ ?_ ?_ ; omega; omega; (clear hc; intro hc; subst hc)) | (refine u64_k hc ?_ ?_ ?_ ; omega; omega; (clear hc; intro hc; subst hc)) | (refine u8_k hc ?_ ?_ ?_ ; omega; omega; (clear hc; intro hc; subst hc)) | subst hc | skip)) | (apply Exists.intro; apply And.intro; (focus (repeat (first | assumption | exact AH.set_same _ _ _ | ((first | refine AH.get_ne ?_ ?_ | refine AH.getd_ne ?_ ?_); (first | assumption | omega | exact Ne.symm (by assumption) | exact AH.ne_none (by assumption) (by assumption) | exact AH.none_ne (by assumption) (by assumption) | exact (AH.none_set (by assumption)).1 | exact Ne.symm (AH.none_set (by assumption)).1)))); done)) | (apply Exists.intro; apply And.intro; first | (with_reducible assumption) | ((try simp only [List.getElem?_drop, Nat.mul_one, Nat.add_zero, Nat.zero_add]); first | (with_reducible assumption) | (refine u8s_get ?_; omega) | (refine iS_get ?_; omega) | assumption | rfl)) | (apply And.intro; (first | rfl | (with_reducible assumption) | exact Nat.le_of_ble_eq_true rfl | omega | (exact Int.ofNat_lt.2 (Nat.lt_of_lt_of_eq (by with_reducible assumption) (by decide +kernel))) | assumption | (simp <;> fail) | (simp <;> omega) | (focus (repeat' (first | exact one_u8s _ | exact one_iS _ _ | rfl | apply one_take | apply one_drop | apply one_append)); done))))) <;> (try (conv => whnf))

theorem iL_take {n m : Nat} (X : Ln) (h : m ≤ n) : (iL n X).take m = iL m X := by
  apply List.ext_getElem?
  intro i
  rw [List.getElem?_take]
  by_cases hi : i < m
  · rw [if_pos hi, iL_get X (by omega), iL_get X hi]
  · rw [if_neg hi, List.getElem?_eq_none (by rw [iL_len]; omega)]
theorem iL_drop {n m : Nat} (X : Ln) : (iL n X).drop m = iL (n - m) (fun k => X (m + k)) := by
  apply List.ext_getElem?
  intro i
  rw [List.getElem?_drop]
  by_cases hi : m + i < n
  · rw [iL_get X hi, iL_get _ (by omega)]
  · rw [List.getElem?_eq_none (by rw [iL_len]; omega), List.getElem?_eq_none (by rw [iL_len]; omega)]
theorem k_iL_app {n m : Nat} (X Y : Ln) : iL n X ++ iL m Y = iL (n + m) (fun k => if k < n then X k else Y (k - n)) := by
  apply List.ext_getElem?
  intro i
  by_cases hi : i < n
  · rw [List.getElem?_append_left (by rw [iL_len]; exact hi), iL_get _ hi, iL_get _ (by omega), if_pos hi]
  · rw [List.getElem?_append_right (by rw [iL_len]; omega), iL_len]
    by_cases h2 : i < n + m
    · rw [iL_get _ (by omega), iL_get _ h2, if_neg hi]
    · rw [List.getElem?_eq_none (by rw [iL_len]; omega), List.getElem?_eq_none (by rw [iL_len]; omega)]
theorem iL_wrs {n m c : Nat} (X Y : Ln) (h : c + m ≤ n) : wrA (iL n X) c (iL m Y) = iL n (fun k => if c ≤ k ∧ k < c + m then Y (k - c) else X k) := by
  unfold wrA
  rw [iL_take X (by omega), iL_len, iL_drop, k_iL_app, k_iL_app, show c + m + (n - (c + m)) = n by omega]
  refine iL_congr fun k hk => ?_
  by_cases h1 : k < c
  · rw [if_pos (by omega), if_pos h1, if_neg (by omega)]
  · by_cases h2 : k < c + m
    · rw [if_pos h2, if_neg h1, if_pos (by omega)]
    · rw [if_neg h2, if_neg (by omega)]
      congr 1; omega

set_option maxRecDepth 8000 in
theorem Repeat_c (n : Nat) (h1 : 1 ≤ n) (h2 : n ≤ 1000000) (H : AH) :
    ACall Try.prog 72 [.cs (iS .i64 [1]) 1, .int .i64 n] H (fun y H' => ∃ q, H q = none ∧ y = .sl q 0 1 0 n none ∧ H' = H.set q (.row (iL n fun _ => 1) 0)) := by
  have hm := fun H => Mul_c n (by omega) H
  refine ACall_of tt_ok (dok _) Try.func72 rfl (by decide) rfl ?_
  (repeat' ((conv => whnf); first | refine Then.mk ?_ | left | refine OpsA.cons ?_ | refine OpsA.nil ?_ | refine AWq.seq ?_ | refine AWq.region ?_ | refine AWq.cond ?_ | refine AWq.block ?_ | refine AWq.skip ?_ | refine AWq.ret ?_ | refine AWq.exit ?_ | refine AWq.loop ?_ | refine DrawA.consD ?_ | refine DrawA.nil ?_ | refine DrawF.consD ?_ | refine DrawF.nil ?_ | refine AWq.draw (by decide +kernel) ?_ | (refine ACall.to (hm _) ?_) | (apply Exists.intro; apply And.intro; exact hm _) | (apply Exists.intro; apply Exists.intro; apply And.intro; exact hm _) | (refine Both.mk ?_ ?_ <;> intro hc <;> (first | exact Bool.noConfusion hc | exact absurd (by with_reducible rfl) hc | exact (hc : False).elim | exact absurd (by assumption) hc | exact absurd hc (by assumption) | (exfalso; omega) | exact absurd hc (by decide) | skip)) | (intro c hc; (try (simp only [AH.none_iff] at hc; repeat (have hn := hc.1; replace hc := hc.2))); (first | (have hc2 := Eq.trans hc (by with_reducible assumption); clear hc; subst hc2) | (refine i64_k hc ?_ ?_ ?_ ; omega; omega; (clear hc; intro hc; subst hc)) | (refine u64_k hc ?_ ?_ ?_ ; omega; omega; (clear hc; intro hc; subst hc)) | (refine u8_k hc ?_ ?_ ?_ ; omega; omega; (clear hc; intro hc; subst hc)) | subst hc | skip)) | (apply Exists.intro; apply And.intro; (focus (repeat (first | assumption | exact AH.set_same _ _ _ | ((first | refine AH.get_ne ?_ ?_ | refine AH.getd_ne ?_ ?_); (first | assumption | omega | exact Ne.symm (by assumption) | exact AH.ne_none (by assumption) (by assumption) | exact AH.none_ne (by assumption) (by assumption) | exact (AH.none_set (by assumption)).1 | exact Ne.symm (AH.none_set (by assumption)).1)))); done)) | (apply Exists.intro; apply And.intro; first | (with_reducible assumption) | ((try simp only [List.getElem?_drop, Nat.mul_one, Nat.add_zero, Nat.zero_add]); first | (with_reducible assumption) | (refine u8s_get ?_; omega) | (refine iS_get ?_; omega) | assumption | rfl)) | (apply And.intro; (first | rfl | (with_reducible assumption) | exact Nat.le_of_ble_eq_true rfl | omega | (exact Int.ofNat_lt.2 (Nat.lt_of_lt_of_eq (by with_reducible assumption) (by decide +kernel))) | assumption | (simp <;> fail) | (simp <;> omega) | (focus (repeat' (first | exact one_u8s _ | exact one_iS _ _ | rfl | apply one_take | apply one_drop | apply one_append)); done))))) <;> (try (conv => whnf))
  rename_i c hc
  refine AWp_loop (σ := Nat) (8 :: 34 :: 35 :: 36 :: 37 :: 38 :: 39 :: 40 :: 41 :: 42 :: 43 :: 44 :: 45 :: 46 :: []) (fun m => [(8, .int .i64 m)]) (fun m => AH.set H c (.row (iL n fun k => if k < m then 1 else 0) 0)) (fun m => 1 ≤ m ∧ m ≤ n) (fun m => n - m) 1 rfl ?_ ?_ ?_ ?_
  · exact ⟨Nat.le_refl _, h1⟩
  · refine ⟨?_, trivial⟩
    have : Nat.min 1 n = 1 := Nat.min_eq_left h1
    show AV.int .i64 (Nat.min 1 n : Nat) = _
    rw [this]
  · refine HLe.of_eq (Eq.symm ((AH.set_set _ _ _ _).trans (congrArg (fun l => AH.set H c (.row l 0)) ?_)))
    show wrA ((List.replicate n [AV.int .i64 0]).flatten) 0 (List.take (Nat.min 1 n * 1) (iL 1 fun _ => 1)) = _
    rw [show Nat.min 1 n = 1 from Nat.min_eq_left h1, iL_zero, iL_take _ (by omega), iL_wrs _ _ (by omega)]
    refine iL_congr fun k hk => ?_
    by_cases h : k < 1 <;> simp [h]
  · rintro m ⟨hm1, hm2⟩
    refine AWp.of tt_ok (dok _) rfl ?_
    have li := iL_len n (fun k => if k < m then 1 else 0)
    by_cases hmn : m < n
    · (repeat' ((conv => whnf); first | refine AWq.drawM ([45], []) (by decide +kernel) ?_ | refine Then.mk ?_ | left | refine OpsA.cons ?_ | refine OpsA.nil ?_ | refine AWq.seq ?_ | refine AWq.region ?_ | refine AWq.cond ?_ | refine AWq.block ?_ | refine AWq.skip ?_ | refine AWq.ret ?_ | refine AWq.exit ?_ | refine AWq.loop ?_ | refine DrawA.consD ?_ | refine DrawA.nil ?_ | refine DrawF.consD ?_ | refine DrawF.nil ?_ | refine AWq.draw (by decide +kernel) ?_ | (refine ACall.to (hm _) ?_) | (apply Exists.intro; apply And.intro; exact hm _) | (apply Exists.intro; apply Exists.intro; apply And.intro; exact hm _) | (refine Both.mk ?_ ?_ <;> intro hc <;> (first | exact Bool.noConfusion hc | exact absurd (by with_reducible rfl) hc | exact (hc : False).elim | exact absurd (by assumption) hc | exact absurd hc (by assumption) | (exfalso; omega) | exact absurd hc (by decide) | skip)) | (intro c hc; (try (simp only [AH.none_iff] at hc; repeat (have hn := hc.1; replace hc := hc.2))); (first | (have hc2 := Eq.trans hc (by with_reducible assumption); clear hc; subst hc2) | (refine i64_k hc ?_ ?_ ?_ ; omega; omega; (clear hc; intro hc; subst hc)) | (refine u64_k hc ?_ ?_ ?_ ; omega; omega; (clear hc; intro hc; subst hc)) | (refine u8_k hc ?_ ?_ ?_ ; omega; omega; (clear hc; intro hc; subst hc)) | subst hc | skip)) | (apply Exists.intro; apply And.intro; (focus (repeat (first | assumption | exact AH.set_same _ _ _ | ((first | refine AH.get_ne ?_ ?_ | refine AH.getd_ne ?_ ?_); (first | assumption | omega | exact Ne.symm (by assumption) | exact AH.ne_none (by assumption) (by assumption) | exact AH.none_ne (by assumption) (by assumption) | exact (AH.none_set (by assumption)).1 | exact Ne.symm (AH.none_set (by assumption)).1)))); done)) | (apply Exists.intro; apply And.intro; first | (with_reducible assumption) | ((try simp only [List.getElem?_drop, Nat.mul_one, Nat.add_zero, Nat.zero_add]); first | (with_reducible assumption) | (refine u8s_get ?_; omega) | (refine iS_get ?_; omega) | assumption | rfl)) | (apply And.intro; (first | rfl | (with_reducible assumption) | exact Nat.le_of_ble_eq_true rfl | omega | (exact Int.ofNat_lt.2 (Nat.lt_of_lt_of_eq (by with_reducible assumption) (by decide +kernel))) | assumption | (simp <;> fail) | (simp <;> omega) | (focus (repeat' (first | exact one_u8s _ | exact one_iS _ _ | rfl | apply one_take | apply one_drop | apply one_append)); done))))) <;> (try (conv => whnf))
      refine ⟨.int .i64 (min m (n - m) : Nat), AH.set H c (.row (iL n fun k => if k < m + min m (n - m) then 1 else 0) 0), ?_, ?_⟩
      · (repeat' ((conv => whnf); first | refine Then.mk ?_ | left | refine OpsA.cons ?_ | refine OpsA.nil ?_ | refine AWq.seq ?_ | refine AWq.region ?_ | refine AWq.cond ?_ | refine AWq.block ?_ | refine AWq.skip ?_ | refine AWq.ret ?_ | refine AWq.exit ?_ | refine AWq.loop ?_ | refine DrawA.consD ?_ | refine DrawA.nil ?_ | refine DrawF.consD ?_ | refine DrawF.nil ?_ | refine AWq.draw (by decide +kernel) ?_ | (refine Both.mk ?_ ?_ <;> intro hc <;> (first | exact Bool.noConfusion hc | exact absurd (by with_reducible rfl) hc | exact (hc : False).elim | exact absurd (by assumption) hc | exact absurd hc (by assumption) | (exfalso; omega) | exact absurd hc (by decide) | skip)) | (intro c hc; (try (simp only [AH.none_iff] at hc; repeat (have hn := hc.1; replace hc := hc.2))); (first | (have hc2 := Eq.trans hc (by with_reducible assumption); clear hc; subst hc2) | (refine i64_k hc ?_ ?_ ?_ ; omega; omega; (clear hc; intro hc; subst hc)) | (refine u64_k hc ?_ ?_ ?_ ; omega; omega; (clear hc; intro hc; subst hc)) | (refine u8_k hc ?_ ?_ ?_ ; omega; omega; (clear hc; intro hc; subst hc)) | subst hc | skip)) | (apply Exists.intro; apply And.intro; (focus (repeat (first | assumption | exact AH.set_same _ _ _ | ((first | refine AH.get_ne ?_ ?_ | refine AH.getd_ne ?_ ?_); (first | assumption | omega | exact Ne.symm (by assumption) | exact AH.ne_none (by assumption) (by assumption) | exact AH.none_ne (by assumption) (by assumption) | exact (AH.none_set (by assumption)).1 | exact Ne.symm (AH.none_set (by assumption)).1)))); done)) | (apply Exists.intro; apply And.intro; first | (with_reducible assumption) | ((try simp only [List.getElem?_drop, Nat.mul_one, Nat.add_zero, Nat.zero_add]); first | (with_reducible assumption) | (refine u8s_get ?_; omega) | (refine iS_get ?_; omega) | assumption | rfl)) | (apply And.intro; (first | rfl | (with_reducible assumption) | exact Nat.le_of_ble_eq_true rfl | omega | (exact Int.ofNat_lt.2 (Nat.lt_of_lt_of_eq (by with_reducible assumption) (by decide +kernel))) | assumption | (simp <;> fail) | (simp <;> omega) | (focus (repeat' (first | exact one_u8s _ | exact one_iS _ _ | rfl | apply one_take | apply one_drop | apply one_append)); done))))) <;> (try (conv => whnf))
        refine (AH.set_set _ _ _ _).trans (congrArg (fun l => AH.set H c (.row l 0)) ?_)
        have e1 : Nat.min m (n - m) = min m (n - m) := rfl
        rw [Int.toNat_natCast, Int.toNat_natCast, e1, List.drop_zero, Nat.mul_one, Nat.mul_one, iL_take _ hm2, iL_take _ (by omega), Nat.zero_add, iL_wrs _ _ (by omega)]
        refine iL_congr fun k hk => ?_
        split <;> split <;> first | rfl | omega | (split <;> first | rfl | omega)
      · (repeat' ((conv => whnf); first | refine Then.mk ?_ | left | refine OpsA.cons ?_ | refine OpsA.nil ?_ | refine AWq.seq ?_ | refine AWq.region ?_ | refine AWq.cond ?_ | refine AWq.block ?_ | refine AWq.skip ?_ | refine AWq.ret ?_ | refine AWq.exit ?_ | refine AWq.loop ?_ | refine DrawA.consD ?_ | refine DrawA.nil ?_ | refine DrawF.consD ?_ | refine DrawF.nil ?_ | refine AWq.draw (by decide +kernel) ?_ | (refine Both.mk ?_ ?_ <;> intro hc <;> (first | exact Bool.noConfusion hc | exact absurd (by with_reducible rfl) hc | exact (hc : False).elim | exact absurd (by assumption) hc | exact absurd hc (by assumption) | (exfalso; omega) | exact absurd hc (by decide) | skip)) | (intro c hc; (try (simp only [AH.none_iff] at hc; repeat (have hn := hc.1; replace hc := hc.2))); (first | (have hc2 := Eq.trans hc (by with_reducible assumption); clear hc; subst hc2) | (refine i64_k hc ?_ ?_ ?_ ; omega; omega; (clear hc; intro hc; subst hc)) | (refine u64_k hc ?_ ?_ ?_ ; omega; omega; (clear hc; intro hc; subst hc)) | (refine u8_k hc ?_ ?_ ?_ ; omega; omega; (clear hc; intro hc; subst hc)) | subst hc | skip)) | (apply Exists.intro; apply And.intro; (focus (repeat (first | assumption | exact AH.set_same _ _ _ | ((first | refine AH.get_ne ?_ ?_ | refine AH.getd_ne ?_ ?_); (first | assumption | omega | exact Ne.symm (by assumption) | exact AH.ne_none (by assumption) (by assumption) | exact AH.none_ne (by assumption) (by assumption) | exact (AH.none_set (by assumption)).1 | exact Ne.symm (AH.none_set (by assumption)).1)))); done)) | (apply Exists.intro; apply And.intro; first | (with_reducible assumption) | ((try simp only [List.getElem?_drop, Nat.mul_one, Nat.add_zero, Nat.zero_add]); first | (with_reducible assumption) | (refine u8s_get ?_; omega) | (refine iS_get ?_; omega) | assumption | rfl)) | (apply And.intro; (first | rfl | (with_reducible assumption) | exact Nat.le_of_ble_eq_true rfl | omega | (exact Int.ofNat_lt.2 (Nat.lt_of_lt_of_eq (by with_reducible assumption) (by decide +kernel))) | assumption | (simp <;> fail) | (simp <;> omega) | (focus (repeat' (first | exact one_u8s _ | exact one_iS _ _ | rfl | apply one_take | apply one_drop | apply one_append)); done))))) <;> (try (conv => whnf))
        exact ⟨m + min m (n - m), by omega, by omega, ⟨congrArg (AV.int .i64) (by omega), trivial⟩, HLe.refl _⟩
    · have hme : m = n := by omega
      (repeat' ((conv => whnf); first | refine Then.mk ?_ | left | refine OpsA.cons ?_ | refine OpsA.nil ?_ | refine AWq.seq ?_ | refine AWq.region ?_ | refine AWq.cond ?_ | refine AWq.block ?_ | refine AWq.skip ?_ | refine AWq.ret ?_ | refine AWq.exit ?_ | refine AWq.loop ?_ | refine DrawA.consD ?_ | refine DrawA.nil ?_ | refine DrawF.consD ?_ | refine DrawF.nil ?_ | refine AWq.draw (by decide +kernel) ?_ | (refine Both.mk ?_ ?_ <;> intro hc <;> (first | exact Bool.noConfusion hc | exact absurd (by with_reducible rfl) hc | exact (hc : False).elim | exact absurd (by assumption) hc | exact absurd hc (by assumption) | (exfalso; omega) | exact absurd hc (by decide) | skip)) | (intro c hc; (try (simp only [AH.none_iff] at hc; repeat (have hn := hc.1; replace hc := hc.2))); (first | (have hc2 := Eq.trans hc (by with_reducible assumption); clear hc; subst hc2) | (refine i64_k hc ?_ ?_ ?_ ; omega; omega; (clear hc; intro hc; subst hc)) | (refine u64_k hc ?_ ?_ ?_ ; omega; omega; (clear hc; intro hc; subst hc)) | (refine u8_k hc ?_ ?_ ?_ ; omega; omega; (clear hc; intro hc; subst hc)) | subst hc | skip)) | (apply Exists.intro; apply And.intro; (focus (repeat (first | assumption | exact AH.set_same _ _ _ | ((first | refine AH.get_ne ?_ ?_ | refine AH.getd_ne ?_ ?_); (first | assumption | omega | exact Ne.symm (by assumption) | exact AH.ne_none (by assumption) (by assumption) | exact AH.none_ne (by assumption) (by assumption) | exact (AH.none_set (by assumption)).1 | exact Ne.symm (AH.none_set (by assumption)).1)))); done)) | (apply Exists.intro; apply And.intro; first | (with_reducible assumption) | ((try simp only [List.getElem?_drop, Nat.mul_one, Nat.add_zero, Nat.zero_add]); first | (with_reducible assumption) | (refine u8s_get ?_; omega) | (refine iS_get ?_; omega) | assumption | rfl)) | (apply And.intro; (first | rfl | (with_reducible assumption) | exact Nat.le_of_ble_eq_true rfl | omega | (exact Int.ofNat_lt.2 (Nat.lt_of_lt_of_eq (by with_reducible assumption) (by decide +kernel))) | assumption | (simp <;> fail) | (simp <;> omega) | (focus (repeat' (first | exact one_u8s _ | exact one_iS _ _ | rfl | apply one_take | apply one_drop | apply one_append)); done))))) <;> (try (conv => whnf))
      exact congrArg (fun l => AH.set H c (.row l 0)) (iL_congr fun k hk => by rw [if_pos (by omega)])

/-- A model: its two cells, and the row of its counts. -/
def mdH (H : AH) (p q n : Nat) (c : Nat → Nat) : AH := (H.set q (.row (iL n fun k => (c k : Int)) 0)).set p (.row [.sl q 0 1 0 n none, .int .i64 (plc c n : Nat)] 0)

set_option maxRecDepth 8000 in
theorem fresh_c (n : Nat) (h1 : 1 ≤ n) (h2 : n ≤ 1000000) (H : AH) :
    ACall Try.prog 59 [.int .i64 n] H (fun y H' => ∃ p q, H p = none ∧ H q = none ∧ p ≠ q ∧ y = .ptr p 0 0 ∧ H' = mdH H p q n fun _ => 1) := by
  refine ACall_of tt_ok (dok _) Try.func59 rfl (by decide) rfl ?_
  (repeat' ((conv => whnf); first | refine Then.mk ?_ | left | refine OpsA.cons ?_ | refine OpsA.nil ?_ | refine AWq.seq ?_ | refine AWq.region ?_ | refine AWq.cond ?_ | refine AWq.skip ?_ | refine AWq.ret ?_ | (refine Both.mk ?_ ?_ <;> intro hc <;> (first | exact Bool.noConfusion hc | exact absurd (by with_reducible rfl) hc | exact (hc : False).elim | exact absurd (by assumption) hc | exact absurd hc (by assumption) | (exfalso; omega) | exact absurd hc (by decide) | skip)) | (intro c hc; (try (simp only [AH.none_iff] at hc; repeat (have hn := hc.1; replace hc := hc.2))); (first | (have hc2 := Eq.trans hc (by with_reducible assumption); clear hc; subst hc2) | (refine i64_k hc ?_ ?_ ?_ ; omega; omega; (clear hc; intro hc; subst hc)) | (refine u64_k hc ?_ ?_ ?_ ; omega; omega; (clear hc; intro hc; subst hc)) | (refine u8_k hc ?_ ?_ ?_ ; omega; omega; (clear hc; intro hc; subst hc)) | subst hc | skip)) | (apply Exists.intro; apply And.intro; (focus (repeat (first | assumption | exact AH.set_same _ _ _ | ((first | refine AH.get_ne ?_ ?_ | refine AH.getd_ne ?_ ?_); (first | assumption | omega | exact Ne.symm (by assumption) | exact AH.ne_none (by assumption) (by assumption) | exact AH.none_ne (by assumption) (by assumption) | exact (AH.none_set (by assumption)).1 | exact Ne.symm (AH.none_set (by assumption)).1)))); done)) | (apply Exists.intro; apply And.intro; first | (with_reducible assumption) | ((try simp only [List.getElem?_drop, Nat.mul_one, Nat.add_zero, Nat.zero_add]); first | (with_reducible assumption) | (refine u8s_get ?_; omega) | (refine iS_get ?_; omega) | assumption | rfl)) | (apply And.intro; (first | rfl | (with_reducible assumption) | exact Nat.le_of_ble_eq_true rfl | omega | (exact Int.ofNat_lt.2 (Nat.lt_of_lt_of_eq (by with_reducible assumption) (by decide +kernel))) | assumption | (simp <;> fail) | (simp <;> omega) | (focus (repeat' (first | exact one_u8s _ | exact one_iS _ _ | rfl | apply one_take | apply one_drop | apply one_append)); done))))) <;> (try (conv => whnf))
  refine (Repeat_c n h1 h2 _).mono ?_
  rintro y H' ⟨q, hq, rfl, rfl⟩
  (repeat' ((conv => whnf); first | refine Then.mk ?_ | left | refine OpsA.cons ?_ | refine OpsA.nil ?_ | refine AWq.seq ?_ | refine AWq.region ?_ | refine AWq.cond ?_ | refine AWq.skip ?_ | refine AWq.ret ?_ | (refine Both.mk ?_ ?_ <;> intro hc <;> (first | exact Bool.noConfusion hc | exact absurd (by with_reducible rfl) hc | exact (hc : False).elim | exact absurd (by assumption) hc | exact absurd hc (by assumption) | (exfalso; omega) | exact absurd hc (by decide) | skip)) | (intro c hc; (try (simp only [AH.none_iff] at hc; repeat (have hn := hc.1; replace hc := hc.2))); (first | (have hc2 := Eq.trans hc (by with_reducible assumption); clear hc; subst hc2) | (refine i64_k hc ?_ ?_ ?_ ; omega; omega; (clear hc; intro hc; subst hc)) | (refine u64_k hc ?_ ?_ ?_ ; omega; omega; (clear hc; intro hc; subst hc)) | (refine u8_k hc ?_ ?_ ?_ ; omega; omega; (clear hc; intro hc; subst hc)) | subst hc | skip)) | (apply Exists.intro; apply And.intro; (focus (repeat (first | assumption | exact AH.set_same _ _ _ | ((first | refine AH.get_ne ?_ ?_ | refine AH.getd_ne ?_ ?_); (first | assumption | omega | exact Ne.symm (by assumption) | exact AH.ne_none (by assumption) (by assumption) | exact AH.none_ne (by assumption) (by assumption) | exact (AH.none_set (by assumption)).1 | exact Ne.symm (AH.none_set (by assumption)).1)))); done)) | (apply Exists.intro; apply And.intro; first | (with_reducible assumption) | ((try simp only [List.getElem?_drop, Nat.mul_one, Nat.add_zero, Nat.zero_add]); first | (with_reducible assumption) | (refine u8s_get ?_; omega) | (refine iS_get ?_; omega) | assumption | rfl)) | (apply And.intro; (first | rfl | (with_reducible assumption) | exact Nat.le_of_ble_eq_true rfl | omega | (exact Int.ofNat_lt.2 (Nat.lt_of_lt_of_eq (by with_reducible assumption) (by decide +kernel))) | assumption | (simp <;> fail) | (simp <;> omega) | (focus (repeat' (first | exact one_u8s _ | exact one_iS _ _ | rfl | apply one_take | apply one_drop | apply one_append)); done))))) <;> (try (conv => whnf))
  refine ⟨c, q, hc, hq, hn, rfl, ?_⟩
  unfold mdH
  rw [plc_ones]
  rfl
end Go.Proofs.Ytgmooalikccbiaa
/- The walks of the coder's models: places, and what is seen. -/
namespace Go.Proofs.Ytgmooalikccbiaa
open Go.Fw Go
set_option linter.unusedVariables false
set_option linter.unusedSimpArgs false

/-- Here stands a model. -/
structure MdAt (H : AH) (p q n : Nat) (c : Nat → Nat) : Prop where
  hp : H p = some (.row [.sl q 0 1 0 n none, .int .i64 (plc c n : Nat)] 0)
  hq : H q = some (.row (iL n fun k => (c k : Int)) 0)
  ne : p ≠ q
  ok : MdOk n c
theorem MdAt.set {H : AH} {p q n : Nat} {c d : Nat → Nat} (h : p ≠ q) (hd : MdOk n d) : MdAt (mdH H p q n d) p q n d := by
  refine ⟨AH.set_same _ _ _, ?_, h, hd⟩
  unfold mdH
  rw [AH.set_ne _ _ (Ne.symm h), AH.set_same]
theorem iL_gi {n i : Nat} (X : Ln) (h : i < n) : (iL n X)[(i : Int).toNat]? = some (.int .i64 (X i)) := iL_get X h

set_option maxRecDepth 8000 in
theorem place_c {H : AH} {p q n : Nat} {c : Nat → Nat} (h : MdAt H p q n c) (s : Nat) (hs : s ≤ n) :
    ACall Try.prog 62 [.ptr p 0 0, .int .i64 s] H (fun y H' => y = .int .i64 (plc c s : Nat) ∧ H' = H) := by
  obtain ⟨hp, hq, hne, hok⟩ := h
  have hn := hok.hn
  obtain ⟨T, hT⟩ : ∃ T : Nat, T = plc c n := ⟨_, rfl⟩
  have hTb : T ≤ 32768 := by rw [hT]; exact hok.sum
  rw [← hT] at hp
  have hcell := fun i (hi : i < n) => iL_gi (fun k => (c k : Int)) hi
  have hlen : (iL n fun k => (c k : Int)).length = n := iL_len _ _
  generalize (iL n fun k => (c k : Int)) = cells at *
  refine ACall_of tt_ok (dok _) Try.func62 rfl (by decide) rfl ?_
  (repeat' ((conv => whnf); first | refine Then.mk ?_ | left | refine OpsA.cons ?_ | refine OpsA.nil ?_ | refine AWq.seq ?_ | refine AWq.region ?_ | refine AWq.cond ?_ | refine AWq.block ?_ | refine AWq.skip ?_ | refine AWq.ret ?_ | refine AWq.exit ?_ | refine AWq.loop ?_ | (refine Both.mk ?_ ?_ <;> intro hc <;> (first | exact Bool.noConfusion hc | exact absurd (by with_reducible rfl) hc | exact (hc : False).elim | exact absurd (by assumption) hc | exact absurd hc (by assumption) | (exfalso; omega) | exact absurd hc (by decide) | skip)) | (intro c hc; (try (simp only [AH.none_iff] at hc; repeat (have hn := hc.1; replace hc := hc.2))); (first | (have hc2 := Eq.trans hc (by with_reducible assumption); clear hc; subst hc2) | (refine i64_k hc ?_ ?_ ?_ ; omega; omega; (clear hc; intro hc; subst hc)) | (refine u64_k hc ?_ ?_ ?_ ; omega; omega; (clear hc; intro hc; subst hc)) | (refine u8_k hc ?_ ?_ ?_ ; omega; omega; (clear hc; intro hc; subst hc)) | subst hc | skip)) | (apply Exists.intro; apply And.intro; (focus (repeat (first | assumption | exact AH.set_same _ _ _ | ((first | refine AH.get_ne ?_ ?_ | refine AH.getd_ne ?_ ?_); (first | assumption | omega | exact Ne.symm (by assumption) | exact AH.ne_none (by assumption) (by assumption) | exact AH.none_ne (by assumption) (by assumption) | exact (AH.none_set (by assumption)).1 | exact Ne.symm (AH.none_set (by assumption)).1)))); done)) | (apply Exists.intro; apply And.intro; first | (with_reducible assumption) | ((try simp only [List.getElem?_drop, Nat.mul_one, Nat.add_zero, Nat.zero_add]); first | (with_reducible assumption) | (refine u8s_get ?_; omega) | (refine iS_get ?_; omega) | assumption | rfl)) | (apply And.intro; (first | rfl | (with_reducible assumption) | exact Nat.le_of_ble_eq_true rfl | omega | (exact Int.ofNat_lt.2 (Nat.lt_of_lt_of_eq (by with_reducible assumption) (by decide +kernel))) | assumption | (simp <;> fail) | (simp <;> omega) | (focus (repeat' (first | exact one_u8s _ | exact one_iS _ _ | rfl | apply one_take | apply one_drop | apply one_append)); done))))) <;> (try (conv => whnf))
  refine AWp_loop (σ := Nat) (5 :: 7 :: 15 :: 16 :: 17 :: 18 :: 19 :: 20 :: 21 :: 22 :: []) (fun i => [(15, .int .i64 i), (5, .int .i64 (plc c i : Nat))]) (fun _ => H) (fun i => i ≤ s) (fun i => s - i) 0 rfl ?_ ?_ ?_ ?_
  · exact Nat.zero_le _
  · exact ⟨rfl, rfl, trivial⟩
  · exact HLe.refl _
  · rintro i hi
    dsimp only at hi ⊢
    refine AWp.of tt_ok (dok _) rfl ?_
    have hpl : plc c i ≤ T := by rw [hT]; exact plc_le (by omega)
    by_cases his : i < s
    · have hg := hcell i (by omega)
      have hci := hok.le (show i < n by omega)
      (repeat' ((conv => whnf); first | refine Then.mk ?_ | left | refine OpsA.cons ?_ | refine OpsA.nil ?_ | refine AWq.seq ?_ | refine AWq.region ?_ | refine AWq.cond ?_ | refine AWq.block ?_ | refine AWq.skip ?_ | refine AWq.ret ?_ | refine AWq.exit ?_ | refine AWq.loop ?_ | (refine Both.mk ?_ ?_ <;> intro hc <;> (first | exact Bool.noConfusion hc | exact absurd (by with_reducible rfl) hc | exact (hc : False).elim | exact absurd (by assumption) hc | exact absurd hc (by assumption) | (exfalso; omega) | exact absurd hc (by decide) | skip)) | (intro c hc; (try (simp only [AH.none_iff] at hc; repeat (have hn := hc.1; replace hc := hc.2))); (first | (have hc2 := Eq.trans hc (by with_reducible assumption); clear hc; subst hc2) | (refine i64_k hc ?_ ?_ ?_ ; omega; omega; (clear hc; intro hc; subst hc)) | (refine u64_k hc ?_ ?_ ?_ ; omega; omega; (clear hc; intro hc; subst hc)) | (refine u8_k hc ?_ ?_ ?_ ; omega; omega; (clear hc; intro hc; subst hc)) | subst hc | skip)) | (apply Exists.intro; apply And.intro; (focus (repeat (first | assumption | exact AH.set_same _ _ _ | ((first | refine AH.get_ne ?_ ?_ | refine AH.getd_ne ?_ ?_); (first | assumption | omega | exact Ne.symm (by assumption) | exact AH.ne_none (by assumption) (by assumption) | exact AH.none_ne (by assumption) (by assumption) | exact (AH.none_set (by assumption)).1 | exact Ne.symm (AH.none_set (by assumption)).1)))); done)) | (apply Exists.intro; apply And.intro; first | (with_reducible assumption) | ((try simp only [List.getElem?_drop, Nat.mul_one, Nat.add_zero, Nat.zero_add]); first | (with_reducible assumption) | (refine u8s_get ?_; omega) | (refine iS_get ?_; omega) | assumption | rfl)) | (apply And.intro; (first | rfl | (with_reducible assumption) | exact Nat.le_of_ble_eq_true rfl | omega | (exact Int.ofNat_lt.2 (Nat.lt_of_lt_of_eq (by with_reducible assumption) (by decide +kernel))) | assumption | (simp <;> fail) | (simp <;> omega) | (focus (repeat' (first | exact one_u8s _ | exact one_iS _ _ | rfl | apply one_take | apply one_drop | apply one_append)); done))))) <;> (try (conv => whnf))
      exact ⟨i + 1, by omega, by omega, ⟨congrArg (AV.int .i64) (by omega), congrArg (AV.int .i64) (by show ((plc c i : Nat) : Int) + (c i : Int) = ((plc c i + c i : Nat) : Int); omega), trivial⟩, HLe.refl _⟩
    · have hie : i = s := by omega
      subst hie
      (repeat' ((conv => whnf); first | refine Then.mk ?_ | left | refine OpsA.cons ?_ | refine OpsA.nil ?_ | refine AWq.seq ?_ | refine AWq.region ?_ | refine AWq.cond ?_ | refine AWq.block ?_ | refine AWq.skip ?_ | refine AWq.ret ?_ | refine AWq.exit ?_ | refine AWq.loop ?_ | (refine Both.mk ?_ ?_ <;> intro hc <;> (first | exact Bool.noConfusion hc | exact absurd (by with_reducible rfl) hc | exact (hc : False).elim | exact absurd (by assumption) hc | exact absurd hc (by assumption) | (exfalso; omega) | exact absurd hc (by decide) | skip)) | (intro c hc; (try (simp only [AH.none_iff] at hc; repeat (have hn := hc.1; replace hc := hc.2))); (first | (have hc2 := Eq.trans hc (by with_reducible assumption); clear hc; subst hc2) | (refine i64_k hc ?_ ?_ ?_ ; omega; omega; (clear hc; intro hc; subst hc)) | (refine u64_k hc ?_ ?_ ?_ ; omega; omega; (clear hc; intro hc; subst hc)) | (refine u8_k hc ?_ ?_ ?_ ; omega; omega; (clear hc; intro hc; subst hc)) | subst hc | skip)) | (apply Exists.intro; apply And.intro; (focus (repeat (first | assumption | exact AH.set_same _ _ _ | ((first | refine AH.get_ne ?_ ?_ | refine AH.getd_ne ?_ ?_); (first | assumption | omega | exact Ne.symm (by assumption) | exact AH.ne_none (by assumption) (by assumption) | exact AH.none_ne (by assumption) (by assumption) | exact (AH.none_set (by assumption)).1 | exact Ne.symm (AH.none_set (by assumption)).1)))); done)) | (apply Exists.intro; apply And.intro; first | (with_reducible assumption) | ((try simp only [List.getElem?_drop, Nat.mul_one, Nat.add_zero, Nat.zero_add]); first | (with_reducible assumption) | (refine u8s_get ?_; omega) | (refine iS_get ?_; omega) | assumption | rfl)) | (apply And.intro; (first | rfl | (with_reducible assumption) | exact Nat.le_of_ble_eq_true rfl | omega | (exact Int.ofNat_lt.2 (Nat.lt_of_lt_of_eq (by with_reducible assumption) (by decide +kernel))) | assumption | (simp <;> fail) | (simp <;> omega) | (focus (repeat' (first | exact one_u8s _ | exact one_iS _ _ | rfl | apply one_take | apply one_drop | apply one_append)); done))))) <;> (try (conv => whnf))

theorem wrA_same' {l : List AV} {k : Nat} (v : AV) (h : k < l.length) : (wrA l k [v])[k]? = some v := by
  unfold wrA
  rw [List.append_assoc, List.getElem?_append_right (by rw [List.length_take]; omega), List.length_take, Nat.min_eq_left (by omega), Nat.sub_self]
  rfl
set_option maxRecDepth 8000 in
theorem see_c {H : AH} {p q n : Nat} {c : Nat → Nat} (h : MdAt H p q n c) (s : Nat) (hs : s < n) :
    ACall Try.prog 29 [.ptr p 0 0, .int .i64 s] H (fun y H' => y = .int .i64 0 ∧ H' = mdH H p q n (seeM n c s)) := by
  obtain ⟨hp, hq, hne, hok⟩ := h
  have hn := hok.hn
  have hu : plc (upM c s) n = plc c n + 32 := by
    have := plc_add (c := c) (s := s) (a := 32) (n := n)
    rw [if_pos hs] at this
    exact this
  have hTb := hok.sum
  have hcs := hok.le hs
  have hpu : ∀ k, k < n → upM c s k ≤ 32800 := fun k hk => by
    have := hok.le hk
    unfold upM; split <;> omega
  obtain ⟨T, hT⟩ : ∃ T : Nat, T = plc c n := ⟨_, rfl⟩
  rw [← hT] at hp hTb hu
  obtain ⟨cells, hce⟩ : ∃ cells, cells = iL n fun k => (c k : Int) := ⟨_, rfl⟩
  have hg : cells[(s : Int).toNat]? = some (.int .i64 (c s)) := by rw [hce]; exact iL_gi (fun k => (c k : Int)) hs
  have hlen : cells.length = n := by rw [hce]; exact iL_len _ _
  have hw : wrA cells (0 + (s : Int).toNat * 1) [.int .i64 ((c s : Int) + 32)] = iL n fun k => (upM c s k : Int) := by
    rw [Nat.zero_add, Nat.mul_one, Int.toNat_natCast, hce, iL_wr _ hs]
    refine iL_congr fun k hk => ?_
    unfold upM
    split
    · rename_i e; rw [e]; omega
    · rfl
  rw [← hce] at hq
  have hqp : q ≠ p := Ne.symm hne
  refine ACall_of tt_ok (dok _) Try.func29 rfl (by decide) rfl ?_
  by_cases hbig : 32768 < T + 32
  · (repeat' ((conv => whnf); first | refine Then.mk ?_ | left | refine OpsA.cons ?_ | refine OpsA.nil ?_ | refine AWq.seq ?_ | refine AWq.region ?_ | refine AWq.cond ?_ | refine AWq.block ?_ | refine AWq.skip ?_ | refine AWq.ret ?_ | refine AWq.exit ?_ | refine AWq.loop ?_ | refine DrawA.consD ?_ | refine DrawA.nil ?_ | refine AWq.draw (by decide +kernel) ?_ | (refine Both.mk ?_ ?_ <;> intro hc <;> (first | exact Bool.noConfusion hc | exact absurd (by with_reducible rfl) hc | exact (hc : False).elim | exact absurd (by assumption) hc | exact absurd hc (by assumption) | (exfalso; omega) | exact absurd hc (by decide) | skip)) | (intro c hc; (try (simp only [AH.none_iff] at hc; repeat (have hn := hc.1; replace hc := hc.2))); (first | (have hc2 := Eq.trans hc (by with_reducible assumption); clear hc; subst hc2) | (refine i64_k hc ?_ ?_ ?_ ; omega; omega; (clear hc; intro hc; subst hc)) | (refine u64_k hc ?_ ?_ ?_ ; omega; omega; (clear hc; intro hc; subst hc)) | (refine u8_k hc ?_ ?_ ?_ ; omega; omega; (clear hc; intro hc; subst hc)) | subst hc | skip)) | (apply Exists.intro; apply And.intro; (focus (repeat (first | assumption | exact AH.set_same _ _ _ | ((first | refine AH.get_ne ?_ ?_ | refine AH.getd_ne ?_ ?_); (first | assumption | omega | exact Ne.symm (by assumption) | exact AH.ne_none (by assumption) (by assumption) | exact AH.none_ne (by assumption) (by assumption) | exact (AH.none_set (by assumption)).1 | exact Ne.symm (AH.none_set (by assumption)).1)))); done)) | (apply Exists.intro; apply And.intro; first | (with_reducible assumption) | ((try simp only [List.getElem?_drop, Nat.mul_one, Nat.add_zero, Nat.zero_add]); first | (with_reducible assumption) | (refine u8s_get ?_; omega) | (refine iS_get ?_; omega) | assumption | rfl)) | (apply And.intro; (first | rfl | (with_reducible assumption) | exact Nat.le_of_ble_eq_true rfl | omega | (exact Int.ofNat_lt.2 (Nat.lt_of_lt_of_eq (by with_reducible assumption) (by decide +kernel))) | assumption | (simp <;> fail) | (simp <;> omega) | (focus (repeat' (first | exact one_u8s _ | exact one_iS _ _ | rfl | apply one_take | apply one_drop | apply one_append)); done))))) <;> (try (conv => whnf))
    refine AWp_loop (σ := Nat) (5 :: 6 :: 47 :: 48 :: 49 :: 50 :: 51 :: 52 :: 53 :: 54 :: 55 :: 56 :: 57 :: 58 :: 59 :: 60 :: 61 :: 62 :: 63 :: 64 :: 65 :: 66 :: 67 :: 68 :: 69 :: 70 :: 71 :: 72 :: 73 :: 74 :: 75 :: []) (fun i => [(47, .int .i64 i)]) (fun i => (H.set q (.row (iL n fun k => ((if k < i then (upM c s k + 1) / 2 else upM c s k : Nat) : Int)) 0)).set p (.row [.sl q 0 1 0 n none, .int .i64 (plc (fun k => (upM c s k + 1) / 2) i : Nat)] 0)) (fun i => i ≤ n) (fun i => n - i) 0 rfl ?_ ?_ ?_ ?_
    · exact Nat.zero_le _
    · exact ⟨rfl, trivial⟩
    · refine HLe.of_eq ?_
      have e0 : (iL n fun k => ((if k < 0 then (upM c s k + 1) / 2 else upM c s k : Nat) : Int)) = wrA cells (0 + (s : Int).toNat * 1) [.int .i64 ((c s : Int) + 32)] := by
        rw [hw]; exact iL_congr fun k hk => by rw [if_neg (by omega)]
      rw [e0]
      ((funext s; simp only [AH.set, AH.del]; repeat' split) <;> (first | rfl | (exfalso; omega)))
    · rintro i hi
      dsimp only at hi ⊢
      refine AWp.of tt_ok (dok _) rfl ?_
      by_cases hin : i < n
      · have hh : 2 * plc (fun k => (upM c s k + 1) / 2) i ≤ plc (upM c s) i + i := plc_half
        have hh2 : plc (upM c s) i ≤ plc (upM c s) n := plc_le hi
        obtain ⟨hT2, hTT⟩ : ∃ x : Nat, x = plc (fun k => (upM c s k + 1) / 2) i := ⟨_, rfl⟩
        have hui := hpu i hin
        have ht : (((upM c s i : Int) + 1)).tdiv 2 = ((upM c s i + 1) / 2 : Nat) := by
          rw [Int.tdiv_eq_ediv_of_nonneg (by omega)]; omega
        have hx : (upM c s i + 1) / 2 ≤ 16400 := by omega
        obtain ⟨z, hz⟩ : ∃ z, z = iL n fun k => ((if k < i then (upM c s k + 1) / 2 else upM c s k : Nat) : Int) := ⟨_, rfl⟩
        have g1 : z[(i : Int).toNat]? = some (.int .i64 (upM c s i)) := by
          rw [hz]; refine (iL_gi _ hin).trans ?_
          rw [if_neg (by omega)]
        have hzl : z.length = n := by rw [hz]; exact iL_len _ _
        have g2 : (wrA z (i : Int).toNat [.int .i64 (((upM c s i : Int) + 1).tdiv 2)])[(i : Int).toNat]? = some (.int .i64 (((upM c s i : Int) + 1).tdiv 2)) := by
          rw [Int.toNat_natCast]
          exact wrA_same' _ (by omega)
        have w2 : wrA z (0 + (i : Int).toNat * 1) [.int .i64 (((upM c s i : Int) + 1).tdiv 2)] = iL n fun k => ((if k < i + 1 then (upM c s k + 1) / 2 else upM c s k : Nat) : Int) := by
          rw [Nat.zero_add, Nat.mul_one, Int.toNat_natCast, hz, iL_wr _ hin, ht]
          refine iL_congr fun k hk => ?_
          by_cases e : k = i
          · subst e; rw [if_pos rfl, if_pos (by omega)]
          · rw [if_neg e]
            by_cases e2 : k < i
            · rw [if_pos e2, if_pos (by omega)]
            · rw [if_neg e2, if_neg (by omega)]
        have w1 : (plc (fun k => (upM c s k + 1) / 2) i : Int) + ((upM c s i : Int) + 1).tdiv 2 = (plc (fun k => (upM c s k + 1) / 2) (i + 1) : Nat) := by
          rw [ht]
          show _ = ((plc (fun k => (upM c s k + 1) / 2) i + (upM c s i + 1) / 2 : Nat) : Int)
          omega
        rw [← hz]
        (repeat' ((conv => whnf); first | refine Then.mk ?_ | left | refine OpsA.cons ?_ | refine OpsA.nil ?_ | refine AWq.seq ?_ | refine AWq.region ?_ | refine AWq.cond ?_ | refine AWq.block ?_ | refine AWq.skip ?_ | refine AWq.ret ?_ | refine AWq.exit ?_ | refine AWq.loop ?_ | refine DrawA.consD ?_ | refine DrawA.nil ?_ | refine AWq.draw (by decide +kernel) ?_ | (refine Both.mk ?_ ?_ <;> intro hc <;> (first | exact Bool.noConfusion hc | exact absurd (by with_reducible rfl) hc | exact (hc : False).elim | exact absurd (by assumption) hc | exact absurd hc (by assumption) | (exfalso; omega) | exact absurd hc (by decide) | skip)) | (intro c hc; (try (simp only [AH.none_iff] at hc; repeat (have hn := hc.1; replace hc := hc.2))); (first | (have hc2 := Eq.trans hc (by with_reducible assumption); clear hc; subst hc2) | (refine i64_k hc ?_ ?_ ?_ ; omega; omega; (clear hc; intro hc; subst hc)) | (refine u64_k hc ?_ ?_ ?_ ; omega; omega; (clear hc; intro hc; subst hc)) | (refine u8_k hc ?_ ?_ ?_ ; omega; omega; (clear hc; intro hc; subst hc)) | subst hc | skip)) | (apply Exists.intro; apply And.intro; (focus (repeat (first | assumption | exact AH.set_same _ _ _ | ((first | refine AH.get_ne ?_ ?_ | refine AH.getd_ne ?_ ?_); (first | assumption | omega | exact Ne.symm (by assumption) | exact AH.ne_none (by assumption) (by assumption) | exact AH.none_ne (by assumption) (by assumption) | exact (AH.none_set (by assumption)).1 | exact Ne.symm (AH.none_set (by assumption)).1)))); done)) | (apply Exists.intro; apply And.intro; first | (with_reducible assumption) | ((try simp only [List.getElem?_drop, Nat.mul_one, Nat.add_zero, Nat.zero_add]); first | (with_reducible assumption) | (refine u8s_get ?_; omega) | (refine iS_get ?_; omega) | assumption | rfl)) | (apply And.intro; (first | rfl | (with_reducible assumption) | exact Nat.le_of_ble_eq_true rfl | omega | (exact Int.ofNat_lt.2 (Nat.lt_of_lt_of_eq (by with_reducible assumption) (by decide +kernel))) | assumption | (simp <;> fail) | (simp <;> omega) | (focus (repeat' (first | exact one_u8s _ | exact one_iS _ _ | rfl | apply one_take | apply one_drop | apply one_append)); done))))) <;> (try (conv => whnf))
        refine ⟨i + 1, by omega, by omega, ⟨congrArg (AV.int .i64) (by omega), trivial⟩, HLe.of_eq ?_⟩
        rw [← w2, ← w1]
        ((funext s; simp only [AH.set, AH.del]; repeat' split) <;> (first | rfl | (exfalso; omega)))
      · have hie : i = n := by omega
        subst hie
        (repeat' ((conv => whnf); first | refine Then.mk ?_ | left | refine OpsA.cons ?_ | refine OpsA.nil ?_ | refine AWq.seq ?_ | refine AWq.region ?_ | refine AWq.cond ?_ | refine AWq.block ?_ | refine AWq.skip ?_ | refine AWq.ret ?_ | refine AWq.exit ?_ | refine AWq.loop ?_ | refine DrawA.consD ?_ | refine DrawA.nil ?_ | refine AWq.draw (by decide +kernel) ?_ | (refine Both.mk ?_ ?_ <;> intro hc <;> (first | exact Bool.noConfusion hc | exact absurd (by with_reducible rfl) hc | exact (hc : False).elim | exact absurd (by assumption) hc | exact absurd hc (by assumption) | (exfalso; omega) | exact absurd hc (by decide) | skip)) | (intro c hc; (try (simp only [AH.none_iff] at hc; repeat (have hn := hc.1; replace hc := hc.2))); (first | (have hc2 := Eq.trans hc (by with_reducible assumption); clear hc; subst hc2) | (refine i64_k hc ?_ ?_ ?_ ; omega; omega; (clear hc; intro hc; subst hc)) | (refine u64_k hc ?_ ?_ ?_ ; omega; omega; (clear hc; intro hc; subst hc)) | (refine u8_k hc ?_ ?_ ?_ ; omega; omega; (clear hc; intro hc; subst hc)) | subst hc | skip)) | (apply Exists.intro; apply And.intro; (focus (repeat (first | assumption | exact AH.set_same _ _ _ | ((first | refine AH.get_ne ?_ ?_ | refine AH.getd_ne ?_ ?_); (first | assumption | omega | exact Ne.symm (by assumption) | exact AH.ne_none (by assumption) (by assumption) | exact AH.none_ne (by assumption) (by assumption) | exact (AH.none_set (by assumption)).1 | exact Ne.symm (AH.none_set (by assumption)).1)))); done)) | (apply Exists.intro; apply And.intro; first | (with_reducible assumption) | ((try simp only [List.getElem?_drop, Nat.mul_one, Nat.add_zero, Nat.zero_add]); first | (with_reducible assumption) | (refine u8s_get ?_; omega) | (refine iS_get ?_; omega) | assumption | rfl)) | (apply And.intro; (first | rfl | (with_reducible assumption) | exact Nat.le_of_ble_eq_true rfl | omega | (exact Int.ofNat_lt.2 (Nat.lt_of_lt_of_eq (by with_reducible assumption) (by decide +kernel))) | assumption | (simp <;> fail) | (simp <;> omega) | (focus (repeat' (first | exact one_u8s _ | exact one_iS _ _ | rfl | apply one_take | apply one_drop | apply one_append)); done))))) <;> (try (conv => whnf))
        have e : seeM i c s = fun k => (upM c s k + 1) / 2 := if_pos (by omega)
        unfold mdH
        rw [e]
        have e2 : (iL i fun k => ((if k < i then (upM c s k + 1) / 2 else upM c s k : Nat) : Int)) = iL i fun k => (((upM c s k + 1) / 2 : Nat) : Int) := iL_congr fun k hk => by rw [if_pos hk]
        rw [e2]
  · (repeat' ((conv => whnf); first | refine Then.mk ?_ | left | refine OpsA.cons ?_ | refine OpsA.nil ?_ | refine AWq.seq ?_ | refine AWq.region ?_ | refine AWq.cond ?_ | refine AWq.block ?_ | refine AWq.skip ?_ | refine AWq.ret ?_ | refine AWq.exit ?_ | refine AWq.loop ?_ | refine DrawA.consD ?_ | refine DrawA.nil ?_ | refine AWq.draw (by decide +kernel) ?_ | (refine Both.mk ?_ ?_ <;> intro hc <;> (first | exact Bool.noConfusion hc | exact absurd (by with_reducible rfl) hc | exact (hc : False).elim | exact absurd (by assumption) hc | exact absurd hc (by assumption) | (exfalso; omega) | exact absurd hc (by decide) | skip)) | (intro c hc; (try (simp only [AH.none_iff] at hc; repeat (have hn := hc.1; replace hc := hc.2))); (first | (have hc2 := Eq.trans hc (by with_reducible assumption); clear hc; subst hc2) | (refine i64_k hc ?_ ?_ ?_ ; omega; omega; (clear hc; intro hc; subst hc)) | (refine u64_k hc ?_ ?_ ?_ ; omega; omega; (clear hc; intro hc; subst hc)) | (refine u8_k hc ?_ ?_ ?_ ; omega; omega; (clear hc; intro hc; subst hc)) | subst hc | skip)) | (apply Exists.intro; apply And.intro; (focus (repeat (first | assumption | exact AH.set_same _ _ _ | ((first | refine AH.get_ne ?_ ?_ | refine AH.getd_ne ?_ ?_); (first | assumption | omega | exact Ne.symm (by assumption) | exact AH.ne_none (by assumption) (by assumption) | exact AH.none_ne (by assumption) (by assumption) | exact (AH.none_set (by assumption)).1 | exact Ne.symm (AH.none_set (by assumption)).1)))); done)) | (apply Exists.intro; apply And.intro; first | (with_reducible assumption) | ((try simp only [List.getElem?_drop, Nat.mul_one, Nat.add_zero, Nat.zero_add]); first | (with_reducible assumption) | (refine u8s_get ?_; omega) | (refine iS_get ?_; omega) | assumption | rfl)) | (apply And.intro; (first | rfl | (with_reducible assumption) | exact Nat.le_of_ble_eq_true rfl | omega | (exact Int.ofNat_lt.2 (Nat.lt_of_lt_of_eq (by with_reducible assumption) (by decide +kernel))) | assumption | (simp <;> fail) | (simp <;> omega) | (focus (repeat' (first | exact one_u8s _ | exact one_iS _ _ | rfl | apply one_take | apply one_drop | apply one_append)); done))))) <;> (try (conv => whnf))
    show (H.set q (.row (wrA cells (0 + (s : Int).toNat * 1) [.int .i64 ((c s : Int) + 32)]) 0)).set p (.row [.sl q 0 1 0 n none, .int .i64 ((T : Int) + 32)] 0) = _
    have e : seeM n c s = upM c s := if_neg (by omega)
    unfold mdH
    rw [e, hw, hu]
    rfl

end Go.Proofs.Ytgmooalikccbiaa
