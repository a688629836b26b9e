/- The walks of the wavelet's reference: squares; Low. -/
import Derived.Test.YtajmabnnaidhkaaWaveG
namespace Go.Proofs.Ytajmabnnaidhkaa
open Go.Fw Go
set_option linter.unusedVariables false
set_option linter.unusedSimpArgs false

set_option maxRecDepth 8000 in
theorem rStep_c (a : List Int) (hn : a.length ≤ 1000000) (H : AH) : ACall Try.prog 18 [.cs (iS .i64 a) a.length] H (fun y H' => y = resV (lineR 1099511627776 spL a) ∧ H' = H) := by
  have hw := fun H => rwithin_c 1099511627776 (by omega) a hn H
  obtain ⟨R, hR⟩ : ∃ R, R = lineR 1099511627776 spL a := ⟨_, rfl⟩
  rw [← hR]
  unfold lineR at hR
  refine ACall.told ?_
  have hmod : (a.length : Int).tmod 2 = ((a.length % 2 : Nat) : Int) := by rw [Int.tmod_eq_emod_of_nonneg (by omega)]; omega
  by_cases h : a.length < 2 ∨ a.length % 2 ≠ 0 ∨ 4096 < a.length
  · rw [if_pos h] at hR
    refine ACall_of tt_ok (dok _) Try.func18 rfl (by decide) rfl ?_
    (repeat' ((conv => whnf); first | refine Then.mk ?_ | refine OpsA.cons ?_ | refine OpsA.nil ?_ | refine AWq.seq ?_ | refine AWq.region ?_ | refine AWq.cond ?_ | refine AWq.block ?_ | refine AWq.skip ?_ | refine AWq.ret ?_ | refine AWq.exit ?_ | refine AWq.loop ?_ | refine AWq.rangeFunc ?_ | refine DrawA.consD ?_ | refine DrawA.nil ?_ | refine DrawL.consD ?_ | refine DrawL.nil ?_ | refine AWq.draw (by decide +kernel) ?_ | (refine ACall.to (hw _) ?_) | (apply Exists.intro; apply And.intro; exact hw _) | (apply Exists.intro; apply Exists.intro; apply And.intro; exact hw _) | (refine Both.mk ?_ ?_ <;> intro hc <;> (first | exact Bool.noConfusion hc | exact absurd (by with_reducible rfl) hc | exact (hc : False).elim | exact absurd (by assumption) hc | exact absurd hc (by assumption) | (exfalso; omega) | exact absurd hc (by decide) | skip)) | (intro c hc; (try (simp only [AH.none_iff] at hc; repeat (have hn := hc.1; replace hc := hc.2))); (first | (refine i64_k hc ?_ ?_ ?_ ; omega; omega; (clear hc; intro hc; subst hc)) | (refine u64_k hc ?_ ?_ ?_ ; omega; omega; (clear hc; intro hc; subst hc)) | (refine u8_k hc ?_ ?_ ?_ ; omega; omega; (clear hc; intro hc; subst hc)) | subst hc | skip)) | (apply Exists.intro; apply And.intro; (focus (repeat (first | assumption | exact AH.set_same _ _ _ | ((first | refine AH.get_ne ?_ ?_ | refine AH.getd_ne ?_ ?_); (first | assumption | omega | exact Ne.symm (by assumption) | exact AH.ne_none (by assumption) (by assumption) | exact AH.none_ne (by assumption) (by assumption) | exact (AH.none_set (by assumption)).1 | exact Ne.symm (AH.none_set (by assumption)).1)))); done)) | (apply Exists.intro; apply And.intro; (try simp only [List.getElem?_drop, Nat.mul_one, Nat.add_zero, Nat.zero_add]); first | (refine u8s_get ?_; omega) | (refine iS_get ?_; omega) | assumption | rfl | fail) | (apply And.intro; (first | rfl | assumption | exact Nat.le_of_ble_eq_true rfl | omega | (simp <;> fail) | (simp <;> omega) | (focus (repeat' (first | exact one_u8s _ | exact one_iS _ _ | rfl | apply one_take | apply one_drop | apply one_append)); done) | fail)) | fail)) <;> (try (conv => whnf))
    all_goals exact res_told hR
  · rw [if_neg h] at hR
    by_cases hb : inB 1099511627776 a = true
    · rw [if_pos hb] at hR
      rw [hb] at hw
      obtain ⟨h', hh⟩ : ∃ h', a.length = 2 * h' := ⟨a.length / 2, by omega⟩
      have hs := fun H => rsplit_k h' (by omega) (by omega) (fun c => a.getD c 0) (fun c _ => by have := inB_getD (by omega) hb c; omega) (iS .i64 a) H (by simp [hh]) (fun i hi => iS_get (by omega))
      rw [← hh] at hs
      refine ACall_of tt_ok (dok _) Try.func18 rfl (by decide) rfl ?_
      (repeat' ((conv => whnf); first | refine Then.mk ?_ | refine OpsA.cons ?_ | refine OpsA.nil ?_ | refine AWq.seq ?_ | refine AWq.region ?_ | refine AWq.cond ?_ | refine AWq.block ?_ | refine AWq.skip ?_ | refine AWq.ret ?_ | refine AWq.exit ?_ | refine AWq.loop ?_ | refine AWq.rangeFunc ?_ | refine DrawA.consD ?_ | refine DrawA.nil ?_ | refine DrawL.consD ?_ | refine DrawL.nil ?_ | refine AWq.draw (by decide +kernel) ?_ | (refine ACall.to (hw _) ?_) | (refine ACall.to (hs _) ?_) | (apply Exists.intro; apply And.intro; exact hw _) | (apply Exists.intro; apply And.intro; exact hs _) | (apply Exists.intro; apply Exists.intro; apply And.intro; exact hw _) | (apply Exists.intro; apply Exists.intro; apply And.intro; exact hs _) | (refine Both.mk ?_ ?_ <;> intro hc <;> (first | exact Bool.noConfusion hc | exact absurd (by with_reducible rfl) hc | exact (hc : False).elim | exact absurd (by assumption) hc | exact absurd hc (by assumption) | (exfalso; omega) | exact absurd hc (by decide) | skip)) | (intro c hc; (try (simp only [AH.none_iff] at hc; repeat (have hn := hc.1; replace hc := hc.2))); (first | (refine i64_k hc ?_ ?_ ?_ ; omega; omega; (clear hc; intro hc; subst hc)) | (refine u64_k hc ?_ ?_ ?_ ; omega; omega; (clear hc; intro hc; subst hc)) | (refine u8_k hc ?_ ?_ ?_ ; omega; omega; (clear hc; intro hc; subst hc)) | subst hc | skip)) | (apply Exists.intro; apply And.intro; (focus (repeat (first | assumption | exact AH.set_same _ _ _ | ((first | refine AH.get_ne ?_ ?_ | refine AH.getd_ne ?_ ?_); (first | assumption | omega | exact Ne.symm (by assumption) | exact AH.ne_none (by assumption) (by assumption) | exact AH.none_ne (by assumption) (by assumption) | exact (AH.none_set (by assumption)).1 | exact Ne.symm (AH.none_set (by assumption)).1)))); done)) | (apply Exists.intro; apply And.intro; (try simp only [List.getElem?_drop, Nat.mul_one, Nat.add_zero, Nat.zero_add]); first | (refine u8s_get ?_; omega) | (refine iS_get ?_; omega) | assumption | rfl | fail) | (apply And.intro; (first | rfl | assumption | exact Nat.le_of_ble_eq_true rfl | omega | (simp <;> fail) | (simp <;> omega) | (focus (repeat' (first | exact one_u8s _ | exact one_iS _ _ | rfl | apply one_take | apply one_drop | apply one_append)); done) | fail)) | fail)) <;> (try (conv => whnf))
      refine ⟨resV R, H, ?_, HLe.refl _, rfl, rfl⟩
      rw [hR]
      unfold resV
      rw [show (spL a).length = a.length from lnL_len _ _]
      exact AVle.refl _
    · rw [if_neg hb] at hR
      have hb : inB 1099511627776 a = false := by simpa using hb
      rw [hb] at hw
      refine ACall_of tt_ok (dok _) Try.func18 rfl (by decide) rfl ?_
      (repeat' ((conv => whnf); first | refine Then.mk ?_ | refine OpsA.cons ?_ | refine OpsA.nil ?_ | refine AWq.seq ?_ | refine AWq.region ?_ | refine AWq.cond ?_ | refine AWq.block ?_ | refine AWq.skip ?_ | refine AWq.ret ?_ | refine AWq.exit ?_ | refine AWq.loop ?_ | refine AWq.rangeFunc ?_ | refine DrawA.consD ?_ | refine DrawA.nil ?_ | refine DrawL.consD ?_ | refine DrawL.nil ?_ | refine AWq.draw (by decide +kernel) ?_ | (refine ACall.to (hw _) ?_) | (apply Exists.intro; apply And.intro; exact hw _) | (apply Exists.intro; apply Exists.intro; apply And.intro; exact hw _) | (refine Both.mk ?_ ?_ <;> intro hc <;> (first | exact Bool.noConfusion hc | exact absurd (by with_reducible rfl) hc | exact (hc : False).elim | exact absurd (by assumption) hc | exact absurd hc (by assumption) | (exfalso; omega) | exact absurd hc (by decide) | skip)) | (intro c hc; (try (simp only [AH.none_iff] at hc; repeat (have hn := hc.1; replace hc := hc.2))); (first | (refine i64_k hc ?_ ?_ ?_ ; omega; omega; (clear hc; intro hc; subst hc)) | (refine u64_k hc ?_ ?_ ?_ ; omega; omega; (clear hc; intro hc; subst hc)) | (refine u8_k hc ?_ ?_ ?_ ; omega; omega; (clear hc; intro hc; subst hc)) | subst hc | skip)) | (apply Exists.intro; apply And.intro; (focus (repeat (first | assumption | exact AH.set_same _ _ _ | ((first | refine AH.get_ne ?_ ?_ | refine AH.getd_ne ?_ ?_); (first | assumption | omega | exact Ne.symm (by assumption) | exact AH.ne_none (by assumption) (by assumption) | exact AH.none_ne (by assumption) (by assumption) | exact (AH.none_set (by assumption)).1 | exact Ne.symm (AH.none_set (by assumption)).1)))); done)) | (apply Exists.intro; apply And.intro; (try simp only [List.getElem?_drop, Nat.mul_one, Nat.add_zero, Nat.zero_add]); first | (refine u8s_get ?_; omega) | (refine iS_get ?_; omega) | assumption | rfl | fail) | (apply And.intro; (first | rfl | assumption | exact Nat.le_of_ble_eq_true rfl | omega | (simp <;> fail) | (simp <;> omega) | (focus (repeat' (first | exact one_u8s _ | exact one_iS _ _ | rfl | apply one_take | apply one_drop | apply one_append)); done) | fail)) | fail)) <;> (try (conv => whnf))
      exact res_told hR

set_option maxRecDepth 8000 in
theorem rBack_c (a : List Int) (hn : a.length ≤ 1000000) (H : AH) : ACall Try.prog 20 [.cs (iS .i64 a) a.length] H (fun y H' => y = resV (lineR 4398046511104 joL a) ∧ H' = H) := by
  have hw := fun H => rwithin_c 4398046511104 (by omega) a hn H
  obtain ⟨R, hR⟩ : ∃ R, R = lineR 4398046511104 joL a := ⟨_, rfl⟩
  rw [← hR]
  unfold lineR at hR
  refine ACall.told ?_
  have hmod : (a.length : Int).tmod 2 = ((a.length % 2 : Nat) : Int) := by rw [Int.tmod_eq_emod_of_nonneg (by omega)]; omega
  by_cases h : a.length < 2 ∨ a.length % 2 ≠ 0 ∨ 4096 < a.length
  · rw [if_pos h] at hR
    refine ACall_of tt_ok (dok _) Try.func20 rfl (by decide) rfl ?_
    (repeat' ((conv => whnf); first | refine Then.mk ?_ | refine OpsA.cons ?_ | refine OpsA.nil ?_ | refine AWq.seq ?_ | refine AWq.region ?_ | refine AWq.cond ?_ | refine AWq.block ?_ | refine AWq.skip ?_ | refine AWq.ret ?_ | refine AWq.exit ?_ | refine AWq.loop ?_ | refine AWq.rangeFunc ?_ | refine DrawA.consD ?_ | refine DrawA.nil ?_ | refine DrawL.consD ?_ | refine DrawL.nil ?_ | refine AWq.draw (by decide +kernel) ?_ | (refine ACall.to (hw _) ?_) | (apply Exists.intro; apply And.intro; exact hw _) | (apply Exists.intro; apply Exists.intro; apply And.intro; exact hw _) | (refine Both.mk ?_ ?_ <;> intro hc <;> (first | exact Bool.noConfusion hc | exact absurd (by with_reducible rfl) hc | exact (hc : False).elim | exact absurd (by assumption) hc | exact absurd hc (by assumption) | (exfalso; omega) | exact absurd hc (by decide) | skip)) | (intro c hc; (try (simp only [AH.none_iff] at hc; repeat (have hn := hc.1; replace hc := hc.2))); (first | (refine i64_k hc ?_ ?_ ?_ ; omega; omega; (clear hc; intro hc; subst hc)) | (refine u64_k hc ?_ ?_ ?_ ; omega; omega; (clear hc; intro hc; subst hc)) | (refine u8_k hc ?_ ?_ ?_ ; omega; omega; (clear hc; intro hc; subst hc)) | subst hc | skip)) | (apply Exists.intro; apply And.intro; (focus (repeat (first | assumption | exact AH.set_same _ _ _ | ((first | refine AH.get_ne ?_ ?_ | refine AH.getd_ne ?_ ?_); (first | assumption | omega | exact Ne.symm (by assumption) | exact AH.ne_none (by assumption) (by assumption) | exact AH.none_ne (by assumption) (by assumption) | exact (AH.none_set (by assumption)).1 | exact Ne.symm (AH.none_set (by assumption)).1)))); done)) | (apply Exists.intro; apply And.intro; (try simp only [List.getElem?_drop, Nat.mul_one, Nat.add_zero, Nat.zero_add]); first | (refine u8s_get ?_; omega) | (refine iS_get ?_; omega) | assumption | rfl | fail) | (apply And.intro; (first | rfl | assumption | exact Nat.le_of_ble_eq_true rfl | omega | (simp <;> fail) | (simp <;> omega) | (focus (repeat' (first | exact one_u8s _ | exact one_iS _ _ | rfl | apply one_take | apply one_drop | apply one_append)); done) | fail)) | fail)) <;> (try (conv => whnf))
    all_goals exact res_told hR
  · rw [if_neg h] at hR
    by_cases hb : inB 4398046511104 a = true
    · rw [if_pos hb] at hR
      rw [hb] at hw
      obtain ⟨h', hh⟩ : ∃ h', a.length = 2 * h' := ⟨a.length / 2, by omega⟩
      have hs := fun H => rjoin_k h' (by omega) (by omega) (fun c => a.getD c 0) (fun c _ => by have := inB_getD (by omega) hb c; omega) (iS .i64 a) H (by simp [hh]) (fun i hi => iS_get (by omega))
      rw [← hh] at hs
      refine ACall_of tt_ok (dok _) Try.func20 rfl (by decide) rfl ?_
      (repeat' ((conv => whnf); first | refine Then.mk ?_ | refine OpsA.cons ?_ | refine OpsA.nil ?_ | refine AWq.seq ?_ | refine AWq.region ?_ | refine AWq.cond ?_ | refine AWq.block ?_ | refine AWq.skip ?_ | refine AWq.ret ?_ | refine AWq.exit ?_ | refine AWq.loop ?_ | refine AWq.rangeFunc ?_ | refine DrawA.consD ?_ | refine DrawA.nil ?_ | refine DrawL.consD ?_ | refine DrawL.nil ?_ | refine AWq.draw (by decide +kernel) ?_ | (refine ACall.to (hw _) ?_) | (refine ACall.to (hs _) ?_) | (apply Exists.intro; apply And.intro; exact hw _) | (apply Exists.intro; apply And.intro; exact hs _) | (apply Exists.intro; apply Exists.intro; apply And.intro; exact hw _) | (apply Exists.intro; apply Exists.intro; apply And.intro; exact hs _) | (refine Both.mk ?_ ?_ <;> intro hc <;> (first | exact Bool.noConfusion hc | exact absurd (by with_reducible rfl) hc | exact (hc : False).elim | exact absurd (by assumption) hc | exact absurd hc (by assumption) | (exfalso; omega) | exact absurd hc (by decide) | skip)) | (intro c hc; (try (simp only [AH.none_iff] at hc; repeat (have hn := hc.1; replace hc := hc.2))); (first | (refine i64_k hc ?_ ?_ ?_ ; omega; omega; (clear hc; intro hc; subst hc)) | (refine u64_k hc ?_ ?_ ?_ ; omega; omega; (clear hc; intro hc; subst hc)) | (refine u8_k hc ?_ ?_ ?_ ; omega; omega; (clear hc; intro hc; subst hc)) | subst hc | skip)) | (apply Exists.intro; apply And.intro; (focus (repeat (first | assumption | exact AH.set_same _ _ _ | ((first | refine AH.get_ne ?_ ?_ | refine AH.getd_ne ?_ ?_); (first | assumption | omega | exact Ne.symm (by assumption) | exact AH.ne_none (by assumption) (by assumption) | exact AH.none_ne (by assumption) (by assumption) | exact (AH.none_set (by assumption)).1 | exact Ne.symm (AH.none_set (by assumption)).1)))); done)) | (apply Exists.intro; apply And.intro; (try simp only [List.getElem?_drop, Nat.mul_one, Nat.add_zero, Nat.zero_add]); first | (refine u8s_get ?_; omega) | (refine iS_get ?_; omega) | assumption | rfl | fail) | (apply And.intro; (first | rfl | assumption | exact Nat.le_of_ble_eq_true rfl | omega | (simp <;> fail) | (simp <;> omega) | (focus (repeat' (first | exact one_u8s _ | exact one_iS _ _ | rfl | apply one_take | apply one_drop | apply one_append)); done) | fail)) | fail)) <;> (try (conv => whnf))
      refine ⟨resV R, H, ?_, HLe.refl _, rfl, rfl⟩
      rw [hR]
      unfold resV
      rw [show (joL a).length = a.length from lnL_len _ _]
      exact AVle.refl _
    · rw [if_neg hb] at hR
      have hb : inB 4398046511104 a = false := by simpa using hb
      rw [hb] at hw
      refine ACall_of tt_ok (dok _) Try.func20 rfl (by decide) rfl ?_
      (repeat' ((conv => whnf); first | refine Then.mk ?_ | refine OpsA.cons ?_ | refine OpsA.nil ?_ | refine AWq.seq ?_ | refine AWq.region ?_ | refine AWq.cond ?_ | refine AWq.block ?_ | refine AWq.skip ?_ | refine AWq.ret ?_ | refine AWq.exit ?_ | refine AWq.loop ?_ | refine AWq.rangeFunc ?_ | refine DrawA.consD ?_ | refine DrawA.nil ?_ | refine DrawL.consD ?_ | refine DrawL.nil ?_ | refine AWq.draw (by decide +kernel) ?_ | (refine ACall.to (hw _) ?_) | (apply Exists.intro; apply And.intro; exact hw _) | (apply Exists.intro; apply Exists.intro; apply And.intro; exact hw _) | (refine Both.mk ?_ ?_ <;> intro hc <;> (first | exact Bool.noConfusion hc | exact absurd (by with_reducible rfl) hc | exact (hc : False).elim | exact absurd (by assumption) hc | exact absurd hc (by assumption) | (exfalso; omega) | exact absurd hc (by decide) | skip)) | (intro c hc; (try (simp only [AH.none_iff] at hc; repeat (have hn := hc.1; replace hc := hc.2))); (first | (refine i64_k hc ?_ ?_ ?_ ; omega; omega; (clear hc; intro hc; subst hc)) | (refine u64_k hc ?_ ?_ ?_ ; omega; omega; (clear hc; intro hc; subst hc)) | (refine u8_k hc ?_ ?_ ?_ ; omega; omega; (clear hc; intro hc; subst hc)) | subst hc | skip)) | (apply Exists.intro; apply And.intro; (focus (repeat (first | assumption | exact AH.set_same _ _ _ | ((first | refine AH.get_ne ?_ ?_ | refine AH.getd_ne ?_ ?_); (first | assumption | omega | exact Ne.symm (by assumption) | exact AH.ne_none (by assumption) (by assumption) | exact AH.none_ne (by assumption) (by assumption) | exact (AH.none_set (by assumption)).1 | exact Ne.symm (AH.none_set (by assumption)).1)))); done)) | (apply Exists.intro; apply And.intro; (try simp only [List.getElem?_drop, Nat.mul_one, Nat.add_zero, Nat.zero_add]); first | (refine u8s_get ?_; omega) | (refine iS_get ?_; omega) | assumption | rfl | fail) | (apply And.intro; (first | rfl | assumption | exact Nat.le_of_ble_eq_true rfl | omega | (simp <;> fail) | (simp <;> omega) | (focus (repeat' (first | exact one_u8s _ | exact one_iS _ _ | rfl | apply one_take | apply one_drop | apply one_append)); done) | fail)) | fail)) <;> (try (conv => whnf))
      exact res_told hR

set_option maxRecDepth 8000 in
theorem rForward_ok (k : Nat) (hk : k ≤ 4) (a : List Int) (hl : a.length = 2 ^ k * 2 ^ k) (hi : inB 1099511627776 a = true) (hc : ∀ H, ACall Try.prog 45 [.int .i64 (2 ^ k : Nat), .cs (iS .i64 a) a.length, .int .i64 1099511627776] H (fun y H' => y = .int .i64 0 ∧ H' = H)) (H : AH) :
    ACall Try.prog 22 [.int .i64 (2 ^ k : Nat), .cs (iS .i64 a) a.length] H (fun y H' => y = resV (toL (2 ^ k) (fwd k (ofL (2 ^ k) a)), 0) ∧ H' = H) := by
  have hS := (pow_side hk).2
  have hbd := inB_bnd (by omega) hi (2 ^ k)
  have hof := toL_ofL hl
  refine ACall_of tt_ok (dok _) Try.func22 rfl (by decide) rfl ?_
  (repeat' ((conv => whnf); first | refine Then.mk ?_ | left | refine OpsA.cons ?_ | refine OpsA.nil ?_ | refine AWq.seq ?_ | refine AWq.region ?_ | refine AWq.cond ?_ | refine AWq.block ?_ | refine AWq.skip ?_ | refine AWq.ret ?_ | refine AWq.exit ?_ | refine AWq.loop ?_ | refine AWq.rangeFunc ?_ | refine DrawA.consD ?_ | refine DrawA.nil ?_ | refine DrawL.consD ?_ | refine DrawL.nil ?_ | refine AWq.draw (by decide +kernel) ?_ | (refine ACall.to (hc _) ?_) | (apply Exists.intro; apply And.intro; exact hc _) | (apply Exists.intro; apply Exists.intro; apply And.intro; exact hc _) | (refine Both.mk ?_ ?_ <;> intro hc <;> (first | exact Bool.noConfusion hc | exact absurd (by with_reducible rfl) hc | exact (hc : False).elim | exact absurd (by assumption) hc | exact absurd hc (by assumption) | (exfalso; omega) | exact absurd hc (by decide) | skip)) | (intro c hc; (try (simp only [AH.none_iff] at hc; repeat (have hn := hc.1; replace hc := hc.2))); (first | (refine i64_k hc ?_ ?_ ?_ ; omega; omega; (clear hc; intro hc; subst hc)) | (refine u64_k hc ?_ ?_ ?_ ; omega; omega; (clear hc; intro hc; subst hc)) | (refine u8_k hc ?_ ?_ ?_ ; omega; omega; (clear hc; intro hc; subst hc)) | subst hc | skip)) | (apply Exists.intro; apply And.intro; (focus (repeat (first | assumption | exact AH.set_same _ _ _ | ((first | refine AH.get_ne ?_ ?_ | refine AH.getd_ne ?_ ?_); (first | assumption | omega | exact Ne.symm (by assumption) | exact AH.ne_none (by assumption) (by assumption) | exact AH.none_ne (by assumption) (by assumption) | exact (AH.none_set (by assumption)).1 | exact Ne.symm (AH.none_set (by assumption)).1)))); done)) | (apply Exists.intro; apply And.intro; (try simp only [List.getElem?_drop, Nat.mul_one, Nat.add_zero, Nat.zero_add]); first | (refine u8s_get ?_; omega) | (refine iS_get ?_; omega) | assumption | rfl | fail) | (apply And.intro; (first | rfl | assumption | exact Nat.le_of_ble_eq_true rfl | omega | (simp <;> fail) | (simp <;> omega) | (focus (repeat' (first | exact one_u8s _ | exact one_iS _ _ | rfl | apply one_take | apply one_drop | apply one_append)); done) | fail)) | fail)) <;> (try (conv => whnf))
  rw [hl]
  obtain ⟨S, hSS⟩ : ∃ S, S = 2 ^ k := ⟨_, rfl⟩
  rw [← hSS] at hS hbd hof ⊢
  have hm0 : mL S (ofL S a) = iS .i64 a := by unfold mL; rw [hof]
  rw [← hm0]
  refine AWp_loop (σ := Nat × Mat × Nat) (1 :: 7 :: 15 :: 16 :: 17 :: 18 :: 19 :: 20 :: 21 :: 22 :: 23 :: 24 :: 25 :: 26 :: []) (fun (j, N, b) => [(7, .int .i64 (2 ^ j : Nat)), (1, .cs (mL S N) (S * S))]) (fun (j, N, b) => H)
    (fun (j, N, b) => j ≤ k ∧ BndS S b N ∧ fwd j N = fwd k (ofL S a) ∧ b * 4 ^ j ≤ 281474976710656) (fun (j, N, b) => j) (k, ofL S a, 1099511627776) rfl ?_ ?_ ?_ ?_
  · refine ⟨Nat.le_refl _, hbd, rfl, ?_⟩
    have : 4 ^ k ≤ 4 ^ 4 := Nat.pow_le_pow_right (by omega) hk
    show 1099511627776 * 4 ^ k ≤ _
    omega
  · exact ⟨congrArg (fun x : Nat => AV.int .i64 (x : Int)) hSS, rfl, trivial⟩
  · exact HLe.refl _
  · rintro ⟨j, N, b⟩ ⟨hj, hN, hfw, hb⟩
    dsimp only at hj hN hfw hb ⊢
    refine AWp.of tt_ok (dok _) rfl ?_
    cases j with
    | zero =>
      (repeat' ((conv => whnf); first | refine Then.mk ?_ | left | refine OpsA.cons ?_ | refine OpsA.nil ?_ | refine AWq.seq ?_ | refine AWq.region ?_ | refine AWq.cond ?_ | refine AWq.block ?_ | refine AWq.skip ?_ | refine AWq.ret ?_ | refine AWq.exit ?_ | refine AWq.loop ?_ | refine AWq.rangeFunc ?_ | refine DrawA.consD ?_ | refine DrawA.nil ?_ | refine DrawL.consD ?_ | refine DrawL.nil ?_ | refine AWq.draw (by decide +kernel) ?_ | (refine Both.mk ?_ ?_ <;> intro hc <;> (first | exact Bool.noConfusion hc | exact absurd (by with_reducible rfl) hc | exact (hc : False).elim | exact absurd (by assumption) hc | exact absurd hc (by assumption) | (exfalso; omega) | exact absurd hc (by decide) | skip)) | (intro c hc; (try (simp only [AH.none_iff] at hc; repeat (have hn := hc.1; replace hc := hc.2))); (first | (refine i64_k hc ?_ ?_ ?_ ; omega; omega; (clear hc; intro hc; subst hc)) | (refine u64_k hc ?_ ?_ ?_ ; omega; omega; (clear hc; intro hc; subst hc)) | (refine u8_k hc ?_ ?_ ?_ ; omega; omega; (clear hc; intro hc; subst hc)) | subst hc | skip)) | (apply Exists.intro; apply And.intro; (focus (repeat (first | assumption | exact AH.set_same _ _ _ | ((first | refine AH.get_ne ?_ ?_ | refine AH.getd_ne ?_ ?_); (first | assumption | omega | exact Ne.symm (by assumption) | exact AH.ne_none (by assumption) (by assumption) | exact AH.none_ne (by assumption) (by assumption) | exact (AH.none_set (by assumption)).1 | exact Ne.symm (AH.none_set (by assumption)).1)))); done)) | (apply Exists.intro; apply And.intro; (try simp only [List.getElem?_drop, Nat.mul_one, Nat.add_zero, Nat.zero_add]); first | (refine u8s_get ?_; omega) | (refine iS_get ?_; omega) | assumption | rfl | fail) | (apply And.intro; (first | rfl | assumption | exact Nat.le_of_ble_eq_true rfl | omega | (simp <;> fail) | (simp <;> omega) | (focus (repeat' (first | exact one_u8s _ | exact one_iS _ _ | rfl | apply one_take | apply one_drop | apply one_append)); done) | fail)) | fail)) <;> (try (conv => whnf))
      have hN0 : N = fwd k (ofL S a) := hfw
      rw [← hN0]
      unfold resV
      rw [show (toL S N).length = S * S from toL_len S N]
      exact ⟨rfl, rfl⟩
    | succ j =>
      have hP1 : 1 ≤ 2 ^ j := Nat.one_le_two_pow
      have hPS : 2 ^ (j + 1) ≤ S := by rw [hSS]; exact Nat.pow_le_pow_right (by omega) hj
      rw [pow_half] at hPS
      have hfw2 : fwd j (colsM spl (2 * 2 ^ j) (rowsM spl (2 * 2 ^ j) N)) = fwd k (ofL S a) := by rw [← pow_half]; exact hfw
      rw [pow_half]
      have hb2 : 4 * b * 4 ^ j ≤ 281474976710656 := by rw [Nat.mul_comm 4 b, Nat.mul_assoc, ← Nat.pow_succ']; exact hb
      have hb3 : 4 * b ≤ 281474976710656 := Nat.le_trans (Nat.le_mul_of_pos_right _ (Nat.pow_pos (by omega))) hb2
      have hdv : (((2 * 2 ^ j : Nat) : Int)).tdiv 2 = ((2 ^ j : Nat) : Int) := by rw [Int.tdiv_eq_ediv_of_nonneg (by omega)]; omega
      obtain ⟨P, hP⟩ : ∃ P, P = 2 ^ j := ⟨_, rfl⟩
      rw [← hP] at hP1 hPS hfw2 hdv ⊢
      obtain ⟨N1, hN1⟩ : ∃ N1, N1 = rowsM spl (2 * P) N := ⟨_, rfl⟩
      obtain ⟨N2, hN2⟩ : ∃ N2, N2 = colsM spl (2 * P) N1 := ⟨_, rfl⟩
      have c1 : BndS S (2 * (b : Int)) N1 := by rw [hN1]; exact rows_bd hPS (by omega) (fun x hx c hc => spl_bd hx c hc) hN
      have c2 : BndS S ((4 * b : Nat) : Int) N2 := by
        have : ((4 * b : Nat) : Int) = 2 * (2 * (b : Int)) := by omega
        rw [hN2, this]; exact cols_bd hPS (by omega) (fun x hx c hc => spl_bd hx c hc) c1
      have call1 := fun K => lines_rs S P hS.1 hP1 hPS N (fun r c hr hc => by have := hN r c hr hc; omega) K
      have call2 := fun K => lines_cs S P hS.1 hP1 hPS N1 (fun r c hr hc => by have := c1 r c hr hc; omega) K
      rw [← hN1] at call1
      rw [← hN2] at call2
      have hfw3 : fwd j N2 = fwd k (ofL S a) := by rw [hN2, hN1]; exact hfw2
      (repeat' ((conv => whnf); first | refine Then.mk ?_ | left | refine OpsA.cons ?_ | refine OpsA.nil ?_ | refine AWq.seq ?_ | refine AWq.region ?_ | refine AWq.cond ?_ | refine AWq.block ?_ | refine AWq.skip ?_ | refine AWq.ret ?_ | refine AWq.exit ?_ | refine AWq.loop ?_ | refine AWq.rangeFunc ?_ | refine DrawA.consD ?_ | refine DrawA.nil ?_ | refine DrawL.consD ?_ | refine DrawL.nil ?_ | refine AWq.draw (by decide +kernel) ?_ | (refine ACall.to (call1 _) ?_) | (refine ACall.to (call2 _) ?_) | (apply Exists.intro; apply And.intro; exact call1 _) | (apply Exists.intro; apply And.intro; exact call2 _) | (apply Exists.intro; apply Exists.intro; apply And.intro; exact call1 _) | (apply Exists.intro; apply Exists.intro; apply And.intro; exact call2 _) | (refine Both.mk ?_ ?_ <;> intro hc <;> (first | exact Bool.noConfusion hc | exact absurd (by with_reducible rfl) hc | exact (hc : False).elim | exact absurd (by assumption) hc | exact absurd hc (by assumption) | (exfalso; omega) | exact absurd hc (by decide) | skip)) | (intro c hc; (try (simp only [AH.none_iff] at hc; repeat (have hn := hc.1; replace hc := hc.2))); (first | (refine i64_k hc ?_ ?_ ?_ ; omega; omega; (clear hc; intro hc; subst hc)) | (refine u64_k hc ?_ ?_ ?_ ; omega; omega; (clear hc; intro hc; subst hc)) | (refine u8_k hc ?_ ?_ ?_ ; omega; omega; (clear hc; intro hc; subst hc)) | subst hc | skip)) | (apply Exists.intro; apply And.intro; (focus (repeat (first | assumption | exact AH.set_same _ _ _ | ((first | refine AH.get_ne ?_ ?_ | refine AH.getd_ne ?_ ?_); (first | assumption | omega | exact Ne.symm (by assumption) | exact AH.ne_none (by assumption) (by assumption) | exact AH.none_ne (by assumption) (by assumption) | exact (AH.none_set (by assumption)).1 | exact Ne.symm (AH.none_set (by assumption)).1)))); done)) | (apply Exists.intro; apply And.intro; (try simp only [List.getElem?_drop, Nat.mul_one, Nat.add_zero, Nat.zero_add]); first | (refine u8s_get ?_; omega) | (refine iS_get ?_; omega) | assumption | rfl | fail) | (apply And.intro; (first | rfl | assumption | exact Nat.le_of_ble_eq_true rfl | omega | (simp <;> fail) | (simp <;> omega) | (focus (repeat' (first | exact one_u8s _ | exact one_iS _ _ | rfl | apply one_take | apply one_drop | apply one_append)); done) | fail)) | fail)) <;> (try (conv => whnf))
      exact ⟨(j, N2, 4 * b), ⟨by show j ≤ k; omega, c2, hfw3, hb2⟩, by show j < j + 1; omega, ⟨congrArg (AV.int .i64) (by rw [← hP]; exact hdv), rfl, trivial⟩, HLe.refl _⟩

set_option maxRecDepth 8000 in
theorem rInverse_ok (k : Nat) (hk : k ≤ 4) (a : List Int) (hl : a.length = 2 ^ k * 2 ^ k) (hi : inB 4398046511104 a = true) (hc : ∀ H, ACall Try.prog 45 [.int .i64 (2 ^ k : Nat), .cs (iS .i64 a) a.length, .int .i64 4398046511104] H (fun y H' => y = .int .i64 0 ∧ H' = H)) (H : AH) :
    ACall Try.prog 24 [.int .i64 (2 ^ k : Nat), .cs (iS .i64 a) a.length] H (fun y H' => y = resV (toL (2 ^ k) (inv k (ofL (2 ^ k) a)), 0) ∧ H' = H) := by
  have hS := (pow_side hk).2
  have hbd := inB_bnd (by omega) hi (2 ^ k)
  have hof := toL_ofL hl
  refine ACall_of tt_ok (dok _) Try.func24 rfl (by decide) rfl ?_
  (repeat' ((conv => whnf); first | refine Then.mk ?_ | left | refine OpsA.cons ?_ | refine OpsA.nil ?_ | refine AWq.seq ?_ | refine AWq.region ?_ | refine AWq.cond ?_ | refine AWq.block ?_ | refine AWq.skip ?_ | refine AWq.ret ?_ | refine AWq.exit ?_ | refine AWq.loop ?_ | refine AWq.rangeFunc ?_ | refine DrawA.consD ?_ | refine DrawA.nil ?_ | refine DrawL.consD ?_ | refine DrawL.nil ?_ | refine AWq.draw (by decide +kernel) ?_ | (refine ACall.to (hc _) ?_) | (apply Exists.intro; apply And.intro; exact hc _) | (apply Exists.intro; apply Exists.intro; apply And.intro; exact hc _) | (refine Both.mk ?_ ?_ <;> intro hc <;> (first | exact Bool.noConfusion hc | exact absurd (by with_reducible rfl) hc | exact (hc : False).elim | exact absurd (by assumption) hc | exact absurd hc (by assumption) | (exfalso; omega) | exact absurd hc (by decide) | skip)) | (intro c hc; (try (simp only [AH.none_iff] at hc; repeat (have hn := hc.1; replace hc := hc.2))); (first | (refine i64_k hc ?_ ?_ ?_ ; omega; omega; (clear hc; intro hc; subst hc)) | (refine u64_k hc ?_ ?_ ?_ ; omega; omega; (clear hc; intro hc; subst hc)) | (refine u8_k hc ?_ ?_ ?_ ; omega; omega; (clear hc; intro hc; subst hc)) | subst hc | skip)) | (apply Exists.intro; apply And.intro; (focus (repeat (first | assumption | exact AH.set_same _ _ _ | ((first | refine AH.get_ne ?_ ?_ | refine AH.getd_ne ?_ ?_); (first | assumption | omega | exact Ne.symm (by assumption) | exact AH.ne_none (by assumption) (by assumption) | exact AH.none_ne (by assumption) (by assumption) | exact (AH.none_set (by assumption)).1 | exact Ne.symm (AH.none_set (by assumption)).1)))); done)) | (apply Exists.intro; apply And.intro; (try simp only [List.getElem?_drop, Nat.mul_one, Nat.add_zero, Nat.zero_add]); first | (refine u8s_get ?_; omega) | (refine iS_get ?_; omega) | assumption | rfl | fail) | (apply And.intro; (first | rfl | assumption | exact Nat.le_of_ble_eq_true rfl | omega | (simp <;> fail) | (simp <;> omega) | (focus (repeat' (first | exact one_u8s _ | exact one_iS _ _ | rfl | apply one_take | apply one_drop | apply one_append)); done) | fail)) | fail)) <;> (try (conv => whnf))
  rw [hl]
  obtain ⟨S, hSS⟩ : ∃ S, S = 2 ^ k := ⟨_, rfl⟩
  rw [← hSS] at hS hbd hof ⊢
  have hm0 : mL S (ofL S a) = iS .i64 a := by unfold mL; rw [hof]
  rw [← hm0]
  refine AWp_loop (σ := Nat × Mat × Nat) (1 :: 7 :: 14 :: 15 :: 16 :: 17 :: 18 :: 19 :: 20 :: 21 :: 22 :: 23 :: 24 :: 25 :: 26 :: []) (fun (j, N, b) => [(7, .int .i64 (2 ^ (j + 1) : Nat)), (1, .cs (mL S N) (S * S))]) (fun (j, N, b) => H)
    (fun (j, N, b) => j ≤ k ∧ BndS S b N ∧ N = inv j (ofL S a) ∧ 1 ≤ b ∧ b * 16 ^ (k - j) ≤ 288230376151711744) (fun (j, N, b) => k - j) (0, ofL S a, 4398046511104) rfl ?_ ?_ ?_ ?_
  · refine ⟨Nat.zero_le _, hbd, rfl, by show 1 ≤ 4398046511104; omega, ?_⟩
    have : 16 ^ (k - 0) ≤ 16 ^ 4 := Nat.pow_le_pow_right (by omega) (by omega)
    show 4398046511104 * 16 ^ (k - 0) ≤ _
    omega
  · exact ⟨rfl, rfl, trivial⟩
  · exact HLe.refl _
  · rintro ⟨j, N, b⟩ ⟨hj, hN, hfw, hb1, hb⟩
    dsimp only at hj hN hfw hb1 hb ⊢
    refine AWp.of tt_ok (dok _) rfl ?_
    by_cases hjk : j = k
    · subst hjk
      have hgt : ¬ ((2 ^ (j + 1) : Nat) : Int) ≤ (S : Int) := by rw [pow_half, ← hSS]; omega
      (repeat' ((conv => whnf); first | refine Then.mk ?_ | left | refine OpsA.cons ?_ | refine OpsA.nil ?_ | refine AWq.seq ?_ | refine AWq.region ?_ | refine AWq.cond ?_ | refine AWq.block ?_ | refine AWq.skip ?_ | refine AWq.ret ?_ | refine AWq.exit ?_ | refine AWq.loop ?_ | refine AWq.rangeFunc ?_ | refine DrawA.consD ?_ | refine DrawA.nil ?_ | refine DrawL.consD ?_ | refine DrawL.nil ?_ | refine AWq.draw (by decide +kernel) ?_ | (refine Both.mk ?_ ?_ <;> intro hc <;> (first | exact Bool.noConfusion hc | exact absurd (by with_reducible rfl) hc | exact (hc : False).elim | exact absurd (by assumption) hc | exact absurd hc (by assumption) | (exfalso; omega) | exact absurd hc (by decide) | skip)) | (intro c hc; (try (simp only [AH.none_iff] at hc; repeat (have hn := hc.1; replace hc := hc.2))); (first | (refine i64_k hc ?_ ?_ ?_ ; omega; omega; (clear hc; intro hc; subst hc)) | (refine u64_k hc ?_ ?_ ?_ ; omega; omega; (clear hc; intro hc; subst hc)) | (refine u8_k hc ?_ ?_ ?_ ; omega; omega; (clear hc; intro hc; subst hc)) | subst hc | skip)) | (apply Exists.intro; apply And.intro; (focus (repeat (first | assumption | exact AH.set_same _ _ _ | ((first | refine AH.get_ne ?_ ?_ | refine AH.getd_ne ?_ ?_); (first | assumption | omega | exact Ne.symm (by assumption) | exact AH.ne_none (by assumption) (by assumption) | exact AH.none_ne (by assumption) (by assumption) | exact (AH.none_set (by assumption)).1 | exact Ne.symm (AH.none_set (by assumption)).1)))); done)) | (apply Exists.intro; apply And.intro; (try simp only [List.getElem?_drop, Nat.mul_one, Nat.add_zero, Nat.zero_add]); first | (refine u8s_get ?_; omega) | (refine iS_get ?_; omega) | assumption | rfl | fail) | (apply And.intro; (first | rfl | assumption | exact Nat.le_of_ble_eq_true rfl | omega | (simp <;> fail) | (simp <;> omega) | (focus (repeat' (first | exact one_u8s _ | exact one_iS _ _ | rfl | apply one_take | apply one_drop | apply one_append)); done) | fail)) | fail)) <;> (try (conv => whnf))
      rw [← hfw]
      unfold resV
      rw [show (toL S N).length = S * S from toL_len S N]
      exact ⟨rfl, rfl⟩
    · have hP1 : 1 ≤ 2 ^ j := Nat.one_le_two_pow
      have hPS : 2 ^ (j + 1) ≤ S := by rw [hSS]; exact Nat.pow_le_pow_right (by omega) (by omega)
      rw [pow_half] at hPS
      have hfw2 : rowsM joi (2 * 2 ^ j) (colsM joi (2 * 2 ^ j) N) = inv (j + 1) (ofL S a) := by rw [hfw, ← pow_half]; rfl
      rw [pow_half]
      have hb2 : 16 * b * 16 ^ (k - (j + 1)) ≤ 288230376151711744 := by rw [Nat.mul_comm 16 b, Nat.mul_assoc, ← Nat.pow_succ', show (k - (j + 1)).succ = k - j by omega]; exact hb
      have hb3 : 16 * b ≤ 288230376151711744 := Nat.le_trans (Nat.le_mul_of_pos_right _ (Nat.pow_pos (by omega))) hb2
      have hdv : ((2 ^ (j + 1 + 1) : Nat) : Int) = ((2 * 2 ^ j : Nat) : Int) * 2 := by rw [pow_half, pow_half]; omega
      obtain ⟨P, hP⟩ : ∃ P, P = 2 ^ j := ⟨_, rfl⟩
      rw [← hP] at hP1 hPS hfw2 hdv ⊢
      obtain ⟨N1, hN1⟩ : ∃ N1, N1 = colsM joi (2 * P) N := ⟨_, rfl⟩
      obtain ⟨N2, hN2⟩ : ∃ N2, N2 = rowsM joi (2 * P) N1 := ⟨_, rfl⟩
      have c1 : BndS S (4 * (b : Int)) N1 := by rw [hN1]; exact cols_bd hPS (by omega) (fun x hx c hc => joi_bd (by omega) hx c hc) hN
      have c2 : BndS S ((16 * b : Nat) : Int) N2 := by
        have : ((16 * b : Nat) : Int) = 4 * (4 * (b : Int)) := by omega
        rw [hN2, this]; exact rows_bd hPS (by omega) (fun x hx c hc => joi_bd (by omega) hx c hc) c1
      have call1 := fun K => lines_cj S P hS.1 hP1 hPS N (fun r c hr hc => by have := hN r c hr hc; omega) K
      have call2 := fun K => lines_rj S P hS.1 hP1 hPS N1 (fun r c hr hc => by have := c1 r c hr hc; omega) K
      rw [← hN1] at call1
      rw [← hN2] at call2
      have hfw3 : N2 = inv (j + 1) (ofL S a) := by rw [hN2, hN1]; exact hfw2
      (repeat' ((conv => whnf); first | refine Then.mk ?_ | left | refine OpsA.cons ?_ | refine OpsA.nil ?_ | refine AWq.seq ?_ | refine AWq.region ?_ | refine AWq.cond ?_ | refine AWq.block ?_ | refine AWq.skip ?_ | refine AWq.ret ?_ | refine AWq.exit ?_ | refine AWq.loop ?_ | refine AWq.rangeFunc ?_ | refine DrawA.consD ?_ | refine DrawA.nil ?_ | refine DrawL.consD ?_ | refine DrawL.nil ?_ | refine AWq.draw (by decide +kernel) ?_ | (refine ACall.to (call1 _) ?_) | (refine ACall.to (call2 _) ?_) | (apply Exists.intro; apply And.intro; exact call1 _) | (apply Exists.intro; apply And.intro; exact call2 _) | (apply Exists.intro; apply Exists.intro; apply And.intro; exact call1 _) | (apply Exists.intro; apply Exists.intro; apply And.intro; exact call2 _) | (refine Both.mk ?_ ?_ <;> intro hc <;> (first | exact Bool.noConfusion hc | exact absurd (by with_reducible rfl) hc | exact (hc : False).elim | exact absurd (by assumption) hc | exact absurd hc (by assumption) | (exfalso; omega) | exact absurd hc (by decide) | skip)) | (intro c hc; (try (simp only [AH.none_iff] at hc; repeat (have hn := hc.1; replace hc := hc.2))); (first | (refine i64_k hc ?_ ?_ ?_ ; omega; omega; (clear hc; intro hc; subst hc)) | (refine u64_k hc ?_ ?_ ?_ ; omega; omega; (clear hc; intro hc; subst hc)) | (refine u8_k hc ?_ ?_ ?_ ; omega; omega; (clear hc; intro hc; subst hc)) | subst hc | skip)) | (apply Exists.intro; apply And.intro; (focus (repeat (first | assumption | exact AH.set_same _ _ _ | ((first | refine AH.get_ne ?_ ?_ | refine AH.getd_ne ?_ ?_); (first | assumption | omega | exact Ne.symm (by assumption) | exact AH.ne_none (by assumption) (by assumption) | exact AH.none_ne (by assumption) (by assumption) | exact (AH.none_set (by assumption)).1 | exact Ne.symm (AH.none_set (by assumption)).1)))); done)) | (apply Exists.intro; apply And.intro; (try simp only [List.getElem?_drop, Nat.mul_one, Nat.add_zero, Nat.zero_add]); first | (refine u8s_get ?_; omega) | (refine iS_get ?_; omega) | assumption | rfl | fail) | (apply And.intro; (first | rfl | assumption | exact Nat.le_of_ble_eq_true rfl | omega | (simp <;> fail) | (simp <;> omega) | (focus (repeat' (first | exact one_u8s _ | exact one_iS _ _ | rfl | apply one_take | apply one_drop | apply one_append)); done) | fail)) | fail)) <;> (try (conv => whnf))
      exact ⟨(j + 1, N2, 16 * b), ⟨by show j + 1 ≤ k; omega, c2, hfw3, by show 1 ≤ 16 * b; omega, hb2⟩, by show k - (j + 1) < k - j; omega, ⟨congrArg (AV.int .i64) hdv.symm, rfl, trivial⟩, HLe.refl _⟩

set_option maxRecDepth 8000 in
theorem rForward_c (s : Int) (h1 : -9223372036854775808 ≤ s) (h2 : s ≤ 9223372036854775807) (a : List Int) (hb : a.length ≤ 1000000) (H : AH) :
    ACall Try.prog 22 [.int .i64 s, .cs (iS .i64 a) a.length] H (fun y H' => y = resV (sqR 1099511627776 fwd s a) ∧ H' = H) := by
  obtain ⟨R, hR⟩ : ∃ R, R = sqR 1099511627776 fwd s a := ⟨_, rfl⟩
  rw [← hR]
  unfold sqR at hR
  have hc := fun H => check_c s h1 h2 1099511627776 (by omega) a hb H
  by_cases h : IsSide s ∧ (a.length : Int) = s * s
  · rw [if_pos h] at hR
    simp only [if_pos h] at hc
    obtain ⟨k, hk, rfl⟩ := side_pow h.1
    have hl : a.length = 2 ^ k * 2 ^ k := by have := h.2; rw [← Int.natCast_mul] at this; omega
    by_cases hi : inB 1099511627776 a = true
    · rw [if_pos hi, Int.toNat_natCast, Nat.log2_two_pow] at hR
      simp only [if_pos hi] at hc
      rw [hR]
      exact rForward_ok k hk a hl hi hc H
    · rw [if_neg hi] at hR
      simp only [if_neg hi] at hc
      generalize 2 ^ k = S at *
      refine ACall.told ?_
      refine ACall_of tt_ok (dok _) Try.func22 rfl (by decide) rfl ?_
      (repeat' ((conv => whnf); first | refine Then.mk ?_ | refine OpsA.cons ?_ | refine OpsA.nil ?_ | refine AWq.seq ?_ | refine AWq.region ?_ | refine AWq.cond ?_ | refine AWq.block ?_ | refine AWq.skip ?_ | refine AWq.ret ?_ | refine AWq.exit ?_ | refine AWq.loop ?_ | refine AWq.rangeFunc ?_ | refine DrawA.consD ?_ | refine DrawA.nil ?_ | refine DrawL.consD ?_ | refine DrawL.nil ?_ | refine AWq.draw (by decide +kernel) ?_ | (refine ACall.to (hc _) ?_) | (apply Exists.intro; apply And.intro; exact hc _) | (apply Exists.intro; apply Exists.intro; apply And.intro; exact hc _) | (refine Both.mk ?_ ?_ <;> intro hc <;> (first | exact Bool.noConfusion hc | exact absurd (by with_reducible rfl) hc | exact (hc : False).elim | exact absurd (by assumption) hc | exact absurd hc (by assumption) | (exfalso; omega) | exact absurd hc (by decide) | skip)) | (intro c hc; (try (simp only [AH.none_iff] at hc; repeat (have hn := hc.1; replace hc := hc.2))); (first | (refine i64_k hc ?_ ?_ ?_ ; omega; omega; (clear hc; intro hc; subst hc)) | (refine u64_k hc ?_ ?_ ?_ ; omega; omega; (clear hc; intro hc; subst hc)) | (refine u8_k hc ?_ ?_ ?_ ; omega; omega; (clear hc; intro hc; subst hc)) | subst hc | skip)) | (apply Exists.intro; apply And.intro; (focus (repeat (first | assumption | exact AH.set_same _ _ _ | ((first | refine AH.get_ne ?_ ?_ | refine AH.getd_ne ?_ ?_); (first | assumption | omega | exact Ne.symm (by assumption) | exact AH.ne_none (by assumption) (by assumption) | exact AH.none_ne (by assumption) (by assumption) | exact (AH.none_set (by assumption)).1 | exact Ne.symm (AH.none_set (by assumption)).1)))); done)) | (apply Exists.intro; apply And.intro; (try simp only [List.getElem?_drop, Nat.mul_one, Nat.add_zero, Nat.zero_add]); first | (refine u8s_get ?_; omega) | (refine iS_get ?_; omega) | assumption | rfl | fail) | (apply And.intro; (first | rfl | assumption | exact Nat.le_of_ble_eq_true rfl | omega | (simp <;> fail) | (simp <;> omega) | (focus (repeat' (first | exact one_u8s _ | exact one_iS _ _ | rfl | apply one_take | apply one_drop | apply one_append)); done) | fail)) | fail)) <;> (try (conv => whnf))
      exact res_told hR
  · rw [if_neg h] at hR
    simp only [if_neg h] at hc
    refine ACall.told ?_
    refine ACall_of tt_ok (dok _) Try.func22 rfl (by decide) rfl ?_
    (repeat' ((conv => whnf); first | refine Then.mk ?_ | refine OpsA.cons ?_ | refine OpsA.nil ?_ | refine AWq.seq ?_ | refine AWq.region ?_ | refine AWq.cond ?_ | refine AWq.block ?_ | refine AWq.skip ?_ | refine AWq.ret ?_ | refine AWq.exit ?_ | refine AWq.loop ?_ | refine AWq.rangeFunc ?_ | refine DrawA.consD ?_ | refine DrawA.nil ?_ | refine DrawL.consD ?_ | refine DrawL.nil ?_ | refine AWq.draw (by decide +kernel) ?_ | (refine ACall.to (hc _) ?_) | (apply Exists.intro; apply And.intro; exact hc _) | (apply Exists.intro; apply Exists.intro; apply And.intro; exact hc _) | (refine Both.mk ?_ ?_ <;> intro hc <;> (first | exact Bool.noConfusion hc | exact absurd (by with_reducible rfl) hc | exact (hc : False).elim | exact absurd (by assumption) hc | exact absurd hc (by assumption) | (exfalso; omega) | exact absurd hc (by decide) | skip)) | (intro c hc; (try (simp only [AH.none_iff] at hc; repeat (have hn := hc.1; replace hc := hc.2))); (first | (refine i64_k hc ?_ ?_ ?_ ; omega; omega; (clear hc; intro hc; subst hc)) | (refine u64_k hc ?_ ?_ ?_ ; omega; omega; (clear hc; intro hc; subst hc)) | (refine u8_k hc ?_ ?_ ?_ ; omega; omega; (clear hc; intro hc; subst hc)) | subst hc | skip)) | (apply Exists.intro; apply And.intro; (focus (repeat (first | assumption | exact AH.set_same _ _ _ | ((first | refine AH.get_ne ?_ ?_ | refine AH.getd_ne ?_ ?_); (first | assumption | omega | exact Ne.symm (by assumption) | exact AH.ne_none (by assumption) (by assumption) | exact AH.none_ne (by assumption) (by assumption) | exact (AH.none_set (by assumption)).1 | exact Ne.symm (AH.none_set (by assumption)).1)))); done)) | (apply Exists.intro; apply And.intro; (try simp only [List.getElem?_drop, Nat.mul_one, Nat.add_zero, Nat.zero_add]); first | (refine u8s_get ?_; omega) | (refine iS_get ?_; omega) | assumption | rfl | fail) | (apply And.intro; (first | rfl | assumption | exact Nat.le_of_ble_eq_true rfl | omega | (simp <;> fail) | (simp <;> omega) | (focus (repeat' (first | exact one_u8s _ | exact one_iS _ _ | rfl | apply one_take | apply one_drop | apply one_append)); done) | fail)) | fail)) <;> (try (conv => whnf))
    exact res_told hR

set_option maxRecDepth 8000 in
theorem rInverse_c (s : Int) (h1 : -9223372036854775808 ≤ s) (h2 : s ≤ 9223372036854775807) (a : List Int) (hb : a.length ≤ 1000000) (H : AH) :
    ACall Try.prog 24 [.int .i64 s, .cs (iS .i64 a) a.length] H (fun y H' => y = resV (sqR 4398046511104 inv s a) ∧ H' = H) := by
  obtain ⟨R, hR⟩ : ∃ R, R = sqR 4398046511104 inv s a := ⟨_, rfl⟩
  rw [← hR]
  unfold sqR at hR
  have hc := fun H => check_c s h1 h2 4398046511104 (by omega) a hb H
  by_cases h : IsSide s ∧ (a.length : Int) = s * s
  · rw [if_pos h] at hR
    simp only [if_pos h] at hc
    obtain ⟨k, hk, rfl⟩ := side_pow h.1
    have hl : a.length = 2 ^ k * 2 ^ k := by have := h.2; rw [← Int.natCast_mul] at this; omega
    by_cases hi : inB 4398046511104 a = true
    · rw [if_pos hi, Int.toNat_natCast, Nat.log2_two_pow] at hR
      simp only [if_pos hi] at hc
      rw [hR]
      exact rInverse_ok k hk a hl hi hc H
    · rw [if_neg hi] at hR
      simp only [if_neg hi] at hc
      generalize 2 ^ k = S at *
      refine ACall.told ?_
      refine ACall_of tt_ok (dok _) Try.func24 rfl (by decide) rfl ?_
      (repeat' ((conv => whnf); first | refine Then.mk ?_ | refine OpsA.cons ?_ | refine OpsA.nil ?_ | refine AWq.seq ?_ | refine AWq.region ?_ | refine AWq.cond ?_ | refine AWq.block ?_ | refine AWq.skip ?_ | refine AWq.ret ?_ | refine AWq.exit ?_ | refine AWq.loop ?_ | refine AWq.rangeFunc ?_ | refine DrawA.consD ?_ | refine DrawA.nil ?_ | refine DrawL.consD ?_ | refine DrawL.nil ?_ | refine AWq.draw (by decide +kernel) ?_ | (refine ACall.to (hc _) ?_) | (apply Exists.intro; apply And.intro; exact hc _) | (apply Exists.intro; apply Exists.intro; apply And.intro; exact hc _) | (refine Both.mk ?_ ?_ <;> intro hc <;> (first | exact Bool.noConfusion hc | exact absurd (by with_reducible rfl) hc | exact (hc : False).elim | exact absurd (by assumption) hc | exact absurd hc (by assumption) | (exfalso; omega) | exact absurd hc (by decide) | skip)) | (intro c hc; (try (simp only [AH.none_iff] at hc; repeat (have hn := hc.1; replace hc := hc.2))); (first | (refine i64_k hc ?_ ?_ ?_ ; omega; omega; (clear hc; intro hc; subst hc)) | (refine u64_k hc ?_ ?_ ?_ ; omega; omega; (clear hc; intro hc; subst hc)) | (refine u8_k hc ?_ ?_ ?_ ; omega; omega; (clear hc; intro hc; subst hc)) | subst hc | skip)) | (apply Exists.intro; apply And.intro; (focus (repeat (first | assumption | exact AH.set_same _ _ _ | ((first | refine AH.get_ne ?_ ?_ | refine AH.getd_ne ?_ ?_); (first | assumption | omega | exact Ne.symm (by assumption) | exact AH.ne_none (by assumption) (by assumption) | exact AH.none_ne (by assumption) (by assumption) | exact (AH.none_set (by assumption)).1 | exact Ne.symm (AH.none_set (by assumption)).1)))); done)) | (apply Exists.intro; apply And.intro; (try simp only [List.getElem?_drop, Nat.mul_one, Nat.add_zero, Nat.zero_add]); first | (refine u8s_get ?_; omega) | (refine iS_get ?_; omega) | assumption | rfl | fail) | (apply And.intro; (first | rfl | assumption | exact Nat.le_of_ble_eq_true rfl | omega | (simp <;> fail) | (simp <;> omega) | (focus (repeat' (first | exact one_u8s _ | exact one_iS _ _ | rfl | apply one_take | apply one_drop | apply one_append)); done) | fail)) | fail)) <;> (try (conv => whnf))
      exact res_told hR
  · rw [if_neg h] at hR
    simp only [if_neg h] at hc
    refine ACall.told ?_
    refine ACall_of tt_ok (dok _) Try.func24 rfl (by decide) rfl ?_
    (repeat' ((conv => whnf); first | refine Then.mk ?_ | refine OpsA.cons ?_ | refine OpsA.nil ?_ | refine AWq.seq ?_ | refine AWq.region ?_ | refine AWq.cond ?_ | refine AWq.block ?_ | refine AWq.skip ?_ | refine AWq.ret ?_ | refine AWq.exit ?_ | refine AWq.loop ?_ | refine AWq.rangeFunc ?_ | refine DrawA.consD ?_ | refine DrawA.nil ?_ | refine DrawL.consD ?_ | refine DrawL.nil ?_ | refine AWq.draw (by decide +kernel) ?_ | (refine ACall.to (hc _) ?_) | (apply Exists.intro; apply And.intro; exact hc _) | (apply Exists.intro; apply Exists.intro; apply And.intro; exact hc _) | (refine Both.mk ?_ ?_ <;> intro hc <;> (first | exact Bool.noConfusion hc | exact absurd (by with_reducible rfl) hc | exact (hc : False).elim | exact absurd (by assumption) hc | exact absurd hc (by assumption) | (exfalso; omega) | exact absurd hc (by decide) | skip)) | (intro c hc; (try (simp only [AH.none_iff] at hc; repeat (have hn := hc.1; replace hc := hc.2))); (first | (refine i64_k hc ?_ ?_ ?_ ; omega; omega; (clear hc; intro hc; subst hc)) | (refine u64_k hc ?_ ?_ ?_ ; omega; omega; (clear hc; intro hc; subst hc)) | (refine u8_k hc ?_ ?_ ?_ ; omega; omega; (clear hc; intro hc; subst hc)) | subst hc | skip)) | (apply Exists.intro; apply And.intro; (focus (repeat (first | assumption | exact AH.set_same _ _ _ | ((first | refine AH.get_ne ?_ ?_ | refine AH.getd_ne ?_ ?_); (first | assumption | omega | exact Ne.symm (by assumption) | exact AH.ne_none (by assumption) (by assumption) | exact AH.none_ne (by assumption) (by assumption) | exact (AH.none_set (by assumption)).1 | exact Ne.symm (AH.none_set (by assumption)).1)))); done)) | (apply Exists.intro; apply And.intro; (try simp only [List.getElem?_drop, Nat.mul_one, Nat.add_zero, Nat.zero_add]); first | (refine u8s_get ?_; omega) | (refine iS_get ?_; omega) | assumption | rfl | fail) | (apply And.intro; (first | rfl | assumption | exact Nat.le_of_ble_eq_true rfl | omega | (simp <;> fail) | (simp <;> omega) | (focus (repeat' (first | exact one_u8s _ | exact one_iS _ _ | rfl | apply one_take | apply one_drop | apply one_append)); done) | fail)) | fail)) <;> (try (conv => whnf))
    exact res_told hR
end Go.Proofs.Ytajmabnnaidhkaa
