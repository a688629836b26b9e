/- The walks of package wavelet: lines, transformed. -/
import Derived.Test.YtajmabnnaidhkaaWaveA
namespace Go.Proofs.Ytajmabnnaidhkaa
open Go.Fw Go
set_option linter.unusedVariables false
set_option linter.unusedSimpArgs false

set_option maxRecDepth 8000 in
theorem split_k (n : Nat) (hn : n ≤ 4096) (h2 : n % 2 = 0) (X : Ln) (hX : ∀ c, c < n → -2305843009213693952 ≤ X c ∧ X c ≤ 2305843009213693952) (cells : List AV) (H : AH) (hlen : cells.length = n) (hg : ∀ i, i < n → cells[i]? = some (.int .i64 (X i))) :
    ACall Try.prog 38 [.cs cells n] H (fun y H' => y = .cs (iL n (spl n X)) n ∧ H' = H) := by
  refine ACall.coldX (es := 1) (Q := fun H' => H' = H) (by rw [iL_len]; omega) ?_
  have hdiv : (n : Int).tdiv 2 = ((n / 2 : Nat) : Int) := by rw [Int.tdiv_eq_ediv_of_nonneg (by omega)]; omega
  refine ACall_of tt_ok (dok _) Try.func38 rfl (by decide) rfl ?_
  (repeat' ((conv => whnf); first | refine Then.mk ?_ | left | refine OpsA.cons ?_ | refine OpsA.nil ?_ | refine AWq.seq ?_ | refine AWq.region ?_ | refine AWq.cond ?_ | refine AWq.block ?_ | refine AWq.skip ?_ | refine AWq.ret ?_ | refine AWq.exit ?_ | refine AWq.loop ?_ | refine AWq.rangeFunc ?_ | refine DrawA.consD ?_ | refine DrawA.nil ?_ | refine DrawL.consD ?_ | refine DrawL.nil ?_ | refine AWq.draw (by decide +kernel) ?_ | (refine Both.mk ?_ ?_ <;> intro hc <;> (first | exact Bool.noConfusion hc | exact absurd (by with_reducible rfl) hc | exact (hc : False).elim | exact absurd (by assumption) hc | exact absurd hc (by assumption) | (exfalso; omega) | exact absurd hc (by decide) | skip)) | (intro c hc; (try (simp only [AH.none_iff] at hc; repeat (have hn := hc.1; replace hc := hc.2))); (first | (refine i64_k hc ?_ ?_ ?_ ; omega; omega; (clear hc; intro hc; subst hc)) | (refine u64_k hc ?_ ?_ ?_ ; omega; omega; (clear hc; intro hc; subst hc)) | (refine u8_k hc ?_ ?_ ?_ ; omega; omega; (clear hc; intro hc; subst hc)) | subst hc | skip)) | (apply Exists.intro; apply And.intro; (focus (repeat (first | assumption | exact AH.set_same _ _ _ | ((first | refine AH.get_ne ?_ ?_ | refine AH.getd_ne ?_ ?_); (first | assumption | omega | exact Ne.symm (by assumption) | exact AH.ne_none (by assumption) (by assumption) | exact AH.none_ne (by assumption) (by assumption) | exact (AH.none_set (by assumption)).1 | exact Ne.symm (AH.none_set (by assumption)).1)))); done)) | (apply Exists.intro; apply And.intro; (try simp only [List.getElem?_drop, Nat.mul_one, Nat.add_zero, Nat.zero_add]); first | (refine u8s_get ?_; omega) | (refine iS_get ?_; omega) | assumption | rfl | fail) | (apply And.intro; (first | rfl | assumption | exact Nat.le_of_ble_eq_true rfl | omega | (simp <;> fail) | (simp <;> omega) | (focus (repeat' (first | exact one_u8s _ | exact one_iS _ _ | rfl | apply one_take | apply one_drop | apply one_append)); done) | fail)) | fail)) <;> (try (conv => whnf))
  have hc0 : H c = none := by assumption
  obtain ⟨w, hw⟩ : ∃ w, w = c := ⟨_, rfl⟩
  rw [← hw] at hc0 ⊢
  clear hw
  refine AWp_loop (σ := Nat) (5 :: 6 :: 7 :: 15 :: 16 :: 17 :: 18 :: 19 :: 20 :: 21 :: 22 :: 23 :: 24 :: 25 :: 26 :: 27 :: 28 :: 29 :: 30 :: 31 :: 32 :: 33 :: 34 :: 35 :: 36 :: 37 :: 38 :: 39 :: 40 :: 41 :: 42 :: 43 :: 44 :: []) (fun i => [(15, .int .i64 i)]) (fun i => H.set w (.row (iL n (fun k => if k < i ∨ (n / 2 ≤ k ∧ k < n / 2 + i) then spl n X k else 0)) 0)) (fun i => i ≤ n / 2) (fun i => n / 2 - i) 0 rfl ?_ ?_ ?_ ?_
  · exact Nat.zero_le _
  · exact ⟨rfl, trivial⟩
  · refine HLe.of_eq (congrArg (fun l => H.set w (.row l 0)) ?_)
    refine Eq.trans (iL_congr fun k hk => ?_) (iL_zero n).symm
    rw [if_neg (by omega)]
  · rintro i hi
    refine AWp.of tt_ok (dok _) rfl ?_
    by_cases h : i < n / 2
    · have k1 : cells[(2 * (i : Int)).toNat]? = some (.int .i64 (X (2 * i))) := by rw [show (2 * (i : Int)).toNat = 2 * i by omega]; exact hg _ (by omega)
      have k2 : cells[(2 * (i : Int) + 1).toNat]? = some (.int .i64 (X (2 * i + 1))) := by rw [show (2 * (i : Int) + 1).toNat = 2 * i + 1 by omega]; exact hg _ (by omega)
      have b1 := hX (2 * i) (by omega)
      have b2 := hX (2 * i + 1) (by omega)
      have hh := fun H => half_c (X (2 * i) + X (2 * i + 1)) H
      have hl : ∀ Y : Ln, (iL n Y).length = n := fun Y => iL_len n Y
      (repeat' ((conv => whnf); first | refine Then.mk ?_ | left | refine OpsA.cons ?_ | refine OpsA.nil ?_ | refine AWq.seq ?_ | refine AWq.region ?_ | refine AWq.cond ?_ | refine AWq.block ?_ | refine AWq.skip ?_ | refine AWq.ret ?_ | refine AWq.exit ?_ | refine AWq.loop ?_ | refine AWq.rangeFunc ?_ | refine DrawA.consD ?_ | refine DrawA.nil ?_ | refine DrawL.consD ?_ | refine DrawL.nil ?_ | refine AWq.draw (by decide +kernel) ?_ | (refine ACall.to (hh _) ?_) | (apply Exists.intro; apply And.intro; exact hh _) | (apply Exists.intro; apply Exists.intro; apply And.intro; exact hh _) | (refine Both.mk ?_ ?_ <;> intro hc <;> (first | exact Bool.noConfusion hc | exact absurd (by with_reducible rfl) hc | exact (hc : False).elim | exact absurd (by assumption) hc | exact absurd hc (by assumption) | (exfalso; omega) | exact absurd hc (by decide) | skip)) | (intro c hc; (try (simp only [AH.none_iff] at hc; repeat (have hn := hc.1; replace hc := hc.2))); (first | (refine i64_k hc ?_ ?_ ?_ ; omega; omega; (clear hc; intro hc; subst hc)) | (refine u64_k hc ?_ ?_ ?_ ; omega; omega; (clear hc; intro hc; subst hc)) | (refine u8_k hc ?_ ?_ ?_ ; omega; omega; (clear hc; intro hc; subst hc)) | subst hc | skip)) | (apply Exists.intro; apply And.intro; (focus (repeat (first | assumption | exact AH.set_same _ _ _ | ((first | refine AH.get_ne ?_ ?_ | refine AH.getd_ne ?_ ?_); (first | assumption | omega | exact Ne.symm (by assumption) | exact AH.ne_none (by assumption) (by assumption) | exact AH.none_ne (by assumption) (by assumption) | exact (AH.none_set (by assumption)).1 | exact Ne.symm (AH.none_set (by assumption)).1)))); done)) | (apply Exists.intro; apply And.intro; (try simp only [List.getElem?_drop, Nat.mul_one, Nat.add_zero, Nat.zero_add]); first | (refine u8s_get ?_; omega) | (refine iS_get ?_; omega) | assumption | rfl | fail) | (apply And.intro; (first | rfl | assumption | exact Nat.le_of_ble_eq_true rfl | omega | (simp <;> fail) | (simp <;> omega) | (focus (repeat' (first | exact one_u8s _ | exact one_iS _ _ | rfl | apply one_take | apply one_drop | apply one_append)); done) | fail)) | fail)) <;> (try (conv => whnf))
      refine ⟨i + 1, by omega, by omega, ⟨congrArg (AV.int .i64) (by omega), trivial⟩, HLe.of_eq (Eq.symm ((AH.set_set _ _ _ _).trans ((AH.set_set _ _ _ _).trans ?_)))⟩
      refine congrArg (fun l => H.set w (.row l 0)) ?_
      show wrA (wrA (iL n _) (0 + (i : Int).toNat * 1) [AV.int .i64 ((X (2 * i) + X (2 * i + 1)) / 2)]) (0 + ((n : Int).tdiv 2 + (i : Int)).toNat * 1) [AV.int .i64 (X (2 * i) - X (2 * i + 1))] = _
      rw [show (0 + (i : Int).toNat * 1) = i by omega, show (0 + ((n : Int).tdiv 2 + (i : Int)).toNat * 1) = n / 2 + i by omega, iL_wr _ (by omega), iL_wr _ (by omega)]
      refine iL_congr fun k hk => ?_
      by_cases e1 : k = n / 2 + i
      · subst e1
        rw [if_pos rfl, if_pos (by omega)]
        unfold spl
        rw [if_neg (by omega), show n / 2 + i - n / 2 = i by omega]
      · rw [if_neg e1]
        by_cases e2 : k = i
        · subst e2
          rw [if_pos rfl, if_pos (by omega)]
          unfold spl
          rw [if_pos h]
        · rw [if_neg e2]
          by_cases e3 : k < i ∨ (n / 2 ≤ k ∧ k < n / 2 + i)
          · rw [if_pos e3, if_pos (by omega)]
          · rw [if_neg e3, if_neg (by omega)]
    · have he : i = n / 2 := by omega
      subst he
      (repeat' ((conv => whnf); first | refine Then.mk ?_ | refine OpsA.cons ?_ | refine OpsA.nil ?_ | refine AWq.seq ?_ | refine AWq.region ?_ | refine AWq.cond ?_ | refine AWq.block ?_ | refine AWq.skip ?_ | refine AWq.ret ?_ | refine AWq.exit ?_ | refine AWq.loop ?_ | refine AWq.rangeFunc ?_ | refine DrawA.consD ?_ | refine DrawA.nil ?_ | refine DrawL.consD ?_ | refine DrawL.nil ?_ | refine AWq.draw (by decide +kernel) ?_ | (refine Both.mk ?_ ?_ <;> intro hc <;> (first | exact Bool.noConfusion hc | exact absurd (by with_reducible rfl) hc | exact (hc : False).elim | exact absurd (by assumption) hc | exact absurd hc (by assumption) | (exfalso; omega) | exact absurd hc (by decide) | skip)) | (intro c hc; (try (simp only [AH.none_iff] at hc; repeat (have hn := hc.1; replace hc := hc.2))); (first | (refine i64_k hc ?_ ?_ ?_ ; omega; omega; (clear hc; intro hc; subst hc)) | (refine u64_k hc ?_ ?_ ?_ ; omega; omega; (clear hc; intro hc; subst hc)) | (refine u8_k hc ?_ ?_ ?_ ; omega; omega; (clear hc; intro hc; subst hc)) | subst hc | skip)) | (apply Exists.intro; apply And.intro; (focus (repeat (first | assumption | exact AH.set_same _ _ _ | ((first | refine AH.get_ne ?_ ?_ | refine AH.getd_ne ?_ ?_); (first | assumption | omega | exact Ne.symm (by assumption) | exact AH.ne_none (by assumption) (by assumption) | exact AH.none_ne (by assumption) (by assumption) | exact (AH.none_set (by assumption)).1 | exact Ne.symm (AH.none_set (by assumption)).1)))); done)) | (apply Exists.intro; apply And.intro; (try simp only [List.getElem?_drop, Nat.mul_one, Nat.add_zero, Nat.zero_add]); first | (refine u8s_get ?_; omega) | (refine iS_get ?_; omega) | assumption | rfl | fail) | (apply And.intro; (first | rfl | assumption | exact Nat.le_of_ble_eq_true rfl | omega | (simp <;> fail) | (simp <;> omega) | (focus (repeat' (first | exact one_u8s _ | exact one_iS _ _ | rfl | apply one_take | apply one_drop | apply one_append)); done) | fail)) | fail)) <;> (try (conv => whnf))
      exact .inr ⟨w, hc0, 0, rfl, congrArg (fun l => H.set w (.row l 0)) (iL_congr fun k hk => if_pos (by omega))⟩

set_option maxRecDepth 8000 in
theorem split_w (n : Nat) (hn : n ≤ 4096) (h2 : n % 2 = 0) (X : Ln) (hX : ∀ c, c < n → -2305843009213693952 ≤ X c ∧ X c ≤ 2305843009213693952) (cells : List AV) (q u off : Nat) (lim : Option Nat) (H : AH) (hq : H q = some (.row cells u)) (hg : ∀ i, i < n → cells[off + i]? = some (.int .i64 (X i))) :
    ACall Try.prog 38 [.sl q u 1 off n lim] H (fun y H' => y = .cs (iL n (spl n X)) n ∧ H' = H) := by
  refine ACall.coldX (es := 1) (Q := fun H' => H' = H) (by rw [iL_len]; omega) ?_
  have hdiv : (n : Int).tdiv 2 = ((n / 2 : Nat) : Int) := by rw [Int.tdiv_eq_ediv_of_nonneg (by omega)]; omega
  refine ACall_of tt_ok (dok _) Try.func38 rfl (by decide) rfl ?_
  (repeat' ((conv => whnf); first | refine Then.mk ?_ | left | refine OpsA.cons ?_ | refine OpsA.nil ?_ | refine AWq.seq ?_ | refine AWq.region ?_ | refine AWq.cond ?_ | refine AWq.block ?_ | refine AWq.skip ?_ | refine AWq.ret ?_ | refine AWq.exit ?_ | refine AWq.loop ?_ | refine AWq.rangeFunc ?_ | refine DrawA.consD ?_ | refine DrawA.nil ?_ | refine DrawL.consD ?_ | refine DrawL.nil ?_ | refine AWq.draw (by decide +kernel) ?_ | (refine Both.mk ?_ ?_ <;> intro hc <;> (first | exact Bool.noConfusion hc | exact absurd (by with_reducible rfl) hc | exact (hc : False).elim | exact absurd (by assumption) hc | exact absurd hc (by assumption) | (exfalso; omega) | exact absurd hc (by decide) | skip)) | (intro c hc; (try (simp only [AH.none_iff] at hc; repeat (have hn := hc.1; replace hc := hc.2))); (first | (refine i64_k hc ?_ ?_ ?_ ; omega; omega; (clear hc; intro hc; subst hc)) | (refine u64_k hc ?_ ?_ ?_ ; omega; omega; (clear hc; intro hc; subst hc)) | (refine u8_k hc ?_ ?_ ?_ ; omega; omega; (clear hc; intro hc; subst hc)) | subst hc | skip)) | (apply Exists.intro; apply And.intro; (focus (repeat (first | assumption | exact AH.set_same _ _ _ | ((first | refine AH.get_ne ?_ ?_ | refine AH.getd_ne ?_ ?_); (first | assumption | omega | exact Ne.symm (by assumption) | exact AH.ne_none (by assumption) (by assumption) | exact AH.none_ne (by assumption) (by assumption) | exact (AH.none_set (by assumption)).1 | exact Ne.symm (AH.none_set (by assumption)).1)))); done)) | (apply Exists.intro; apply And.intro; (try simp only [List.getElem?_drop, Nat.mul_one, Nat.add_zero, Nat.zero_add]); first | (refine u8s_get ?_; omega) | (refine iS_get ?_; omega) | assumption | rfl | fail) | (apply And.intro; (first | rfl | assumption | exact Nat.le_of_ble_eq_true rfl | omega | (simp <;> fail) | (simp <;> omega) | (focus (repeat' (first | exact one_u8s _ | exact one_iS _ _ | rfl | apply one_take | apply one_drop | apply one_append)); done) | fail)) | fail)) <;> (try (conv => whnf))
  have hc0 : H c = none := by assumption
  obtain ⟨w, hw⟩ : ∃ w, w = c := ⟨_, rfl⟩
  rw [← hw] at hc0 ⊢
  clear hw
  refine AWp_loop (σ := Nat) (5 :: 6 :: 7 :: 15 :: 16 :: 17 :: 18 :: 19 :: 20 :: 21 :: 22 :: 23 :: 24 :: 25 :: 26 :: 27 :: 28 :: 29 :: 30 :: 31 :: 32 :: 33 :: 34 :: 35 :: 36 :: 37 :: 38 :: 39 :: 40 :: 41 :: 42 :: 43 :: 44 :: []) (fun i => [(15, .int .i64 i)]) (fun i => H.set w (.row (iL n (fun k => if k < i ∨ (n / 2 ≤ k ∧ k < n / 2 + i) then spl n X k else 0)) 0)) (fun i => i ≤ n / 2) (fun i => n / 2 - i) 0 rfl ?_ ?_ ?_ ?_
  · exact Nat.zero_le _
  · exact ⟨rfl, trivial⟩
  · refine HLe.of_eq (congrArg (fun l => H.set w (.row l 0)) ?_)
    refine Eq.trans (iL_congr fun k hk => ?_) (iL_zero n).symm
    rw [if_neg (by omega)]
  · rintro i hi
    refine AWp.of tt_ok (dok _) rfl ?_
    by_cases h : i < n / 2
    · have k1 : cells[off + (2 * (i : Int)).toNat]? = some (.int .i64 (X (2 * i))) := by rw [show (2 * (i : Int)).toNat = 2 * i by omega]; exact hg _ (by omega)
      have k2 : cells[off + (2 * (i : Int) + 1).toNat]? = some (.int .i64 (X (2 * i + 1))) := by rw [show (2 * (i : Int) + 1).toNat = 2 * i + 1 by omega]; exact hg _ (by omega)
      have b1 := hX (2 * i) (by omega)
      have b2 := hX (2 * i + 1) (by omega)
      have hh := fun H => half_c (X (2 * i) + X (2 * i + 1)) H
      have hl : ∀ Y : Ln, (iL n Y).length = n := fun Y => iL_len n Y
      (repeat' ((conv => whnf); first | refine Then.mk ?_ | left | refine OpsA.cons ?_ | refine OpsA.nil ?_ | refine AWq.seq ?_ | refine AWq.region ?_ | refine AWq.cond ?_ | refine AWq.block ?_ | refine AWq.skip ?_ | refine AWq.ret ?_ | refine AWq.exit ?_ | refine AWq.loop ?_ | refine AWq.rangeFunc ?_ | refine DrawA.consD ?_ | refine DrawA.nil ?_ | refine DrawL.consD ?_ | refine DrawL.nil ?_ | refine AWq.draw (by decide +kernel) ?_ | (refine ACall.to (hh _) ?_) | (apply Exists.intro; apply And.intro; exact hh _) | (apply Exists.intro; apply Exists.intro; apply And.intro; exact hh _) | (refine Both.mk ?_ ?_ <;> intro hc <;> (first | exact Bool.noConfusion hc | exact absurd (by with_reducible rfl) hc | exact (hc : False).elim | exact absurd (by assumption) hc | exact absurd hc (by assumption) | (exfalso; omega) | exact absurd hc (by decide) | skip)) | (intro c hc; (try (simp only [AH.none_iff] at hc; repeat (have hn := hc.1; replace hc := hc.2))); (first | (refine i64_k hc ?_ ?_ ?_ ; omega; omega; (clear hc; intro hc; subst hc)) | (refine u64_k hc ?_ ?_ ?_ ; omega; omega; (clear hc; intro hc; subst hc)) | (refine u8_k hc ?_ ?_ ?_ ; omega; omega; (clear hc; intro hc; subst hc)) | subst hc | skip)) | (apply Exists.intro; apply And.intro; (focus (repeat (first | assumption | exact AH.set_same _ _ _ | ((first | refine AH.get_ne ?_ ?_ | refine AH.getd_ne ?_ ?_); (first | assumption | omega | exact Ne.symm (by assumption) | exact AH.ne_none (by assumption) (by assumption) | exact AH.none_ne (by assumption) (by assumption) | exact (AH.none_set (by assumption)).1 | exact Ne.symm (AH.none_set (by assumption)).1)))); done)) | (apply Exists.intro; apply And.intro; (try simp only [List.getElem?_drop, Nat.mul_one, Nat.add_zero, Nat.zero_add]); first | (refine u8s_get ?_; omega) | (refine iS_get ?_; omega) | assumption | rfl | fail) | (apply And.intro; (first | rfl | assumption | exact Nat.le_of_ble_eq_true rfl | omega | (simp <;> fail) | (simp <;> omega) | (focus (repeat' (first | exact one_u8s _ | exact one_iS _ _ | rfl | apply one_take | apply one_drop | apply one_append)); done) | fail)) | fail)) <;> (try (conv => whnf))
      refine ⟨i + 1, by omega, by omega, ⟨congrArg (AV.int .i64) (by omega), trivial⟩, HLe.of_eq (Eq.symm ((AH.set_set _ _ _ _).trans ((AH.set_set _ _ _ _).trans ?_)))⟩
      refine congrArg (fun l => H.set w (.row l 0)) ?_
      show wrA (wrA (iL n _) (0 + (i : Int).toNat * 1) [AV.int .i64 ((X (2 * i) + X (2 * i + 1)) / 2)]) (0 + ((n : Int).tdiv 2 + (i : Int)).toNat * 1) [AV.int .i64 (X (2 * i) - X (2 * i + 1))] = _
      rw [show (0 + (i : Int).toNat * 1) = i by omega, show (0 + ((n : Int).tdiv 2 + (i : Int)).toNat * 1) = n / 2 + i by omega, iL_wr _ (by omega), iL_wr _ (by omega)]
      refine iL_congr fun k hk => ?_
      by_cases e1 : k = n / 2 + i
      · subst e1
        rw [if_pos rfl, if_pos (by omega)]
        unfold spl
        rw [if_neg (by omega), show n / 2 + i - n / 2 = i by omega]
      · rw [if_neg e1]
        by_cases e2 : k = i
        · subst e2
          rw [if_pos rfl, if_pos (by omega)]
          unfold spl
          rw [if_pos h]
        · rw [if_neg e2]
          by_cases e3 : k < i ∨ (n / 2 ≤ k ∧ k < n / 2 + i)
          · rw [if_pos e3, if_pos (by omega)]
          · rw [if_neg e3, if_neg (by omega)]
    · have he : i = n / 2 := by omega
      subst he
      (repeat' ((conv => whnf); first | refine Then.mk ?_ | refine OpsA.cons ?_ | refine OpsA.nil ?_ | refine AWq.seq ?_ | refine AWq.region ?_ | refine AWq.cond ?_ | refine AWq.block ?_ | refine AWq.skip ?_ | refine AWq.ret ?_ | refine AWq.exit ?_ | refine AWq.loop ?_ | refine AWq.rangeFunc ?_ | refine DrawA.consD ?_ | refine DrawA.nil ?_ | refine DrawL.consD ?_ | refine DrawL.nil ?_ | refine AWq.draw (by decide +kernel) ?_ | (refine Both.mk ?_ ?_ <;> intro hc <;> (first | exact Bool.noConfusion hc | exact absurd (by with_reducible rfl) hc | exact (hc : False).elim | exact absurd (by assumption) hc | exact absurd hc (by assumption) | (exfalso; omega) | exact absurd hc (by decide) | skip)) | (intro c hc; (try (simp only [AH.none_iff] at hc; repeat (have hn := hc.1; replace hc := hc.2))); (first | (refine i64_k hc ?_ ?_ ?_ ; omega; omega; (clear hc; intro hc; subst hc)) | (refine u64_k hc ?_ ?_ ?_ ; omega; omega; (clear hc; intro hc; subst hc)) | (refine u8_k hc ?_ ?_ ?_ ; omega; omega; (clear hc; intro hc; subst hc)) | subst hc | skip)) | (apply Exists.intro; apply And.intro; (focus (repeat (first | assumption | exact AH.set_same _ _ _ | ((first | refine AH.get_ne ?_ ?_ | refine AH.getd_ne ?_ ?_); (first | assumption | omega | exact Ne.symm (by assumption) | exact AH.ne_none (by assumption) (by assumption) | exact AH.none_ne (by assumption) (by assumption) | exact (AH.none_set (by assumption)).1 | exact Ne.symm (AH.none_set (by assumption)).1)))); done)) | (apply Exists.intro; apply And.intro; (try simp only [List.getElem?_drop, Nat.mul_one, Nat.add_zero, Nat.zero_add]); first | (refine u8s_get ?_; omega) | (refine iS_get ?_; omega) | assumption | rfl | fail) | (apply And.intro; (first | rfl | assumption | exact Nat.le_of_ble_eq_true rfl | omega | (simp <;> fail) | (simp <;> omega) | (focus (repeat' (first | exact one_u8s _ | exact one_iS _ _ | rfl | apply one_take | apply one_drop | apply one_append)); done) | fail)) | fail)) <;> (try (conv => whnf))
      exact .inr ⟨w, hc0, 0, rfl, congrArg (fun l => H.set w (.row l 0)) (iL_congr fun k hk => if_pos (by omega))⟩

set_option maxRecDepth 8000 in
theorem join_k (n : Nat) (hn : n ≤ 4096) (h2 : n % 2 = 0) (X : Ln) (hX : ∀ c, c < n → -1152921504606846976 ≤ X c ∧ X c ≤ 1152921504606846976) (cells : List AV) (H : AH) (hlen : cells.length = n) (hg : ∀ i, i < n → cells[i]? = some (.int .i64 (X i))) :
    ACall Try.prog 43 [.cs cells n] H (fun y H' => y = .cs (iL n (joi n X)) n ∧ H' = H) := by
  refine ACall.coldX (es := 1) (Q := fun H' => H' = H) (by rw [iL_len]; omega) ?_
  have hdiv : (n : Int).tdiv 2 = ((n / 2 : Nat) : Int) := by rw [Int.tdiv_eq_ediv_of_nonneg (by omega)]; omega
  refine ACall_of tt_ok (dok _) Try.func43 rfl (by decide) rfl ?_
  (repeat' ((conv => whnf); first | refine Then.mk ?_ | left | refine OpsA.cons ?_ | refine OpsA.nil ?_ | refine AWq.seq ?_ | refine AWq.region ?_ | refine AWq.cond ?_ | refine AWq.block ?_ | refine AWq.skip ?_ | refine AWq.ret ?_ | refine AWq.exit ?_ | refine AWq.loop ?_ | refine AWq.rangeFunc ?_ | refine DrawA.consD ?_ | refine DrawA.nil ?_ | refine DrawL.consD ?_ | refine DrawL.nil ?_ | refine AWq.draw (by decide +kernel) ?_ | (refine Both.mk ?_ ?_ <;> intro hc <;> (first | exact Bool.noConfusion hc | exact absurd (by with_reducible rfl) hc | exact (hc : False).elim | exact absurd (by assumption) hc | exact absurd hc (by assumption) | (exfalso; omega) | exact absurd hc (by decide) | skip)) | (intro c hc; (try (simp only [AH.none_iff] at hc; repeat (have hn := hc.1; replace hc := hc.2))); (first | (refine i64_k hc ?_ ?_ ?_ ; omega; omega; (clear hc; intro hc; subst hc)) | (refine u64_k hc ?_ ?_ ?_ ; omega; omega; (clear hc; intro hc; subst hc)) | (refine u8_k hc ?_ ?_ ?_ ; omega; omega; (clear hc; intro hc; subst hc)) | subst hc | skip)) | (apply Exists.intro; apply And.intro; (focus (repeat (first | assumption | exact AH.set_same _ _ _ | ((first | refine AH.get_ne ?_ ?_ | refine AH.getd_ne ?_ ?_); (first | assumption | omega | exact Ne.symm (by assumption) | exact AH.ne_none (by assumption) (by assumption) | exact AH.none_ne (by assumption) (by assumption) | exact (AH.none_set (by assumption)).1 | exact Ne.symm (AH.none_set (by assumption)).1)))); done)) | (apply Exists.intro; apply And.intro; (try simp only [List.getElem?_drop, Nat.mul_one, Nat.add_zero, Nat.zero_add]); first | (refine u8s_get ?_; omega) | (refine iS_get ?_; omega) | assumption | rfl | fail) | (apply And.intro; (first | rfl | assumption | exact Nat.le_of_ble_eq_true rfl | omega | (simp <;> fail) | (simp <;> omega) | (focus (repeat' (first | exact one_u8s _ | exact one_iS _ _ | rfl | apply one_take | apply one_drop | apply one_append)); done) | fail)) | fail)) <;> (try (conv => whnf))
  have hc0 : H c = none := by assumption
  obtain ⟨w, hw⟩ : ∃ w, w = c := ⟨_, rfl⟩
  rw [← hw] at hc0 ⊢
  clear hw
  refine AWp_loop (σ := Nat) (5 :: 6 :: 14 :: 15 :: 16 :: 17 :: 18 :: 19 :: 20 :: 21 :: 22 :: 23 :: 24 :: 25 :: 26 :: 27 :: 28 :: 29 :: 30 :: 31 :: 32 :: 33 :: 34 :: 35 :: 36 :: 37 :: 38 :: 39 :: 40 :: 41 :: 42 :: 43 :: 44 :: 45 :: 46 :: 47 :: 48 :: []) (fun i => [(14, .int .i64 i)]) (fun i => H.set w (.row (iL n (fun k => if k < 2 * i then joi n X k else 0)) 0)) (fun i => i ≤ n / 2) (fun i => n / 2 - i) 0 rfl ?_ ?_ ?_ ?_
  · exact Nat.zero_le _
  · exact ⟨rfl, trivial⟩
  · refine HLe.of_eq (congrArg (fun l => H.set w (.row l 0)) ?_)
    refine Eq.trans (iL_congr fun k hk => ?_) (iL_zero n).symm
    rw [if_neg (by omega)]
  · rintro i hi
    refine AWp.of tt_ok (dok _) rfl ?_
    by_cases h : i < n / 2
    · have k1 : cells[(i : Int).toNat]? = some (.int .i64 (X i)) := by rw [Int.toNat_natCast]; exact hg _ (by omega)
      have k2 : cells[((n : Int).tdiv 2 + (i : Int)).toNat]? = some (.int .i64 (X (n / 2 + i))) := by rw [show ((n : Int).tdiv 2 + (i : Int)).toNat = n / 2 + i by omega]; exact hg _ (by omega)
      have b1 := hX i (by omega)
      have b2 := hX (n / 2 + i) (by omega)
      have hh := fun H => half_c (X (n / 2 + i) + 1) H
      have hl : ∀ Y : Ln, (iL n Y).length = n := fun Y => iL_len n Y
      (repeat' ((conv => whnf); first | refine Then.mk ?_ | left | refine OpsA.cons ?_ | refine OpsA.nil ?_ | refine AWq.seq ?_ | refine AWq.region ?_ | refine AWq.cond ?_ | refine AWq.block ?_ | refine AWq.skip ?_ | refine AWq.ret ?_ | refine AWq.exit ?_ | refine AWq.loop ?_ | refine AWq.rangeFunc ?_ | refine DrawA.consD ?_ | refine DrawA.nil ?_ | refine DrawL.consD ?_ | refine DrawL.nil ?_ | refine AWq.draw (by decide +kernel) ?_ | (refine ACall.to (hh _) ?_) | (apply Exists.intro; apply And.intro; exact hh _) | (apply Exists.intro; apply Exists.intro; apply And.intro; exact hh _) | (refine Both.mk ?_ ?_ <;> intro hc <;> (first | exact Bool.noConfusion hc | exact absurd (by with_reducible rfl) hc | exact (hc : False).elim | exact absurd (by assumption) hc | exact absurd hc (by assumption) | (exfalso; omega) | exact absurd hc (by decide) | skip)) | (intro c hc; (try (simp only [AH.none_iff] at hc; repeat (have hn := hc.1; replace hc := hc.2))); (first | (refine i64_k hc ?_ ?_ ?_ ; omega; omega; (clear hc; intro hc; subst hc)) | (refine u64_k hc ?_ ?_ ?_ ; omega; omega; (clear hc; intro hc; subst hc)) | (refine u8_k hc ?_ ?_ ?_ ; omega; omega; (clear hc; intro hc; subst hc)) | subst hc | skip)) | (apply Exists.intro; apply And.intro; (focus (repeat (first | assumption | exact AH.set_same _ _ _ | ((first | refine AH.get_ne ?_ ?_ | refine AH.getd_ne ?_ ?_); (first | assumption | omega | exact Ne.symm (by assumption) | exact AH.ne_none (by assumption) (by assumption) | exact AH.none_ne (by assumption) (by assumption) | exact (AH.none_set (by assumption)).1 | exact Ne.symm (AH.none_set (by assumption)).1)))); done)) | (apply Exists.intro; apply And.intro; (try simp only [List.getElem?_drop, Nat.mul_one, Nat.add_zero, Nat.zero_add]); first | (refine u8s_get ?_; omega) | (refine iS_get ?_; omega) | assumption | rfl | fail) | (apply And.intro; (first | rfl | assumption | exact Nat.le_of_ble_eq_true rfl | omega | (simp <;> fail) | (simp <;> omega) | (focus (repeat' (first | exact one_u8s _ | exact one_iS _ _ | rfl | apply one_take | apply one_drop | apply one_append)); done) | fail)) | fail)) <;> (try (conv => whnf))
      refine ⟨i + 1, by omega, by omega, ⟨congrArg (AV.int .i64) (by omega), trivial⟩, HLe.of_eq (Eq.symm ((AH.set_set _ _ _ _).trans ((AH.set_set _ _ _ _).trans ?_)))⟩
      refine congrArg (fun l => H.set w (.row l 0)) ?_
      show wrA (wrA (iL n _) (0 + (2 * (i : Int)).toNat * 1) [AV.int .i64 (X i + (X (n / 2 + i) + 1) / 2)]) (0 + (2 * (i : Int) + 1).toNat * 1) [AV.int .i64 (X i + (X (n / 2 + i) + 1) / 2 - X (n / 2 + i))] = _
      rw [show (0 + (2 * (i : Int)).toNat * 1) = 2 * i by omega, show (0 + (2 * (i : Int) + 1).toNat * 1) = 2 * i + 1 by omega, iL_wr _ (by omega), iL_wr _ (by omega)]
      refine iL_congr fun k hk => ?_
      by_cases e1 : k = 2 * i + 1
      · subst e1
        rw [if_pos rfl, if_pos (by omega)]
        unfold joi
        rw [if_neg (by omega), show (2 * i + 1) / 2 = i by omega]
      · rw [if_neg e1]
        by_cases e2 : k = 2 * i
        · subst e2
          rw [if_pos rfl, if_pos (by omega)]
          unfold joi
          rw [if_pos (by omega), show 2 * i / 2 = i by omega]
        · rw [if_neg e2]
          by_cases e3 : k < 2 * i
          · rw [if_pos e3, if_pos (by omega)]
          · rw [if_neg e3, if_neg (by omega)]
    · have he : i = n / 2 := by omega
      subst he
      (repeat' ((conv => whnf); first | refine Then.mk ?_ | refine OpsA.cons ?_ | refine OpsA.nil ?_ | refine AWq.seq ?_ | refine AWq.region ?_ | refine AWq.cond ?_ | refine AWq.block ?_ | refine AWq.skip ?_ | refine AWq.ret ?_ | refine AWq.exit ?_ | refine AWq.loop ?_ | refine AWq.rangeFunc ?_ | refine DrawA.consD ?_ | refine DrawA.nil ?_ | refine DrawL.consD ?_ | refine DrawL.nil ?_ | refine AWq.draw (by decide +kernel) ?_ | (refine Both.mk ?_ ?_ <;> intro hc <;> (first | exact Bool.noConfusion hc | exact absurd (by with_reducible rfl) hc | exact (hc : False).elim | exact absurd (by assumption) hc | exact absurd hc (by assumption) | (exfalso; omega) | exact absurd hc (by decide) | skip)) | (intro c hc; (try (simp only [AH.none_iff] at hc; repeat (have hn := hc.1; replace hc := hc.2))); (first | (refine i64_k hc ?_ ?_ ?_ ; omega; omega; (clear hc; intro hc; subst hc)) | (refine u64_k hc ?_ ?_ ?_ ; omega; omega; (clear hc; intro hc; subst hc)) | (refine u8_k hc ?_ ?_ ?_ ; omega; omega; (clear hc; intro hc; subst hc)) | subst hc | skip)) | (apply Exists.intro; apply And.intro; (focus (repeat (first | assumption | exact AH.set_same _ _ _ | ((first | refine AH.get_ne ?_ ?_ | refine AH.getd_ne ?_ ?_); (first | assumption | omega | exact Ne.symm (by assumption) | exact AH.ne_none (by assumption) (by assumption) | exact AH.none_ne (by assumption) (by assumption) | exact (AH.none_set (by assumption)).1 | exact Ne.symm (AH.none_set (by assumption)).1)))); done)) | (apply Exists.intro; apply And.intro; (try simp only [List.getElem?_drop, Nat.mul_one, Nat.add_zero, Nat.zero_add]); first | (refine u8s_get ?_; omega) | (refine iS_get ?_; omega) | assumption | rfl | fail) | (apply And.intro; (first | rfl | assumption | exact Nat.le_of_ble_eq_true rfl | omega | (simp <;> fail) | (simp <;> omega) | (focus (repeat' (first | exact one_u8s _ | exact one_iS _ _ | rfl | apply one_take | apply one_drop | apply one_append)); done) | fail)) | fail)) <;> (try (conv => whnf))
      exact .inr ⟨w, hc0, 0, rfl, congrArg (fun l => H.set w (.row l 0)) (iL_congr fun k hk => if_pos (by omega))⟩

set_option maxRecDepth 8000 in
theorem join_w (n : Nat) (hn : n ≤ 4096) (h2 : n % 2 = 0) (X : Ln) (hX : ∀ c, c < n → -1152921504606846976 ≤ X c ∧ X c ≤ 1152921504606846976) (cells : List AV) (q u off : Nat) (lim : Option Nat) (H : AH) (hq : H q = some (.row cells u)) (hg : ∀ i, i < n → cells[off + i]? = some (.int .i64 (X i))) :
    ACall Try.prog 43 [.sl q u 1 off n lim] H (fun y H' => y = .cs (iL n (joi n X)) n ∧ H' = H) := by
  refine ACall.coldX (es := 1) (Q := fun H' => H' = H) (by rw [iL_len]; omega) ?_
  have hdiv : (n : Int).tdiv 2 = ((n / 2 : Nat) : Int) := by rw [Int.tdiv_eq_ediv_of_nonneg (by omega)]; omega
  refine ACall_of tt_ok (dok _) Try.func43 rfl (by decide) rfl ?_
  (repeat' ((conv => whnf); first | refine Then.mk ?_ | left | refine OpsA.cons ?_ | refine OpsA.nil ?_ | refine AWq.seq ?_ | refine AWq.region ?_ | refine AWq.cond ?_ | refine AWq.block ?_ | refine AWq.skip ?_ | refine AWq.ret ?_ | refine AWq.exit ?_ | refine AWq.loop ?_ | refine AWq.rangeFunc ?_ | refine DrawA.consD ?_ | refine DrawA.nil ?_ | refine DrawL.consD ?_ | refine DrawL.nil ?_ | refine AWq.draw (by decide +kernel) ?_ | (refine Both.mk ?_ ?_ <;> intro hc <;> (first | exact Bool.noConfusion hc | exact absurd (by with_reducible rfl) hc | exact (hc : False).elim | exact absurd (by assumption) hc | exact absurd hc (by assumption) | (exfalso; omega) | exact absurd hc (by decide) | skip)) | (intro c hc; (try (simp only [AH.none_iff] at hc; repeat (have hn := hc.1; replace hc := hc.2))); (first | (refine i64_k hc ?_ ?_ ?_ ; omega; omega; (clear hc; intro hc; subst hc)) | (refine u64_k hc ?_ ?_ ?_ ; omega; omega; (clear hc; intro hc; subst hc)) | (refine u8_k hc ?_ ?_ ?_ ; omega; omega; (clear hc; intro hc; subst hc)) | subst hc | skip)) | (apply Exists.intro; apply And.intro; (focus (repeat (first | assumption | exact AH.set_same _ _ _ | ((first | refine AH.get_ne ?_ ?_ | refine AH.getd_ne ?_ ?_); (first | assumption | omega | exact Ne.symm (by assumption) | exact AH.ne_none (by assumption) (by assumption) | exact AH.none_ne (by assumption) (by assumption) | exact (AH.none_set (by assumption)).1 | exact Ne.symm (AH.none_set (by assumption)).1)))); done)) | (apply Exists.intro; apply And.intro; (try simp only [List.getElem?_drop, Nat.mul_one, Nat.add_zero, Nat.zero_add]); first | (refine u8s_get ?_; omega) | (refine iS_get ?_; omega) | assumption | rfl | fail) | (apply And.intro; (first | rfl | assumption | exact Nat.le_of_ble_eq_true rfl | omega | (simp <;> fail) | (simp <;> omega) | (focus (repeat' (first | exact one_u8s _ | exact one_iS _ _ | rfl | apply one_take | apply one_drop | apply one_append)); done) | fail)) | fail)) <;> (try (conv => whnf))
  have hc0 : H c = none := by assumption
  obtain ⟨w, hw⟩ : ∃ w, w = c := ⟨_, rfl⟩
  rw [← hw] at hc0 ⊢
  clear hw
  refine AWp_loop (σ := Nat) (5 :: 6 :: 14 :: 15 :: 16 :: 17 :: 18 :: 19 :: 20 :: 21 :: 22 :: 23 :: 24 :: 25 :: 26 :: 27 :: 28 :: 29 :: 30 :: 31 :: 32 :: 33 :: 34 :: 35 :: 36 :: 37 :: 38 :: 39 :: 40 :: 41 :: 42 :: 43 :: 44 :: 45 :: 46 :: 47 :: 48 :: []) (fun i => [(14, .int .i64 i)]) (fun i => H.set w (.row (iL n (fun k => if k < 2 * i then joi n X k else 0)) 0)) (fun i => i ≤ n / 2) (fun i => n / 2 - i) 0 rfl ?_ ?_ ?_ ?_
  · exact Nat.zero_le _
  · exact ⟨rfl, trivial⟩
  · refine HLe.of_eq (congrArg (fun l => H.set w (.row l 0)) ?_)
    refine Eq.trans (iL_congr fun k hk => ?_) (iL_zero n).symm
    rw [if_neg (by omega)]
  · rintro i hi
    refine AWp.of tt_ok (dok _) rfl ?_
    by_cases h : i < n / 2
    · have k1 : cells[off + (i : Int).toNat]? = some (.int .i64 (X i)) := by rw [Int.toNat_natCast]; exact hg _ (by omega)
      have k2 : cells[off + ((n : Int).tdiv 2 + (i : Int)).toNat]? = some (.int .i64 (X (n / 2 + i))) := by rw [show ((n : Int).tdiv 2 + (i : Int)).toNat = n / 2 + i by omega]; exact hg _ (by omega)
      have b1 := hX i (by omega)
      have b2 := hX (n / 2 + i) (by omega)
      have hh := fun H => half_c (X (n / 2 + i) + 1) H
      have hl : ∀ Y : Ln, (iL n Y).length = n := fun Y => iL_len n Y
      (repeat' ((conv => whnf); first | refine Then.mk ?_ | left | refine OpsA.cons ?_ | refine OpsA.nil ?_ | refine AWq.seq ?_ | refine AWq.region ?_ | refine AWq.cond ?_ | refine AWq.block ?_ | refine AWq.skip ?_ | refine AWq.ret ?_ | refine AWq.exit ?_ | refine AWq.loop ?_ | refine AWq.rangeFunc ?_ | refine DrawA.consD ?_ | refine DrawA.nil ?_ | refine DrawL.consD ?_ | refine DrawL.nil ?_ | refine AWq.draw (by decide +kernel) ?_ | (refine ACall.to (hh _) ?_) | (apply Exists.intro; apply And.intro; exact hh _) | (apply Exists.intro; apply Exists.intro; apply And.intro; exact hh _) | (refine Both.mk ?_ ?_ <;> intro hc <;> (first | exact Bool.noConfusion hc | exact absurd (by with_reducible rfl) hc | exact (hc : False).elim | exact absurd (by assumption) hc | exact absurd hc (by assumption) | (exfalso; omega) | exact absurd hc (by decide) | skip)) | (intro c hc; (try (simp only [AH.none_iff] at hc; repeat (have hn := hc.1; replace hc := hc.2))); (first | (refine i64_k hc ?_ ?_ ?_ ; omega; omega; (clear hc; intro hc; subst hc)) | (refine u64_k hc ?_ ?_ ?_ ; omega; omega; (clear hc; intro hc; subst hc)) | (refine u8_k hc ?_ ?_ ?_ ; omega; omega; (clear hc; intro hc; subst hc)) | subst hc | skip)) | (apply Exists.intro; apply And.intro; (focus (repeat (first | assumption | exact AH.set_same _ _ _ | ((first | refine AH.get_ne ?_ ?_ | refine AH.getd_ne ?_ ?_); (first | assumption | omega | exact Ne.symm (by assumption) | exact AH.ne_none (by assumption) (by assumption) | exact AH.none_ne (by assumption) (by assumption) | exact (AH.none_set (by assumption)).1 | exact Ne.symm (AH.none_set (by assumption)).1)))); done)) | (apply Exists.intro; apply And.intro; (try simp only [List.getElem?_drop, Nat.mul_one, Nat.add_zero, Nat.zero_add]); first | (refine u8s_get ?_; omega) | (refine iS_get ?_; omega) | assumption | rfl | fail) | (apply And.intro; (first | rfl | assumption | exact Nat.le_of_ble_eq_true rfl | omega | (simp <;> fail) | (simp <;> omega) | (focus (repeat' (first | exact one_u8s _ | exact one_iS _ _ | rfl | apply one_take | apply one_drop | apply one_append)); done) | fail)) | fail)) <;> (try (conv => whnf))
      refine ⟨i + 1, by omega, by omega, ⟨congrArg (AV.int .i64) (by omega), trivial⟩, HLe.of_eq (Eq.symm ((AH.set_set _ _ _ _).trans ((AH.set_set _ _ _ _).trans ?_)))⟩
      refine congrArg (fun l => H.set w (.row l 0)) ?_
      show wrA (wrA (iL n _) (0 + (2 * (i : Int)).toNat * 1) [AV.int .i64 (X i + (X (n / 2 + i) + 1) / 2)]) (0 + (2 * (i : Int) + 1).toNat * 1) [AV.int .i64 (X i + (X (n / 2 + i) + 1) / 2 - X (n / 2 + i))] = _
      rw [show (0 + (2 * (i : Int)).toNat * 1) = 2 * i by omega, show (0 + (2 * (i : Int) + 1).toNat * 1) = 2 * i + 1 by omega, iL_wr _ (by omega), iL_wr _ (by omega)]
      refine iL_congr fun k hk => ?_
      by_cases e1 : k = 2 * i + 1
      · subst e1
        rw [if_pos rfl, if_pos (by omega)]
        unfold joi
        rw [if_neg (by omega), show (2 * i + 1) / 2 = i by omega]
      · rw [if_neg e1]
        by_cases e2 : k = 2 * i
        · subst e2
          rw [if_pos rfl, if_pos (by omega)]
          unfold joi
          rw [if_pos (by omega), show 2 * i / 2 = i by omega]
        · rw [if_neg e2]
          by_cases e3 : k < 2 * i
          · rw [if_pos e3, if_pos (by omega)]
          · rw [if_neg e3, if_neg (by omega)]
    · have he : i = n / 2 := by omega
      subst he
      (repeat' ((conv => whnf); first | refine Then.mk ?_ | refine OpsA.cons ?_ | refine OpsA.nil ?_ | refine AWq.seq ?_ | refine AWq.region ?_ | refine AWq.cond ?_ | refine AWq.block ?_ | refine AWq.skip ?_ | refine AWq.ret ?_ | refine AWq.exit ?_ | refine AWq.loop ?_ | refine AWq.rangeFunc ?_ | refine DrawA.consD ?_ | refine DrawA.nil ?_ | refine DrawL.consD ?_ | refine DrawL.nil ?_ | refine AWq.draw (by decide +kernel) ?_ | (refine Both.mk ?_ ?_ <;> intro hc <;> (first | exact Bool.noConfusion hc | exact absurd (by with_reducible rfl) hc | exact (hc : False).elim | exact absurd (by assumption) hc | exact absurd hc (by assumption) | (exfalso; omega) | exact absurd hc (by decide) | skip)) | (intro c hc; (try (simp only [AH.none_iff] at hc; repeat (have hn := hc.1; replace hc := hc.2))); (first | (refine i64_k hc ?_ ?_ ?_ ; omega; omega; (clear hc; intro hc; subst hc)) | (refine u64_k hc ?_ ?_ ?_ ; omega; omega; (clear hc; intro hc; subst hc)) | (refine u8_k hc ?_ ?_ ?_ ; omega; omega; (clear hc; intro hc; subst hc)) | subst hc | skip)) | (apply Exists.intro; apply And.intro; (focus (repeat (first | assumption | exact AH.set_same _ _ _ | ((first | refine AH.get_ne ?_ ?_ | refine AH.getd_ne ?_ ?_); (first | assumption | omega | exact Ne.symm (by assumption) | exact AH.ne_none (by assumption) (by assumption) | exact AH.none_ne (by assumption) (by assumption) | exact (AH.none_set (by assumption)).1 | exact Ne.symm (AH.none_set (by assumption)).1)))); done)) | (apply Exists.intro; apply And.intro; (try simp only [List.getElem?_drop, Nat.mul_one, Nat.add_zero, Nat.zero_add]); first | (refine u8s_get ?_; omega) | (refine iS_get ?_; omega) | assumption | rfl | fail) | (apply And.intro; (first | rfl | assumption | exact Nat.le_of_ble_eq_true rfl | omega | (simp <;> fail) | (simp <;> omega) | (focus (repeat' (first | exact one_u8s _ | exact one_iS _ _ | rfl | apply one_take | apply one_drop | apply one_append)); done) | fail)) | fail)) <;> (try (conv => whnf))
      exact .inr ⟨w, hc0, 0, rfl, congrArg (fun l => H.set w (.row l 0)) (iL_congr fun k hk => if_pos (by omega))⟩

/-- A list and an error, as they are handed back. -/
def resV (R : List Int × Int) : AV := .tup [.cs (iS .i64 R.1) R.1.length, .int .i64 R.2]
def spL (a : List Int) : List Int := lnL a.length (spl a.length fun c => a.getD c 0)
def joL (a : List Int) : List Int := lnL a.length (joi a.length fun c => a.getD c 0)
def lineR (m : Int) (f : List Int → List Int) (a : List Int) : List Int × Int := if a.length < 2 ∨ a.length % 2 ≠ 0 ∨ 4096 < a.length then ([], 1) else if inB m a = true then (f a, 0) else ([], 5)

theorem inB_getD {m : Int} {a : List Int} (hm : 0 ≤ m) (h : inB m a = true) (c : Nat) : -m ≤ a.getD c 0 ∧ a.getD c 0 ≤ m := by
  by_cases hc : c < a.length
  · have : a.getD c 0 = a[c] := by simp [hc]
    rw [this]; exact inB_iff.1 h _ (List.getElem_mem hc)
  · rw [List.getD_eq_getElem?_getD, List.getElem?_eq_none (by omega)]; simp; omega

theorem split_l (a : List Int) (h1 : a.length ≤ 4096) (h2 : a.length % 2 = 0) (h : inB 1099511627776 a = true) (H : AH) : ACall Try.prog 38 [.cs (iS .i64 a) a.length] H (fun y H' => y = .cs (iS .i64 (spL a)) (spL a).length ∧ H' = H) := by
  have := split_k a.length h1 h2 (fun c => a.getD c 0) (fun c _ => by have := inB_getD (by omega) h c; omega) (iS .i64 a) H (by simp) (fun i hi => iS_get hi)
  rw [show (spL a).length = a.length from lnL_len _ _]
  exact this
theorem join_l (a : List Int) (h1 : a.length ≤ 4096) (h2 : a.length % 2 = 0) (h : inB 4398046511104 a = true) (H : AH) : ACall Try.prog 43 [.cs (iS .i64 a) a.length] H (fun y H' => y = .cs (iS .i64 (joL a)) (joL a).length ∧ H' = H) := by
  have := join_k a.length h1 h2 (fun c => a.getD c 0) (fun c _ => by have := inB_getD (by omega) h c; omega) (iS .i64 a) H (by simp) (fun i hi => iS_get hi)
  rw [show (joL a).length = a.length from lnL_len _ _]
  exact this

theorem res_told {H : AH} {e : Int} {R : List Int × Int} (h : R = ([], e)) : ∃ y' H2, AVle (.tup [.nils, .int .i64 e]) y' ∧ HLe H2 H ∧ y' = resV R ∧ H2 = H :=
  ⟨resV R, H, by rw [h]; exact AVle.tup (AVles.cons AVle.nils (AVles.refl _)), HLe.refl _, rfl, rfl⟩
theorem res_ok {H : AH} {l : List Int} {R : List Int × Int} (h : R = (l, 0)) : ∃ y' H2, AVle (.tup [.cs (iS .i64 l) l.length, .int .i64 0]) y' ∧ HLe H2 H ∧ y' = resV R ∧ H2 = H :=
  ⟨resV R, H, by rw [h]; exact AVle.refl _, HLe.refl _, rfl, rfl⟩

set_option maxRecDepth 8000 in
theorem Step_c (a : List Int) (hn : a.length ≤ 1000000) (H : AH) : ACall Try.prog 17 [.cs (iS .i64 a) a.length] H (fun y H' => y = resV (lineR 1099511627776 spL a) ∧ H' = H) := by
  have hw := fun H => line_c 1099511627776 (by omega) a hn H
  obtain ⟨R, hR⟩ : ∃ R, R = lineR 1099511627776 spL a := ⟨_, rfl⟩
  rw [← hR]
  unfold lineR at hR
  refine ACall.told ?_
  by_cases h : a.length < 2 ∨ a.length % 2 ≠ 0 ∨ 4096 < a.length
  · simp only [if_pos h] at hw hR
    refine ACall_of tt_ok (dok _) Try.func17 rfl (by decide) rfl ?_
    (repeat' ((conv => whnf); first | refine Then.mk ?_ | refine OpsA.cons ?_ | refine OpsA.nil ?_ | refine AWq.seq ?_ | refine AWq.region ?_ | refine AWq.cond ?_ | refine AWq.block ?_ | refine AWq.skip ?_ | refine AWq.ret ?_ | refine AWq.exit ?_ | refine AWq.loop ?_ | refine AWq.rangeFunc ?_ | refine DrawA.consD ?_ | refine DrawA.nil ?_ | refine DrawL.consD ?_ | refine DrawL.nil ?_ | refine AWq.draw (by decide +kernel) ?_ | (refine ACall.to (hw _) ?_) | (apply Exists.intro; apply And.intro; exact hw _) | (apply Exists.intro; apply Exists.intro; apply And.intro; exact hw _) | (refine Both.mk ?_ ?_ <;> intro hc <;> (first | exact Bool.noConfusion hc | exact absurd (by with_reducible rfl) hc | exact (hc : False).elim | exact absurd (by assumption) hc | exact absurd hc (by assumption) | (exfalso; omega) | exact absurd hc (by decide) | skip)) | (intro c hc; (try (simp only [AH.none_iff] at hc; repeat (have hn := hc.1; replace hc := hc.2))); (first | (refine i64_k hc ?_ ?_ ?_ ; omega; omega; (clear hc; intro hc; subst hc)) | (refine u64_k hc ?_ ?_ ?_ ; omega; omega; (clear hc; intro hc; subst hc)) | (refine u8_k hc ?_ ?_ ?_ ; omega; omega; (clear hc; intro hc; subst hc)) | subst hc | skip)) | (apply Exists.intro; apply And.intro; (focus (repeat (first | assumption | exact AH.set_same _ _ _ | ((first | refine AH.get_ne ?_ ?_ | refine AH.getd_ne ?_ ?_); (first | assumption | omega | exact Ne.symm (by assumption) | exact AH.ne_none (by assumption) (by assumption) | exact AH.none_ne (by assumption) (by assumption) | exact (AH.none_set (by assumption)).1 | exact Ne.symm (AH.none_set (by assumption)).1)))); done)) | (apply Exists.intro; apply And.intro; (try simp only [List.getElem?_drop, Nat.mul_one, Nat.add_zero, Nat.zero_add]); first | (refine u8s_get ?_; omega) | (refine iS_get ?_; omega) | assumption | rfl | fail) | (apply And.intro; (first | rfl | assumption | exact Nat.le_of_ble_eq_true rfl | omega | (simp <;> fail) | (simp <;> omega) | (focus (repeat' (first | exact one_u8s _ | exact one_iS _ _ | rfl | apply one_take | apply one_drop | apply one_append)); done) | fail)) | fail)) <;> (try (conv => whnf))
    exact res_told hR
  · simp only [if_neg h] at hw hR
    by_cases hb : inB 1099511627776 a = true
    · simp only [if_pos hb] at hw hR
      have hs := fun H => split_l a (by omega) (by omega) hb H
      refine ACall_of tt_ok (dok _) Try.func17 rfl (by decide) rfl ?_
      (repeat' ((conv => whnf); first | refine Then.mk ?_ | refine OpsA.cons ?_ | refine OpsA.nil ?_ | refine AWq.seq ?_ | refine AWq.region ?_ | refine AWq.cond ?_ | refine AWq.block ?_ | refine AWq.skip ?_ | refine AWq.ret ?_ | refine AWq.exit ?_ | refine AWq.loop ?_ | refine AWq.rangeFunc ?_ | refine DrawA.consD ?_ | refine DrawA.nil ?_ | refine DrawL.consD ?_ | refine DrawL.nil ?_ | refine AWq.draw (by decide +kernel) ?_ | (refine ACall.to (hw _) ?_) | (refine ACall.to (hs _) ?_) | (apply Exists.intro; apply And.intro; exact hw _) | (apply Exists.intro; apply And.intro; exact hs _) | (apply Exists.intro; apply Exists.intro; apply And.intro; exact hw _) | (apply Exists.intro; apply Exists.intro; apply And.intro; exact hs _) | (refine Both.mk ?_ ?_ <;> intro hc <;> (first | exact Bool.noConfusion hc | exact absurd (by with_reducible rfl) hc | exact (hc : False).elim | exact absurd (by assumption) hc | exact absurd hc (by assumption) | (exfalso; omega) | exact absurd hc (by decide) | skip)) | (intro c hc; (try (simp only [AH.none_iff] at hc; repeat (have hn := hc.1; replace hc := hc.2))); (first | (refine i64_k hc ?_ ?_ ?_ ; omega; omega; (clear hc; intro hc; subst hc)) | (refine u64_k hc ?_ ?_ ?_ ; omega; omega; (clear hc; intro hc; subst hc)) | (refine u8_k hc ?_ ?_ ?_ ; omega; omega; (clear hc; intro hc; subst hc)) | subst hc | skip)) | (apply Exists.intro; apply And.intro; (focus (repeat (first | assumption | exact AH.set_same _ _ _ | ((first | refine AH.get_ne ?_ ?_ | refine AH.getd_ne ?_ ?_); (first | assumption | omega | exact Ne.symm (by assumption) | exact AH.ne_none (by assumption) (by assumption) | exact AH.none_ne (by assumption) (by assumption) | exact (AH.none_set (by assumption)).1 | exact Ne.symm (AH.none_set (by assumption)).1)))); done)) | (apply Exists.intro; apply And.intro; (try simp only [List.getElem?_drop, Nat.mul_one, Nat.add_zero, Nat.zero_add]); first | (refine u8s_get ?_; omega) | (refine iS_get ?_; omega) | assumption | rfl | fail) | (apply And.intro; (first | rfl | assumption | exact Nat.le_of_ble_eq_true rfl | omega | (simp <;> fail) | (simp <;> omega) | (focus (repeat' (first | exact one_u8s _ | exact one_iS _ _ | rfl | apply one_take | apply one_drop | apply one_append)); done) | fail)) | fail)) <;> (try (conv => whnf))
      exact res_ok hR
    · simp only [if_neg hb] at hw hR
      refine ACall_of tt_ok (dok _) Try.func17 rfl (by decide) rfl ?_
      (repeat' ((conv => whnf); first | refine Then.mk ?_ | refine OpsA.cons ?_ | refine OpsA.nil ?_ | refine AWq.seq ?_ | refine AWq.region ?_ | refine AWq.cond ?_ | refine AWq.block ?_ | refine AWq.skip ?_ | refine AWq.ret ?_ | refine AWq.exit ?_ | refine AWq.loop ?_ | refine AWq.rangeFunc ?_ | refine DrawA.consD ?_ | refine DrawA.nil ?_ | refine DrawL.consD ?_ | refine DrawL.nil ?_ | refine AWq.draw (by decide +kernel) ?_ | (refine ACall.to (hw _) ?_) | (apply Exists.intro; apply And.intro; exact hw _) | (apply Exists.intro; apply Exists.intro; apply And.intro; exact hw _) | (refine Both.mk ?_ ?_ <;> intro hc <;> (first | exact Bool.noConfusion hc | exact absurd (by with_reducible rfl) hc | exact (hc : False).elim | exact absurd (by assumption) hc | exact absurd hc (by assumption) | (exfalso; omega) | exact absurd hc (by decide) | skip)) | (intro c hc; (try (simp only [AH.none_iff] at hc; repeat (have hn := hc.1; replace hc := hc.2))); (first | (refine i64_k hc ?_ ?_ ?_ ; omega; omega; (clear hc; intro hc; subst hc)) | (refine u64_k hc ?_ ?_ ?_ ; omega; omega; (clear hc; intro hc; subst hc)) | (refine u8_k hc ?_ ?_ ?_ ; omega; omega; (clear hc; intro hc; subst hc)) | subst hc | skip)) | (apply Exists.intro; apply And.intro; (focus (repeat (first | assumption | exact AH.set_same _ _ _ | ((first | refine AH.get_ne ?_ ?_ | refine AH.getd_ne ?_ ?_); (first | assumption | omega | exact Ne.symm (by assumption) | exact AH.ne_none (by assumption) (by assumption) | exact AH.none_ne (by assumption) (by assumption) | exact (AH.none_set (by assumption)).1 | exact Ne.symm (AH.none_set (by assumption)).1)))); done)) | (apply Exists.intro; apply And.intro; (try simp only [List.getElem?_drop, Nat.mul_one, Nat.add_zero, Nat.zero_add]); first | (refine u8s_get ?_; omega) | (refine iS_get ?_; omega) | assumption | rfl | fail) | (apply And.intro; (first | rfl | assumption | exact Nat.le_of_ble_eq_true rfl | omega | (simp <;> fail) | (simp <;> omega) | (focus (repeat' (first | exact one_u8s _ | exact one_iS _ _ | rfl | apply one_take | apply one_drop | apply one_append)); done) | fail)) | fail)) <;> (try (conv => whnf))
      exact res_told hR

set_option maxRecDepth 8000 in
theorem Back_c (a : List Int) (hn : a.length ≤ 1000000) (H : AH) : ACall Try.prog 19 [.cs (iS .i64 a) a.length] H (fun y H' => y = resV (lineR 4398046511104 joL a) ∧ H' = H) := by
  have hw := fun H => line_c 4398046511104 (by omega) a hn H
  obtain ⟨R, hR⟩ : ∃ R, R = lineR 4398046511104 joL a := ⟨_, rfl⟩
  rw [← hR]
  unfold lineR at hR
  refine ACall.told ?_
  by_cases h : a.length < 2 ∨ a.length % 2 ≠ 0 ∨ 4096 < a.length
  · simp only [if_pos h] at hw hR
    refine ACall_of tt_ok (dok _) Try.func19 rfl (by decide) rfl ?_
    (repeat' ((conv => whnf); first | refine Then.mk ?_ | refine OpsA.cons ?_ | refine OpsA.nil ?_ | refine AWq.seq ?_ | refine AWq.region ?_ | refine AWq.cond ?_ | refine AWq.block ?_ | refine AWq.skip ?_ | refine AWq.ret ?_ | refine AWq.exit ?_ | refine AWq.loop ?_ | refine AWq.rangeFunc ?_ | refine DrawA.consD ?_ | refine DrawA.nil ?_ | refine DrawL.consD ?_ | refine DrawL.nil ?_ | refine AWq.draw (by decide +kernel) ?_ | (refine ACall.to (hw _) ?_) | (apply Exists.intro; apply And.intro; exact hw _) | (apply Exists.intro; apply Exists.intro; apply And.intro; exact hw _) | (refine Both.mk ?_ ?_ <;> intro hc <;> (first | exact Bool.noConfusion hc | exact absurd (by with_reducible rfl) hc | exact (hc : False).elim | exact absurd (by assumption) hc | exact absurd hc (by assumption) | (exfalso; omega) | exact absurd hc (by decide) | skip)) | (intro c hc; (try (simp only [AH.none_iff] at hc; repeat (have hn := hc.1; replace hc := hc.2))); (first | (refine i64_k hc ?_ ?_ ?_ ; omega; omega; (clear hc; intro hc; subst hc)) | (refine u64_k hc ?_ ?_ ?_ ; omega; omega; (clear hc; intro hc; subst hc)) | (refine u8_k hc ?_ ?_ ?_ ; omega; omega; (clear hc; intro hc; subst hc)) | subst hc | skip)) | (apply Exists.intro; apply And.intro; (focus (repeat (first | assumption | exact AH.set_same _ _ _ | ((first | refine AH.get_ne ?_ ?_ | refine AH.getd_ne ?_ ?_); (first | assumption | omega | exact Ne.symm (by assumption) | exact AH.ne_none (by assumption) (by assumption) | exact AH.none_ne (by assumption) (by assumption) | exact (AH.none_set (by assumption)).1 | exact Ne.symm (AH.none_set (by assumption)).1)))); done)) | (apply Exists.intro; apply And.intro; (try simp only [List.getElem?_drop, Nat.mul_one, Nat.add_zero, Nat.zero_add]); first | (refine u8s_get ?_; omega) | (refine iS_get ?_; omega) | assumption | rfl | fail) | (apply And.intro; (first | rfl | assumption | exact Nat.le_of_ble_eq_true rfl | omega | (simp <;> fail) | (simp <;> omega) | (focus (repeat' (first | exact one_u8s _ | exact one_iS _ _ | rfl | apply one_take | apply one_drop | apply one_append)); done) | fail)) | fail)) <;> (try (conv => whnf))
    exact res_told hR
  · simp only [if_neg h] at hw hR
    by_cases hb : inB 4398046511104 a = true
    · simp only [if_pos hb] at hw hR
      have hs := fun H => join_l a (by omega) (by omega) hb H
      refine ACall_of tt_ok (dok _) Try.func19 rfl (by decide) rfl ?_
      (repeat' ((conv => whnf); first | refine Then.mk ?_ | refine OpsA.cons ?_ | refine OpsA.nil ?_ | refine AWq.seq ?_ | refine AWq.region ?_ | refine AWq.cond ?_ | refine AWq.block ?_ | refine AWq.skip ?_ | refine AWq.ret ?_ | refine AWq.exit ?_ | refine AWq.loop ?_ | refine AWq.rangeFunc ?_ | refine DrawA.consD ?_ | refine DrawA.nil ?_ | refine DrawL.consD ?_ | refine DrawL.nil ?_ | refine AWq.draw (by decide +kernel) ?_ | (refine ACall.to (hw _) ?_) | (refine ACall.to (hs _) ?_) | (apply Exists.intro; apply And.intro; exact hw _) | (apply Exists.intro; apply And.intro; exact hs _) | (apply Exists.intro; apply Exists.intro; apply And.intro; exact hw _) | (apply Exists.intro; apply Exists.intro; apply And.intro; exact hs _) | (refine Both.mk ?_ ?_ <;> intro hc <;> (first | exact Bool.noConfusion hc | exact absurd (by with_reducible rfl) hc | exact (hc : False).elim | exact absurd (by assumption) hc | exact absurd hc (by assumption) | (exfalso; omega) | exact absurd hc (by decide) | skip)) | (intro c hc; (try (simp only [AH.none_iff] at hc; repeat (have hn := hc.1; replace hc := hc.2))); (first | (refine i64_k hc ?_ ?_ ?_ ; omega; omega; (clear hc; intro hc; subst hc)) | (refine u64_k hc ?_ ?_ ?_ ; omega; omega; (clear hc; intro hc; subst hc)) | (refine u8_k hc ?_ ?_ ?_ ; omega; omega; (clear hc; intro hc; subst hc)) | subst hc | skip)) | (apply Exists.intro; apply And.intro; (focus (repeat (first | assumption | exact AH.set_same _ _ _ | ((first | refine AH.get_ne ?_ ?_ | refine AH.getd_ne ?_ ?_); (first | assumption | omega | exact Ne.symm (by assumption) | exact AH.ne_none (by assumption) (by assumption) | exact AH.none_ne (by assumption) (by assumption) | exact (AH.none_set (by assumption)).1 | exact Ne.symm (AH.none_set (by assumption)).1)))); done)) | (apply Exists.intro; apply And.intro; (try simp only [List.getElem?_drop, Nat.mul_one, Nat.add_zero, Nat.zero_add]); first | (refine u8s_get ?_; omega) | (refine iS_get ?_; omega) | assumption | rfl | fail) | (apply And.intro; (first | rfl | assumption | exact Nat.le_of_ble_eq_true rfl | omega | (simp <;> fail) | (simp <;> omega) | (focus (repeat' (first | exact one_u8s _ | exact one_iS _ _ | rfl | apply one_take | apply one_drop | apply one_append)); done) | fail)) | fail)) <;> (try (conv => whnf))
      exact res_ok hR
    · simp only [if_neg hb] at hw hR
      refine ACall_of tt_ok (dok _) Try.func19 rfl (by decide) rfl ?_
      (repeat' ((conv => whnf); first | refine Then.mk ?_ | refine OpsA.cons ?_ | refine OpsA.nil ?_ | refine AWq.seq ?_ | refine AWq.region ?_ | refine AWq.cond ?_ | refine AWq.block ?_ | refine AWq.skip ?_ | refine AWq.ret ?_ | refine AWq.exit ?_ | refine AWq.loop ?_ | refine AWq.rangeFunc ?_ | refine DrawA.consD ?_ | refine DrawA.nil ?_ | refine DrawL.consD ?_ | refine DrawL.nil ?_ | refine AWq.draw (by decide +kernel) ?_ | (refine ACall.to (hw _) ?_) | (apply Exists.intro; apply And.intro; exact hw _) | (apply Exists.intro; apply Exists.intro; apply And.intro; exact hw _) | (refine Both.mk ?_ ?_ <;> intro hc <;> (first | exact Bool.noConfusion hc | exact absurd (by with_reducible rfl) hc | exact (hc : False).elim | exact absurd (by assumption) hc | exact absurd hc (by assumption) | (exfalso; omega) | exact absurd hc (by decide) | skip)) | (intro c hc; (try (simp only [AH.none_iff] at hc; repeat (have hn := hc.1; replace hc := hc.2))); (first | (refine i64_k hc ?_ ?_ ?_ ; omega; omega; (clear hc; intro hc; subst hc)) | (refine u64_k hc ?_ ?_ ?_ ; omega; omega; (clear hc; intro hc; subst hc)) | (refine u8_k hc ?_ ?_ ?_ ; omega; omega; (clear hc; intro hc; subst hc)) | subst hc | skip)) | (apply Exists.intro; apply And.intro; (focus (repeat (first | assumption | exact AH.set_same _ _ _ | ((first | refine AH.get_ne ?_ ?_ | refine AH.getd_ne ?_ ?_); (first | assumption | omega | exact Ne.symm (by assumption) | exact AH.ne_none (by assumption) (by assumption) | exact AH.none_ne (by assumption) (by assumption) | exact (AH.none_set (by assumption)).1 | exact Ne.symm (AH.none_set (by assumption)).1)))); done)) | (apply Exists.intro; apply And.intro; (try simp only [List.getElem?_drop, Nat.mul_one, Nat.add_zero, Nat.zero_add]); first | (refine u8s_get ?_; omega) | (refine iS_get ?_; omega) | assumption | rfl | fail) | (apply And.intro; (first | rfl | assumption | exact Nat.le_of_ble_eq_true rfl | omega | (simp <;> fail) | (simp <;> omega) | (focus (repeat' (first | exact one_u8s _ | exact one_iS _ _ | rfl | apply one_take | apply one_drop | apply one_append)); done) | fail)) | fail)) <;> (try (conv => whnf))
      exact res_told hR
end Go.Proofs.Ytajmabnnaidhkaa
