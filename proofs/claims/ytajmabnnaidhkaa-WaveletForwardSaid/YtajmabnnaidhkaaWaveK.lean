/- The walk of the laws' examples. -/
import Derived.Test.YtajmabnnaidhkaaWaveJ
namespace Go.Proofs.Ytajmabnnaidhkaa
open Go.Fw Go
set_option linter.unusedVariables false
set_option linter.unusedSimpArgs false

set_option maxRecDepth 8000 in
theorem lives_c (H : AH) : ACall Try.prog 14 [] H (fun y H' => y = .bool true ∧ H' = H) := by
  have e1 : lineR 1099511627776 spL [5, 2, 7, 7] = ([3, 7, 3, 0], 0) := by decide
  have e2 : toL (2 ^ 1) (fwd 1 (ofL (2 ^ 1) [5, 2, 7, 7])) = [5, 1, -4, 3] := by decide
  have e3 : zgz (2 ^ 2) 2 = [0, 1, 4, 5, 2, 3, 6, 7, 8, 9, 12, 13, 10, 11, 14, 15] := by decide
  have s1 := fun H => Step_c [5, 2, 7, 7] (by simp) H
  rw [e1] at s1
  have s2 := fun H => Forward_ok 1 (by omega) [5, 2, 7, 7] (by decide) (by decide) H
  rw [e2] at s2
  have s3 := fun H => zig_ok 2 (by omega) H
  rw [e3] at s3
  have t1 := fun H => same_t [3, 7, 3, 0] (by simp) H
  have t2 := fun H => same_t [5, 1, -4, 3] (by simp) H
  have t3 := fun H => same_t [0, 1, 4, 5, 2, 3, 6, 7] (by simp) H
  refine ACall_of tt_ok (dok _) Try.func14 rfl (by decide) rfl ?_
  (repeat' ((conv => whnf); first | refine Then.mk ?_ | left | refine OpsA.cons ?_ | refine OpsA.nil ?_ | refine AWq.seq ?_ | refine AWq.region ?_ | refine AWq.cond ?_ | refine AWq.block ?_ | refine AWq.skip ?_ | refine AWq.ret ?_ | refine AWq.exit ?_ | refine AWq.loop ?_ | refine AWq.rangeFunc ?_ | refine DrawA.consD ?_ | refine DrawA.nil ?_ | refine DrawL.consD ?_ | refine DrawL.nil ?_ | refine AWq.draw (by decide +kernel) ?_ | (refine ACall.to (s1 _) ?_) | (refine ACall.to (s2 _) ?_) | (refine ACall.to (s3 _) ?_) | (refine ACall.to (t1 _) ?_) | (refine ACall.to (t2 _) ?_) | (refine ACall.to (t3 _) ?_) | (apply Exists.intro; apply And.intro; exact s1 _) | (apply Exists.intro; apply And.intro; exact s2 _) | (apply Exists.intro; apply And.intro; exact s3 _) | (apply Exists.intro; apply And.intro; exact t1 _) | (apply Exists.intro; apply And.intro; exact t2 _) | (apply Exists.intro; apply And.intro; exact t3 _) | (apply Exists.intro; apply Exists.intro; apply And.intro; exact s1 _) | (apply Exists.intro; apply Exists.intro; apply And.intro; exact s2 _) | (apply Exists.intro; apply Exists.intro; apply And.intro; exact s3 _) | (apply Exists.intro; apply Exists.intro; apply And.intro; exact t1 _) | (apply Exists.intro; apply Exists.intro; apply And.intro; exact t2 _) | (apply Exists.intro; apply Exists.intro; apply And.intro; exact t3 _) | (refine Both.mk ?_ ?_ <;> intro hc <;> (first | exact Bool.noConfusion hc | exact absurd (by with_reducible rfl) hc | exact (hc : False).elim | exact absurd (by assumption) hc | exact absurd hc (by assumption) | (exfalso; omega) | exact absurd hc (by decide) | skip)) | (intro c hc; (try (simp only [AH.none_iff] at hc; repeat (have hn := hc.1; replace hc := hc.2))); (first | (refine i64_k hc ?_ ?_ ?_ ; omega; omega; (clear hc; intro hc; subst hc)) | (refine u64_k hc ?_ ?_ ?_ ; omega; omega; (clear hc; intro hc; subst hc)) | (refine u8_k hc ?_ ?_ ?_ ; omega; omega; (clear hc; intro hc; subst hc)) | subst hc | skip)) | (apply Exists.intro; apply And.intro; (focus (repeat (first | assumption | exact AH.set_same _ _ _ | ((first | refine AH.get_ne ?_ ?_ | refine AH.getd_ne ?_ ?_); (first | assumption | omega | exact Ne.symm (by assumption) | exact AH.ne_none (by assumption) (by assumption) | exact AH.none_ne (by assumption) (by assumption) | exact (AH.none_set (by assumption)).1 | exact Ne.symm (AH.none_set (by assumption)).1)))); done)) | (apply Exists.intro; apply And.intro; (try simp only [List.getElem?_drop, Nat.mul_one, Nat.add_zero, Nat.zero_add]); first | (refine u8s_get ?_; omega) | (refine iS_get ?_; omega) | assumption | rfl | fail) | (apply And.intro; (first | rfl | assumption | exact Nat.le_of_ble_eq_true rfl | omega | (simp <;> fail) | (simp <;> omega) | (focus (repeat' (first | exact one_u8s _ | exact one_iS _ _ | rfl | apply one_take | apply one_drop | apply one_append)); done) | fail)) | fail)) <;> (try (conv => whnf))
end Go.Proofs.Ytajmabnnaidhkaa
