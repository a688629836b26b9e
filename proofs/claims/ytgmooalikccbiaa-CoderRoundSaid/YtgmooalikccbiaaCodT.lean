/- The examples of chapter 25. -/
import Derived.Test.YtgmooalikccbiaaCodS
namespace Go.Proofs.Ytgmooalikccbiaa
open Go.Fw Go
set_option linter.unusedVariables false
set_option linter.unusedSimpArgs false

theorem enc_a : encS 2 1 [0] [0] = ([], 0) := by decide +kernel
theorem enc_b : encS 2 1 [1] [0] = ([128], 0) := by decide +kernel
theorem ints_a : intsS [0, 0, 0] = ([], 0) := by decide +kernel
theorem read_a : readS [] 3 = ([0, 0, 0], 0) := by decide +kernel
set_option maxRecDepth 8000 in
theorem lives25_c (H : AH) : ACall Try.prog 18 [] H (fun y H' => y = .bool true ∧ H' = H) := by
  have s : I64L [0] := by intro x hx; have : x = 0 := by simpa using hx
                          omega
  have s1 : I64L [1] := by intro x hx; have : x = 1 := by simpa using hx
                           omega
  have s3 : I64L [0, 0, 0] := by intro x hx; have : x = 0 := by simpa using hx
                                 omega
  have f1 := fun H => k_encode_c 2 1 (by decide) (by decide) [0] [0] s s (by decide) (by decide) H
  have f2 := fun H => k_encode_c 2 1 (by decide) (by decide) [1] [0] s1 s (by decide) (by decide) H
  have f3 := fun H => cInts_c [0, 0, 0] s3 (by decide) H
  have f4 := fun H => ACall.args (AVles.cons AVle.nils (AVles.refl _)) (readInts_c [] (by decide) 3 (by decide) H)
  have f5 := fun H => sameints_c [0, 0, 0] [0, 0, 0] (by decide) (by decide) H
  simp only [enc_a, enc_b, ints_a, read_a] at f1 f2 f3 f4
  have f5 : ∀ H, ACall Try.prog 24 [.cs [.int .i64 0, .int .i64 0, .int .i64 0] 3, .cs [.int .i64 0, .int .i64 0, .int .i64 0] 3] H (fun y H' => y = .bool true ∧ H' = H) := f5
  refine ACall_of tt_ok (dok _) Try.func18 rfl (by decide) rfl ?_
  (repeat' ((conv => whnf); first | refine Then.mk ?_ | left | refine OpsA.cons ?_ | refine OpsA.nil ?_ | refine AWq.seq ?_ | refine AWq.region ?_ | refine AWq.cond ?_ | refine AWq.block ?_ | refine AWq.skip ?_ | refine AWq.scope ?_ | refine AWq.label ?_ | refine AWq.ret ?_ | refine AWq.exit ?_ | refine AWq.loop ?_ | refine AWq.rangeFunc ?_ | refine DrawA.consD ?_ | refine DrawA.nil ?_ | refine DrawL.consD ?_ | refine DrawL.nil ?_ | refine DrawF.consD ?_ | refine DrawF.nil ?_ | refine AWq.draw (by decide +kernel) ?_ | (refine ACall.to (f1 _) ?_) | (refine ACall.to (f2 _) ?_) | (refine ACall.to (f3 _) ?_) | (refine ACall.to (f4 _) ?_) | (refine ACall.to (f5 _) ?_) | (apply Exists.intro; apply And.intro; exact f1 _) | (apply Exists.intro; apply And.intro; exact f2 _) | (apply Exists.intro; apply And.intro; exact f3 _) | (apply Exists.intro; apply And.intro; exact f4 _) | (apply Exists.intro; apply And.intro; exact f5 _) | (apply Exists.intro; apply Exists.intro; apply And.intro; exact f1 _) | (apply Exists.intro; apply Exists.intro; apply And.intro; exact f2 _) | (apply Exists.intro; apply Exists.intro; apply And.intro; exact f3 _) | (apply Exists.intro; apply Exists.intro; apply And.intro; exact f4 _) | (apply Exists.intro; apply Exists.intro; apply And.intro; exact f5 _) | (refine Both.mk ?_ ?_ <;> intro hc <;> (first | exact Bool.noConfusion hc | exact absurd (by with_reducible rfl) hc | exact (hc : False).elim | exact absurd (by assumption) hc | exact absurd hc (by assumption) | (exfalso; omega) | exact absurd hc (by decide) | skip)) | (intro c hc; (try (simp only [AH.none_iff] at hc; repeat (have hn := hc.1; replace hc := hc.2))); (first | (have hc2 := Eq.trans hc (by with_reducible assumption); clear hc; subst hc2) | (refine i64_k hc ?_ ?_ ?_ ; omega; omega; (clear hc; intro hc; subst hc)) | (refine u64_k hc ?_ ?_ ?_ ; omega; omega; (clear hc; intro hc; subst hc)) | (refine u8_k hc ?_ ?_ ?_ ; omega; omega; (clear hc; intro hc; subst hc)) | subst hc | skip)) | (apply Exists.intro; apply And.intro; (focus (repeat (first | assumption | exact AH.set_same _ _ _ | ((first | refine AH.get_ne ?_ ?_ | refine AH.getd_ne ?_ ?_); (first | assumption | omega | exact Ne.symm (by assumption) | exact AH.ne_none (by assumption) (by assumption) | exact AH.none_ne (by assumption) (by assumption) | exact (AH.none_set (by assumption)).1 | exact Ne.symm (AH.none_set (by assumption)).1)))); done)) | (apply Exists.intro; apply And.intro; first | (with_reducible assumption) | ((try simp only [List.getElem?_drop, Nat.mul_one, Nat.add_zero, Nat.zero_add]); first | (with_reducible assumption) | (refine u8s_get ?_; omega) | (refine iS_get ?_; omega) | assumption | rfl | fail)) | (apply And.intro; (first | rfl | (with_reducible assumption) | exact Nat.le_of_ble_eq_true rfl | omega | (exact Int.ofNat_lt.2 (Nat.lt_of_lt_of_eq (by with_reducible assumption) (by decide +kernel))) | assumption | (simp <;> fail) | (simp <;> omega) | (focus (repeat' (first | exact one_u8s _ | exact one_iS _ _ | rfl | apply one_take | apply one_drop | apply one_append)); done) | fail)) | fail)) <;> (try (conv => whnf))
end Go.Proofs.Ytgmooalikccbiaa
