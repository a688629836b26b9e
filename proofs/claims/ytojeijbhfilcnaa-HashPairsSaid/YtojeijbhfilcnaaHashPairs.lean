/- The law HashPairs: the contract of the law's function. -/
import Derived.Test.YtojeijbhfilcnaaHashK
import Derived.Test.YtojeijbhfilcnaaHashX
namespace Go.Proofs.Ytojeijbhfilcnaa
open Go.Fw Go
set_option linter.unusedVariables false
set_option linter.unusedSimpArgs false

theorem sumI_two (s : List UInt8) (x y : Int) : sumI s [x, y] = mixI (mixI (mixI (mixI (mixI ((wordsI s).foldl mixI 0) s.length) 2) (IntKind.u64.wrap x)) (IntKind.u64.wrap y)) 0 := by
  unfold sumI
  simp only [List.map_cons, List.map_nil, List.foldl_cons, List.foldl_nil, List.length_cons, List.length_nil]
  rfl

theorem pairI_eq : ∃ k, ∀ a b, InW a → InW b → pairI a b = mixI (mixI (mixI k a) b) 0 :=
  ⟨_, fun a b ha hb => by
    unfold pairI
    rw [sumI_two, wrap_i64_u64 ha, wrap_i64_u64 hb]⟩

theorem HashPairs_c (x0 : Int) (hx0 : 0 ≤ x0 ∧ x0 ≤ 18446744073709551615) (x1 : Int) (hx1 : 0 ≤ x1 ∧ x1 ≤ 18446744073709551615) (x2 : Int) (hx2 : 0 ≤ x2 ∧ x2 ≤ 18446744073709551615) :
    ACall Try.prog 9 [.int .u64 x0, .int .u64 x1, .int .u64 x2] (fun _ => none) (fun y _ => y = .bool true) := by
  have h0 : InW x0 := ⟨hx0.1, by omega⟩
  have h1 : InW x1 := ⟨hx1.1, by omega⟩
  have h2 : InW x2 := ⟨hx2.1, by omega⟩
  obtain ⟨k, hk⟩ := pairI_eq
  have l : pairI x0 x2 = pairI x1 x2 → x0 = x1 := fun h => by
    rw [hk _ _ h0 h2, hk _ _ h1 h2] at h
    exact mixI_right h0 h1 (mixI_left (mixI_in _ _) (mixI_in _ _) (mixI_left (mixI_in _ _) (mixI_in _ _) h))
  have r : pairI x2 x0 = pairI x2 x1 → x0 = x1 := fun h => by
    rw [hk _ _ h2 h0, hk _ _ h2 h1] at h
    exact mixI_right h0 h1 (mixI_left (mixI_in _ _) (mixI_in _ _) h)
  have l' : x0 = x1 → pairI x0 x2 = pairI x1 x2 := fun h => by rw [h]
  have r' : x0 = x1 → pairI x2 x0 = pairI x2 x1 := fun h => by rw [h]
  have c1 := fun H => pair_c x0 x2 H
  have c2 := fun H => pair_c x1 x2 H
  have c3 := fun H => pair_c x2 x0 H
  have c4 := fun H => pair_c x2 x1 H
  have c5 := fun H => pair_c x0 x1 H
  have c6 : ∀ H, ACall Try.prog 13 [.str [112, 97, 105, 114], .cs [.int .i64 (IntKind.i64.wrap x0), .int .i64 (IntKind.i64.wrap x1)] 2] H (fun y H' => y = .int .u64 (pairI x0 x1) ∧ H' = H) :=
    fun H => sum_c [112, 97, 105, 114] (Nat.le_of_ble_eq_true rfl) [IntKind.i64.wrap x0, IntKind.i64.wrap x1] (Nat.le_of_ble_eq_true rfl) H
  clear hk
  generalize pairI x0 x2 = n1 at *
  generalize pairI x1 x2 = n2 at *
  generalize pairI x2 x0 = n3 at *
  generalize pairI x2 x1 = n4 at *
  generalize pairI x0 x1 = n5 at *
  refine ACall_of tt_ok (dok _) Try.func9 rfl (by decide) rfl ?_
  (repeat' ((conv => whnf); first | refine Then.mk ?_ | left | refine OpsA.cons ?_ | refine OpsA.nil ?_ | refine AWq.seq ?_ | refine AWq.region ?_ | refine AWq.cond ?_ | refine AWq.block ?_ | refine AWq.skip ?_ | refine AWq.ret ?_ | refine AWq.exit ?_ | refine AWq.loop ?_ | refine AWq.rangeFunc ?_ | refine DrawA.cons ?_ | refine DrawA.nil ?_ | refine AWq.draw (by decide +kernel) ?_ | (refine ACall.val (c1 _) ?_) | (refine ACall.val (c2 _) ?_) | (refine ACall.val (c3 _) ?_) | (refine ACall.val (c4 _) ?_) | (refine ACall.val (c5 _) ?_) | (refine ACall.val (c6 _) ?_) | (refine ACall.val (lives_c _) ?_) | (apply Exists.intro; apply And.intro; exact c1 _) | (apply Exists.intro; apply And.intro; exact c2 _) | (apply Exists.intro; apply And.intro; exact c3 _) | (apply Exists.intro; apply And.intro; exact c4 _) | (apply Exists.intro; apply And.intro; exact c5 _) | (apply Exists.intro; apply And.intro; exact c6 _) | (apply Exists.intro; apply And.intro; exact lives_c _) | (refine Both.mk ?_ ?_ <;> intro hc <;> (first | contradiction | (exfalso; omega) | skip)) | (intro c hc; (try (simp only [AH.none_iff] at hc; repeat (have hn := hc.1; replace hc := hc.2))); (first | (refine i64_k hc ?_ ?_ ?_ ; omega; omega; (clear hc; intro hc; subst hc)) | (refine u64_k hc ?_ ?_ ?_ ; omega; omega; (clear hc; intro hc; subst hc)) | (refine u8_k hc ?_ ?_ ?_ ; omega; omega; (clear hc; intro hc; subst hc)) | subst hc | skip)) | (apply Exists.intro; apply And.intro; (first | assumption | exact AH.set_same _ _ _ | ((first | refine AH.get_ne ?_ ?_ | refine AH.getd_ne ?_ ?_); (first | assumption | omega | exact Ne.symm (by assumption) | exact AH.ne_none (by assumption) (by assumption) | exact AH.none_ne (by assumption) (by assumption) | exact (AH.none_set (by assumption)).1 | exact Ne.symm (AH.none_set (by assumption)).1); (first | assumption | exact AH.set_same _ _ _ | ((first | refine AH.get_ne ?_ ?_ | refine AH.getd_ne ?_ ?_); (first | assumption | omega | exact Ne.symm (by assumption) | exact AH.ne_none (by assumption) (by assumption) | exact AH.none_ne (by assumption) (by assumption) | exact (AH.none_set (by assumption)).1 | exact Ne.symm (AH.none_set (by assumption)).1); (first | assumption | exact AH.set_same _ _ _ | ((first | refine AH.get_ne ?_ ?_ | refine AH.getd_ne ?_ ?_); (first | assumption | omega | exact Ne.symm (by assumption) | exact AH.ne_none (by assumption) (by assumption) | exact AH.none_ne (by assumption) (by assumption) | exact (AH.none_set (by assumption)).1 | exact Ne.symm (AH.none_set (by assumption)).1); (first | assumption | exact AH.set_same _ _ _ | ((first | refine AH.get_ne ?_ ?_ | refine AH.getd_ne ?_ ?_); (first | assumption | omega | exact Ne.symm (by assumption) | exact AH.ne_none (by assumption) (by assumption) | exact AH.none_ne (by assumption) (by assumption) | exact (AH.none_set (by assumption)).1 | exact Ne.symm (AH.none_set (by assumption)).1); (first | assumption | exact AH.set_same _ _ _ | ((first | refine AH.get_ne ?_ ?_ | refine AH.getd_ne ?_ ?_); (first | assumption | omega | exact Ne.symm (by assumption) | exact AH.ne_none (by assumption) (by assumption) | exact AH.none_ne (by assumption) (by assumption) | exact (AH.none_set (by assumption)).1 | exact Ne.symm (AH.none_set (by assumption)).1); (first | assumption | exact AH.set_same _ _ _ | ((first | refine AH.get_ne ?_ ?_ | refine AH.getd_ne ?_ ?_); (first | assumption | omega | exact Ne.symm (by assumption) | exact AH.ne_none (by assumption) (by assumption) | exact AH.none_ne (by assumption) (by assumption) | exact (AH.none_set (by assumption)).1 | exact Ne.symm (AH.none_set (by assumption)).1); (first | assumption | exact AH.set_same _ _ _)))))))))))))) | (apply Exists.intro; apply And.intro; (try simp only [List.getElem?_drop, Nat.mul_one, Nat.add_zero, Nat.zero_add]); first | (refine u8s_get ?_; omega) | (refine iS_get ?_; omega) | rfl | fail) | (apply And.intro; (first | rfl | assumption | exact Nat.le_of_ble_eq_true rfl | omega | (simp <;> fail) | (simp <;> omega) | (first | exact one_u8s _ | exact one_iS _ _ | rfl | (apply one_take; (first | exact one_u8s _ | exact one_iS _ _ | rfl | (apply one_take; (first | exact one_u8s _ | exact one_iS _ _ | rfl)) | (apply one_drop; (first | exact one_u8s _ | exact one_iS _ _ | rfl)) | (apply one_append; (first | exact one_u8s _ | exact one_iS _ _ | rfl); (first | exact one_u8s _ | exact one_iS _ _ | rfl)))) | (apply one_drop; (first | exact one_u8s _ | exact one_iS _ _ | rfl | (apply one_take; (first | exact one_u8s _ | exact one_iS _ _ | rfl)) | (apply one_drop; (first | exact one_u8s _ | exact one_iS _ _ | rfl)) | (apply one_append; (first | exact one_u8s _ | exact one_iS _ _ | rfl); (first | exact one_u8s _ | exact one_iS _ _ | rfl)))) | (apply one_append; (first | exact one_u8s _ | exact one_iS _ _ | rfl | (apply one_take; (first | exact one_u8s _ | exact one_iS _ _ | rfl)) | (apply one_drop; (first | exact one_u8s _ | exact one_iS _ _ | rfl)) | (apply one_append; (first | exact one_u8s _ | exact one_iS _ _ | rfl); (first | exact one_u8s _ | exact one_iS _ _ | rfl))); (first | exact one_u8s _ | exact one_iS _ _ | rfl | (apply one_take; (first | exact one_u8s _ | exact one_iS _ _ | rfl)) | (apply one_drop; (first | exact one_u8s _ | exact one_iS _ _ | rfl)) | (apply one_append; (first | exact one_u8s _ | exact one_iS _ _ | rfl); (first | exact one_u8s _ | exact one_iS _ _ | rfl))))) | fail)) | fail)) <;> (try (conv => whnf))
end Go.Proofs.Ytojeijbhfilcnaa
