/- The walks of the reference's encoder. -/
import Derived.Test.YtlelhddchgipeaaWireX
namespace Go.Proofs.Ytlelhddchgipeaa
open Go.Fw Go
set_option linter.unusedVariables false
set_option linter.unusedSimpArgs false

set_option maxRecDepth 8000 in
theorem ezig_c (n : Int) (h1 : -9223372036854775808 ≤ n) (h2 : n ≤ 9223372036854775807) (H : AH) : ACall Try.prog 62 [.int .i64 n] H (fun y H' => y = .int .u64 (zz n) ∧ H' = H) := by
  refine ACall_of tt_ok (dok _) Try.func62 rfl (by decide) rfl ?_
  (repeat' ((conv => whnf); first | refine Then.mk ?_ | left | refine OpsA.cons ?_ | refine OpsA.nil ?_ | refine AWq.seq ?_ | refine AWq.region ?_ | refine AWq.cond ?_ | refine AWq.block ?_ | refine AWq.skip ?_ | refine AWq.ret ?_ | refine AWq.exit ?_ | refine AWq.loop ?_ | refine AWq.rangeFunc ?_ | refine DrawA.consD ?_ | refine DrawA.nil ?_ | refine AWq.draw (by decide +kernel) ?_ | (refine Both.mk ?_ ?_ <;> intro hc <;> (first | exact Bool.noConfusion hc | exact absurd (by with_reducible rfl) hc | exact (hc : False).elim | exact absurd (by assumption) hc | exact absurd hc (by assumption) | (exfalso; omega) | exact absurd hc (by decide) | skip)) | (intro c hc; (try (simp only [AH.none_iff] at hc; repeat (have hn := hc.1; replace hc := hc.2))); (first | (refine i64_k hc ?_ ?_ ?_ ; omega; omega; (clear hc; intro hc; subst hc)) | (refine u64_k hc ?_ ?_ ?_ ; omega; omega; (clear hc; intro hc; subst hc)) | (refine u8_k hc ?_ ?_ ?_ ; omega; omega; (clear hc; intro hc; subst hc)) | subst hc | skip)) | (apply Exists.intro; apply And.intro; (focus (repeat (first | assumption | exact AH.set_same _ _ _ | ((first | refine AH.get_ne ?_ ?_ | refine AH.getd_ne ?_ ?_); (first | assumption | omega | exact Ne.symm (by assumption) | exact AH.ne_none (by assumption) (by assumption) | exact AH.none_ne (by assumption) (by assumption) | exact (AH.none_set (by assumption)).1 | exact Ne.symm (AH.none_set (by assumption)).1)))); done)) | (apply Exists.intro; apply And.intro; (try simp only [List.getElem?_drop, Nat.mul_one, Nat.add_zero, Nat.zero_add]); first | (refine u8s_get ?_; omega) | (refine iS_get ?_; omega) | assumption | rfl | fail) | (apply And.intro; (first | rfl | assumption | exact Nat.le_of_ble_eq_true rfl | omega | (simp <;> fail) | (simp <;> omega) | (focus (repeat' (first | exact one_u8s _ | exact one_iS _ _ | rfl | apply one_take | apply one_drop | apply one_append)); done) | fail)) | fail)) <;> (try (conv => whnf))
  · exact ⟨congrArg (AV.int .u64) (by unfold zz; rw [if_pos (by omega)]; omega), rfl⟩
  · exact ⟨congrArg (AV.int .u64) (by unfold zz; rw [if_neg (by omega)]; omega), rfl⟩

set_option maxRecDepth 8000 in
theorem eUint_s (n : Nat) (hn : n < 2 ^ 64) (H : AH) :
    ACall Try.prog 44 [.int .u64 n] H (fun y H' => ∃ r, H r = none ∧ ∃ v, y = .sl r v 1 0 (encN n).length none ∧ H' = H.set r (.row (u8s (encN n)) v)) := by
  refine ACall_of tt_ok (dok _) Try.func44 rfl (by decide) rfl ?_
  (repeat' ((conv => whnf); first | refine Then.mk ?_ | left | refine OpsA.cons ?_ | refine OpsA.nil ?_ | refine AWq.seq ?_ | refine AWq.region ?_ | refine AWq.cond ?_ | refine AWq.block ?_ | refine AWq.skip ?_ | refine AWq.ret ?_ | refine AWq.exit ?_ | refine AWq.loop ?_ | refine AWq.rangeFunc ?_ | refine DrawA.consD ?_ | refine DrawA.nil ?_ | refine AWq.draw (by decide +kernel) ?_ | (refine Both.mk ?_ ?_ <;> intro hc <;> (first | exact Bool.noConfusion hc | exact absurd (by with_reducible rfl) hc | exact (hc : False).elim | exact absurd (by assumption) hc | exact absurd hc (by assumption) | (exfalso; omega) | exact absurd hc (by decide) | skip)) | (intro c hc; (try (simp only [AH.none_iff] at hc; repeat (have hn := hc.1; replace hc := hc.2))); (first | (refine i64_k hc ?_ ?_ ?_ ; omega; omega; (clear hc; intro hc; subst hc)) | (refine u64_k hc ?_ ?_ ?_ ; omega; omega; (clear hc; intro hc; subst hc)) | (refine u8_k hc ?_ ?_ ?_ ; omega; omega; (clear hc; intro hc; subst hc)) | subst hc | skip)) | (apply Exists.intro; apply And.intro; (focus (repeat (first | assumption | exact AH.set_same _ _ _ | ((first | refine AH.get_ne ?_ ?_ | refine AH.getd_ne ?_ ?_); (first | assumption | omega | exact Ne.symm (by assumption) | exact AH.ne_none (by assumption) (by assumption) | exact AH.none_ne (by assumption) (by assumption) | exact (AH.none_set (by assumption)).1 | exact Ne.symm (AH.none_set (by assumption)).1)))); done)) | (apply Exists.intro; apply And.intro; (try simp only [List.getElem?_drop, Nat.mul_one, Nat.add_zero, Nat.zero_add]); first | (refine u8s_get ?_; omega) | (refine iS_get ?_; omega) | assumption | rfl | fail) | (apply And.intro; (first | rfl | assumption | exact Nat.le_of_ble_eq_true rfl | omega | (simp <;> fail) | (simp <;> omega) | (focus (repeat' (first | exact one_u8s _ | exact one_iS _ _ | rfl | apply one_take | apply one_drop | apply one_append)); done) | fail)) | fail)) <;> (try (conv => whnf))
  refine AWp_nilrow1 3 1 rfl rfl fun r hr => ?_
  have hl10 := encN_len10 hn
  have hq : ∀ m : Nat, m < 2 ^ 64 → IntKind.u64.wrap ((m : Int).tdiv 128) = ((m / 128 : Nat) : Int) := fun m hm => by
    rw [Int.tdiv_eq_ediv_of_nonneg (by omega), wrap_u64']; omega
  have hb : ∀ m : Nat, IntKind.u8.wrap (IntKind.u64.wrap (128 + (m : Int).tmod 128)) = ((UInt8.ofNat (m % 128 + 128)).toNat : Int) := fun m => by
    rw [u8_ofNat (by omega), Int.tmod_eq_emod_of_nonneg (by omega)]
    show (_ % 18446744073709551616) % 256 = _
    omega
  refine AWp_loop (σ := Nat × List UInt8 × Nat) (0 :: 3 :: 4 :: 5 :: 6 :: 7 :: 8 :: 9 :: 10 :: 11 :: 12 :: 13 :: 14 :: []) (fun (m, pre, u) => [(0, .int .u64 m), (3, .sl r u 1 0 pre.length none)]) (fun (m, pre, u) => H.set r (.row (u8s pre) u)) (fun (m, pre, u) => m < 2 ^ 64 ∧ encN n = pre ++ encN m) (fun (m, pre, u) => m) (n, [], 0) rfl ?_ ?_ ?_ ?_
  · exact ⟨hn, rfl⟩
  · exact ⟨rfl, rfl, trivial⟩
  · exact HLe.refl _
  · rintro ⟨m, pre, u⟩ ⟨hm, he⟩
    refine AWp.of tt_ok (dok _) rfl ?_
    have hpl : pre.length ≤ 9 := by
      have := congrArg List.length he
      have := encN_pos m
      rw [List.length_append] at *; omega
    have hqm := hq m hm
    have hbm := hb m
    clear hq hb
    (repeat' ((conv => whnf); first | refine Then.mk ?_ | left | refine OpsA.cons ?_ | refine OpsA.nil ?_ | refine AWq.seq ?_ | refine AWq.region ?_ | refine AWq.cond ?_ | refine AWq.block ?_ | refine AWq.skip ?_ | refine AWq.ret ?_ | refine AWq.exit ?_ | refine AWq.loop ?_ | refine AWq.rangeFunc ?_ | refine DrawA.consD ?_ | refine DrawA.nil ?_ | refine AWq.draw (by decide +kernel) ?_ | (refine Both.mk ?_ ?_ <;> intro hc <;> (first | exact Bool.noConfusion hc | exact absurd (by with_reducible rfl) hc | exact (hc : False).elim | exact absurd (by assumption) hc | exact absurd hc (by assumption) | (exfalso; omega) | exact absurd hc (by decide) | skip)) | (intro c hc; (try (simp only [AH.none_iff] at hc; repeat (have hn := hc.1; replace hc := hc.2))); (first | (refine i64_k hc ?_ ?_ ?_ ; omega; omega; (clear hc; intro hc; subst hc)) | (refine u64_k hc ?_ ?_ ?_ ; omega; omega; (clear hc; intro hc; subst hc)) | (refine u8_k hc ?_ ?_ ?_ ; omega; omega; (clear hc; intro hc; subst hc)) | subst hc | skip)) | (apply Exists.intro; apply And.intro; (focus (repeat (first | assumption | exact AH.set_same _ _ _ | ((first | refine AH.get_ne ?_ ?_ | refine AH.getd_ne ?_ ?_); (first | assumption | omega | exact Ne.symm (by assumption) | exact AH.ne_none (by assumption) (by assumption) | exact AH.none_ne (by assumption) (by assumption) | exact (AH.none_set (by assumption)).1 | exact Ne.symm (AH.none_set (by assumption)).1)))); done)) | (apply Exists.intro; apply And.intro; (try simp only [List.getElem?_drop, Nat.mul_one, Nat.add_zero, Nat.zero_add]); first | (refine u8s_get ?_; omega) | (refine iS_get ?_; omega) | assumption | rfl | fail) | (apply And.intro; (first | rfl | assumption | exact Nat.le_of_ble_eq_true rfl | omega | (simp <;> fail) | (simp <;> omega) | (focus (repeat' (first | exact one_u8s _ | exact one_iS _ _ | rfl | apply one_take | apply one_drop | apply one_append)); done) | fail)) | fail)) <;> (try (conv => whnf))
    · refine ⟨(m / 128, pre ++ [UInt8.ofNat (m % 128 + 128)], u + 1), ⟨by omega, by rw [he, encN_ge (by omega)]; simp⟩, by show m / 128 < m; omega, ⟨congrArg (AV.int .u64) hqm, by rw [List.length_append]; rfl, trivial⟩, ?_⟩
      show HLe (H.set r (.row (u8s (pre ++ [UInt8.ofNat (m % 128 + 128)])) (u + 1))) _
      rw [← u8s_append]
      show HLe (H.set r (.row (u8s pre ++ [.int .u8 ((UInt8.ofNat (m % 128 + 128)).toNat : Int)]) (u + 1))) _
      rw [← hbm]
      exact HLe.twice _ _ _ _
    · have e : (m : Int) = ((UInt8.ofNat m).toNat : Int) := by rw [u8_ofNat (by omega)]
      rw [he, encN_lt (by omega)]
      refine ⟨u + 1, by rw [List.length_append]; rfl, ?_⟩
      rw [← u8s_append]
      refine (AH.set_set H r _ _).trans ?_
      rw [e]
      rfl

theorem eUint_k (n : Nat) (hn : n < 2 ^ 64) (H : AH) : ACall Try.prog 44 [.int .u64 n] H (fun y H' => y = .cs (u8s (encN n)) (encN n).length ∧ H' = H) :=
  ACall.cold (es := 1) (by simp) (eUint_s n hn H)

set_option maxRecDepth 8000 in
theorem eInt_k (n : Int) (hn : I64 n) (H : AH) : ACall Try.prog 45 [.int .i64 n] H (fun y H' => y = .cs (u8s (encI n)) (encI n).length ∧ H' = H) := by
  refine ACall_of tt_ok (dok _) Try.func45 rfl (by decide) rfl ?_
  (repeat' ((conv => whnf); first | refine Then.mk ?_ | left | refine OpsA.cons ?_ | refine OpsA.nil ?_ | refine AWq.seq ?_ | refine AWq.region ?_ | refine AWq.cond ?_ | refine AWq.block ?_ | refine AWq.skip ?_ | refine AWq.ret ?_ | refine AWq.exit ?_ | refine AWq.loop ?_ | refine AWq.rangeFunc ?_ | refine DrawA.consD ?_ | refine DrawA.nil ?_ | refine AWq.draw (by decide +kernel) ?_ | (refine ACall.to (ezig_c n hn.1 hn.2 _) ?_) | (refine ACall.to (eUint_k (zz n) (zz_lt hn.1 hn.2) _) ?_) | (apply Exists.intro; apply And.intro; exact ezig_c n hn.1 hn.2 _) | (apply Exists.intro; apply And.intro; exact eUint_k (zz n) (zz_lt hn.1 hn.2) _) | (apply Exists.intro; apply Exists.intro; apply And.intro; exact ezig_c n hn.1 hn.2 _) | (apply Exists.intro; apply Exists.intro; apply And.intro; exact eUint_k (zz n) (zz_lt hn.1 hn.2) _) | (refine Both.mk ?_ ?_ <;> intro hc <;> (first | exact Bool.noConfusion hc | exact absurd (by with_reducible rfl) hc | exact (hc : False).elim | exact absurd (by assumption) hc | exact absurd hc (by assumption) | (exfalso; omega) | exact absurd hc (by decide) | skip)) | (intro c hc; (try (simp only [AH.none_iff] at hc; repeat (have hn := hc.1; replace hc := hc.2))); (first | (refine i64_k hc ?_ ?_ ?_ ; omega; omega; (clear hc; intro hc; subst hc)) | (refine u64_k hc ?_ ?_ ?_ ; omega; omega; (clear hc; intro hc; subst hc)) | (refine u8_k hc ?_ ?_ ?_ ; omega; omega; (clear hc; intro hc; subst hc)) | subst hc | skip)) | (apply Exists.intro; apply And.intro; (focus (repeat (first | assumption | exact AH.set_same _ _ _ | ((first | refine AH.get_ne ?_ ?_ | refine AH.getd_ne ?_ ?_); (first | assumption | omega | exact Ne.symm (by assumption) | exact AH.ne_none (by assumption) (by assumption) | exact AH.none_ne (by assumption) (by assumption) | exact (AH.none_set (by assumption)).1 | exact Ne.symm (AH.none_set (by assumption)).1)))); done)) | (apply Exists.intro; apply And.intro; (try simp only [List.getElem?_drop, Nat.mul_one, Nat.add_zero, Nat.zero_add]); first | (refine u8s_get ?_; omega) | (refine iS_get ?_; omega) | assumption | rfl | fail) | (apply And.intro; (first | rfl | assumption | exact Nat.le_of_ble_eq_true rfl | omega | (simp <;> fail) | (simp <;> omega) | (focus (repeat' (first | exact one_u8s _ | exact one_iS _ _ | rfl | apply one_take | apply one_drop | apply one_append)); done) | fail)) | fail)) <;> (try (conv => whnf))

set_option maxRecDepth 8000 in
theorem eBool_k (t : Bool) (H : AH) : ACall Try.prog 46 [.bool t] H (fun y H' => y = .cs (u8s (encB t)) (encB t).length ∧ H' = H) := by
  cases t
  · refine ACall_of tt_ok (dok _) Try.func46 rfl (by decide) rfl ?_
    (repeat' ((conv => whnf); first | refine Then.mk ?_ | left | refine OpsA.cons ?_ | refine OpsA.nil ?_ | refine AWq.seq ?_ | refine AWq.region ?_ | refine AWq.cond ?_ | refine AWq.block ?_ | refine AWq.skip ?_ | refine AWq.ret ?_ | refine AWq.exit ?_ | refine AWq.loop ?_ | refine AWq.rangeFunc ?_ | refine DrawA.consD ?_ | refine DrawA.nil ?_ | refine AWq.draw (by decide +kernel) ?_ | (refine Both.mk ?_ ?_ <;> intro hc <;> (first | exact Bool.noConfusion hc | exact absurd (by with_reducible rfl) hc | exact (hc : False).elim | exact absurd (by assumption) hc | exact absurd hc (by assumption) | (exfalso; omega) | exact absurd hc (by decide) | skip)) | (intro c hc; (try (simp only [AH.none_iff] at hc; repeat (have hn := hc.1; replace hc := hc.2))); (first | (refine i64_k hc ?_ ?_ ?_ ; omega; omega; (clear hc; intro hc; subst hc)) | (refine u64_k hc ?_ ?_ ?_ ; omega; omega; (clear hc; intro hc; subst hc)) | (refine u8_k hc ?_ ?_ ?_ ; omega; omega; (clear hc; intro hc; subst hc)) | subst hc | skip)) | (apply Exists.intro; apply And.intro; (focus (repeat (first | assumption | exact AH.set_same _ _ _ | ((first | refine AH.get_ne ?_ ?_ | refine AH.getd_ne ?_ ?_); (first | assumption | omega | exact Ne.symm (by assumption) | exact AH.ne_none (by assumption) (by assumption) | exact AH.none_ne (by assumption) (by assumption) | exact (AH.none_set (by assumption)).1 | exact Ne.symm (AH.none_set (by assumption)).1)))); done)) | (apply Exists.intro; apply And.intro; (try simp only [List.getElem?_drop, Nat.mul_one, Nat.add_zero, Nat.zero_add]); first | (refine u8s_get ?_; omega) | (refine iS_get ?_; omega) | assumption | rfl | fail) | (apply And.intro; (first | rfl | assumption | exact Nat.le_of_ble_eq_true rfl | omega | (simp <;> fail) | (simp <;> omega) | (focus (repeat' (first | exact one_u8s _ | exact one_iS _ _ | rfl | apply one_take | apply one_drop | apply one_append)); done) | fail)) | fail)) <;> (try (conv => whnf))
  · refine ACall_of tt_ok (dok _) Try.func46 rfl (by decide) rfl ?_
    (repeat' ((conv => whnf); first | refine Then.mk ?_ | left | refine OpsA.cons ?_ | refine OpsA.nil ?_ | refine AWq.seq ?_ | refine AWq.region ?_ | refine AWq.cond ?_ | refine AWq.block ?_ | refine AWq.skip ?_ | refine AWq.ret ?_ | refine AWq.exit ?_ | refine AWq.loop ?_ | refine AWq.rangeFunc ?_ | refine DrawA.consD ?_ | refine DrawA.nil ?_ | refine AWq.draw (by decide +kernel) ?_ | (refine Both.mk ?_ ?_ <;> intro hc <;> (first | exact Bool.noConfusion hc | exact absurd (by with_reducible rfl) hc | exact (hc : False).elim | exact absurd (by assumption) hc | exact absurd hc (by assumption) | (exfalso; omega) | exact absurd hc (by decide) | skip)) | (intro c hc; (try (simp only [AH.none_iff] at hc; repeat (have hn := hc.1; replace hc := hc.2))); (first | (refine i64_k hc ?_ ?_ ?_ ; omega; omega; (clear hc; intro hc; subst hc)) | (refine u64_k hc ?_ ?_ ?_ ; omega; omega; (clear hc; intro hc; subst hc)) | (refine u8_k hc ?_ ?_ ?_ ; omega; omega; (clear hc; intro hc; subst hc)) | subst hc | skip)) | (apply Exists.intro; apply And.intro; (focus (repeat (first | assumption | exact AH.set_same _ _ _ | ((first | refine AH.get_ne ?_ ?_ | refine AH.getd_ne ?_ ?_); (first | assumption | omega | exact Ne.symm (by assumption) | exact AH.ne_none (by assumption) (by assumption) | exact AH.none_ne (by assumption) (by assumption) | exact (AH.none_set (by assumption)).1 | exact Ne.symm (AH.none_set (by assumption)).1)))); done)) | (apply Exists.intro; apply And.intro; (try simp only [List.getElem?_drop, Nat.mul_one, Nat.add_zero, Nat.zero_add]); first | (refine u8s_get ?_; omega) | (refine iS_get ?_; omega) | assumption | rfl | fail) | (apply And.intro; (first | rfl | assumption | exact Nat.le_of_ble_eq_true rfl | omega | (simp <;> fail) | (simp <;> omega) | (focus (repeat' (first | exact one_u8s _ | exact one_iS _ _ | rfl | apply one_take | apply one_drop | apply one_append)); done) | fail)) | fail)) <;> (try (conv => whnf))

set_option maxRecDepth 8000 in
theorem eRaw_k (b : List UInt8) (hb : b.length ≤ 100000) (H : AH) : ACall Try.prog 47 [.cs (u8s b) b.length] H (fun y H' => y = .cs (u8s (encR b)) (encR b).length ∧ H' = H) := by
  refine ACall.cold (es := 1) (by simp) ?_
  have hl10 := encN_len10 (n := b.length) (by omega)
  refine ACall_of tt_ok (dok _) Try.func47 rfl (by decide) rfl ?_
  (repeat' ((conv => whnf); first | refine Then.mk ?_ | left | refine OpsA.cons ?_ | refine OpsA.nil ?_ | refine AWq.seq ?_ | refine AWq.region ?_ | refine AWq.cond ?_ | refine AWq.block ?_ | refine AWq.skip ?_ | refine AWq.ret ?_ | refine AWq.exit ?_ | refine AWq.loop ?_ | refine AWq.rangeFunc ?_ | refine DrawA.consD ?_ | refine DrawA.nil ?_ | refine AWq.draw (by decide +kernel) ?_ | (refine Both.mk ?_ ?_ <;> intro hc <;> (first | exact Bool.noConfusion hc | exact absurd (by with_reducible rfl) hc | exact (hc : False).elim | exact absurd (by assumption) hc | exact absurd hc (by assumption) | (exfalso; omega) | exact absurd hc (by decide) | skip)) | (intro c hc; (try (simp only [AH.none_iff] at hc; repeat (have hn := hc.1; replace hc := hc.2))); (first | (refine i64_k hc ?_ ?_ ?_ ; omega; omega; (clear hc; intro hc; subst hc)) | (refine u64_k hc ?_ ?_ ?_ ; omega; omega; (clear hc; intro hc; subst hc)) | (refine u8_k hc ?_ ?_ ?_ ; omega; omega; (clear hc; intro hc; subst hc)) | subst hc | skip)) | (apply Exists.intro; apply And.intro; (focus (repeat (first | assumption | exact AH.set_same _ _ _ | ((first | refine AH.get_ne ?_ ?_ | refine AH.getd_ne ?_ ?_); (first | assumption | omega | exact Ne.symm (by assumption) | exact AH.ne_none (by assumption) (by assumption) | exact AH.none_ne (by assumption) (by assumption) | exact (AH.none_set (by assumption)).1 | exact Ne.symm (AH.none_set (by assumption)).1)))); done)) | (apply Exists.intro; apply And.intro; (try simp only [List.getElem?_drop, Nat.mul_one, Nat.add_zero, Nat.zero_add]); first | (refine u8s_get ?_; omega) | (refine iS_get ?_; omega) | assumption | rfl | fail) | (apply And.intro; (first | rfl | assumption | exact Nat.le_of_ble_eq_true rfl | omega | (simp <;> fail) | (simp <;> omega) | (focus (repeat' (first | exact one_u8s _ | exact one_iS _ _ | rfl | apply one_take | apply one_drop | apply one_append)); done) | fail)) | fail)) <;> (try (conv => whnf))
  refine (eUint_s b.length (by omega) _).mono ?_
  rintro y H' ⟨r, hr, v, rfl, rfl⟩
  (repeat' ((conv => whnf); first | refine Then.mk ?_ | refine OpsA.cons ?_ | refine OpsA.nil ?_ | refine AWq.seq ?_ | refine AWq.region ?_ | refine AWq.cond ?_ | refine AWq.block ?_ | refine AWq.skip ?_ | refine AWq.ret ?_ | refine AWq.exit ?_ | refine AWq.loop ?_ | refine AWq.rangeFunc ?_ | refine DrawA.consD ?_ | refine DrawA.nil ?_ | refine AWq.draw (by decide +kernel) ?_ | (refine Both.mk ?_ ?_ <;> intro hc <;> (first | exact Bool.noConfusion hc | exact absurd (by with_reducible rfl) hc | exact (hc : False).elim | exact absurd (by assumption) hc | exact absurd hc (by assumption) | (exfalso; omega) | exact absurd hc (by decide) | skip)) | (intro c hc; (try (simp only [AH.none_iff] at hc; repeat (have hn := hc.1; replace hc := hc.2))); (first | (refine i64_k hc ?_ ?_ ?_ ; omega; omega; (clear hc; intro hc; subst hc)) | (refine u64_k hc ?_ ?_ ?_ ; omega; omega; (clear hc; intro hc; subst hc)) | (refine u8_k hc ?_ ?_ ?_ ; omega; omega; (clear hc; intro hc; subst hc)) | subst hc | skip)) | (apply Exists.intro; apply And.intro; (focus (repeat (first | assumption | exact AH.set_same _ _ _ | ((first | refine AH.get_ne ?_ ?_ | refine AH.getd_ne ?_ ?_); (first | assumption | omega | exact Ne.symm (by assumption) | exact AH.ne_none (by assumption) (by assumption) | exact AH.none_ne (by assumption) (by assumption) | exact (AH.none_set (by assumption)).1 | exact Ne.symm (AH.none_set (by assumption)).1)))); done)) | (apply Exists.intro; apply And.intro; (try simp only [List.getElem?_drop, Nat.mul_one, Nat.add_zero, Nat.zero_add]); first | (refine u8s_get ?_; omega) | (refine iS_get ?_; omega) | assumption | rfl | fail) | (apply And.intro; (first | rfl | assumption | exact Nat.le_of_ble_eq_true rfl | omega | (simp <;> fail) | (simp <;> omega) | (focus (repeat' (first | exact one_u8s _ | exact one_iS _ _ | rfl | apply one_take | apply one_drop | apply one_append)); done) | fail)) | fail)) <;> (try (conv => whnf))
  refine ⟨v + 1, ?_, ?_⟩
  · unfold encR; rw [List.length_append]
  · unfold encR
    rw [← u8s_append]
    exact AH.set_set H r _ _

set_option maxRecDepth 8000 in
theorem eInts_k (l : List Int) (hl : l.length ≤ 5000) (hr : ∀ x ∈ l, I64 x) (H : AH) : ACall Try.prog 48 [.cs (iS .i64 l) l.length] H (fun y H' => y = .cs (u8s (encL l)) (encL l).length ∧ H' = H) := by
  refine ACall.cold (es := 1) (by simp) ?_
  have hl10 := encN_len10 (n := l.length) (by omega)
  have hlen : ∀ k, (encN l.length ++ encIs (l.take k)).length ≤ 60000 := fun k => by
    have := encIs_len10 (l.take k) (fun x h => hr x (List.mem_of_mem_take h))
    rw [List.length_take] at this
    rw [List.length_append]; omega
  refine ACall_of tt_ok (dok _) Try.func48 rfl (by decide) rfl ?_
  (repeat' ((conv => whnf); first | refine Then.mk ?_ | left | refine OpsA.cons ?_ | refine OpsA.nil ?_ | refine AWq.seq ?_ | refine AWq.region ?_ | refine AWq.cond ?_ | refine AWq.block ?_ | refine AWq.skip ?_ | refine AWq.ret ?_ | refine AWq.exit ?_ | refine AWq.loop ?_ | refine AWq.rangeFunc ?_ | refine DrawA.consD ?_ | refine DrawA.nil ?_ | refine AWq.draw (by decide +kernel) ?_ | (refine Both.mk ?_ ?_ <;> intro hc <;> (first | exact Bool.noConfusion hc | exact absurd (by with_reducible rfl) hc | exact (hc : False).elim | exact absurd (by assumption) hc | exact absurd hc (by assumption) | (exfalso; omega) | exact absurd hc (by decide) | skip)) | (intro c hc; (try (simp only [AH.none_iff] at hc; repeat (have hn := hc.1; replace hc := hc.2))); (first | (refine i64_k hc ?_ ?_ ?_ ; omega; omega; (clear hc; intro hc; subst hc)) | (refine u64_k hc ?_ ?_ ?_ ; omega; omega; (clear hc; intro hc; subst hc)) | (refine u8_k hc ?_ ?_ ?_ ; omega; omega; (clear hc; intro hc; subst hc)) | subst hc | skip)) | (apply Exists.intro; apply And.intro; (focus (repeat (first | assumption | exact AH.set_same _ _ _ | ((first | refine AH.get_ne ?_ ?_ | refine AH.getd_ne ?_ ?_); (first | assumption | omega | exact Ne.symm (by assumption) | exact AH.ne_none (by assumption) (by assumption) | exact AH.none_ne (by assumption) (by assumption) | exact (AH.none_set (by assumption)).1 | exact Ne.symm (AH.none_set (by assumption)).1)))); done)) | (apply Exists.intro; apply And.intro; (try simp only [List.getElem?_drop, Nat.mul_one, Nat.add_zero, Nat.zero_add]); first | (refine u8s_get ?_; omega) | (refine iS_get ?_; omega) | assumption | rfl | fail) | (apply And.intro; (first | rfl | assumption | exact Nat.le_of_ble_eq_true rfl | omega | (simp <;> fail) | (simp <;> omega) | (focus (repeat' (first | exact one_u8s _ | exact one_iS _ _ | rfl | apply one_take | apply one_drop | apply one_append)); done) | fail)) | fail)) <;> (try (conv => whnf))
  refine (eUint_s l.length (by omega) _).mono ?_
  rintro y H' ⟨r, hr0, v, rfl, rfl⟩
  (repeat' ((conv => whnf); first | refine Then.mk ?_ | left | refine OpsA.cons ?_ | refine OpsA.nil ?_ | refine AWq.seq ?_ | refine AWq.region ?_ | refine AWq.cond ?_ | refine AWq.block ?_ | refine AWq.skip ?_ | refine AWq.ret ?_ | refine AWq.exit ?_ | refine AWq.loop ?_ | refine AWq.rangeFunc ?_ | refine DrawA.consD ?_ | refine DrawA.nil ?_ | refine AWq.draw (by decide +kernel) ?_ | (refine Both.mk ?_ ?_ <;> intro hc <;> (first | exact Bool.noConfusion hc | exact absurd (by with_reducible rfl) hc | exact (hc : False).elim | exact absurd (by assumption) hc | exact absurd hc (by assumption) | (exfalso; omega) | exact absurd hc (by decide) | skip)) | (intro c hc; (try (simp only [AH.none_iff] at hc; repeat (have hn := hc.1; replace hc := hc.2))); (first | (refine i64_k hc ?_ ?_ ?_ ; omega; omega; (clear hc; intro hc; subst hc)) | (refine u64_k hc ?_ ?_ ?_ ; omega; omega; (clear hc; intro hc; subst hc)) | (refine u8_k hc ?_ ?_ ?_ ; omega; omega; (clear hc; intro hc; subst hc)) | subst hc | skip)) | (apply Exists.intro; apply And.intro; (focus (repeat (first | assumption | exact AH.set_same _ _ _ | ((first | refine AH.get_ne ?_ ?_ | refine AH.getd_ne ?_ ?_); (first | assumption | omega | exact Ne.symm (by assumption) | exact AH.ne_none (by assumption) (by assumption) | exact AH.none_ne (by assumption) (by assumption) | exact (AH.none_set (by assumption)).1 | exact Ne.symm (AH.none_set (by assumption)).1)))); done)) | (apply Exists.intro; apply And.intro; (try simp only [List.getElem?_drop, Nat.mul_one, Nat.add_zero, Nat.zero_add]); first | (refine u8s_get ?_; omega) | (refine iS_get ?_; omega) | assumption | rfl | fail) | (apply And.intro; (first | rfl | assumption | exact Nat.le_of_ble_eq_true rfl | omega | (simp <;> fail) | (simp <;> omega) | (focus (repeat' (first | exact one_u8s _ | exact one_iS _ _ | rfl | apply one_take | apply one_drop | apply one_append)); done) | fail)) | fail)) <;> (try (conv => whnf))
  refine AWp_loop (σ := Nat × Nat) (3 :: 4 :: 9 :: 10 :: 11 :: 12 :: 13 :: 14 :: 15 :: 16 :: 17 :: 18 :: 19 :: 20 :: 21 :: []) (fun (k, u) => [(4, .int .i64 k), (3, .sl r u 1 0 (encN l.length ++ encIs (l.take k)).length none)]) (fun (k, u) => AH.set H r (.row (u8s (encN l.length ++ encIs (l.take k))) u)) (fun (k, u) => k ≤ l.length) (fun (k, u) => l.length - k) (0, v) rfl ?_ ?_ ?_ ?_
  · exact Nat.zero_le _
  · refine ⟨rfl, ?_, trivial⟩
    show _ = AV.sl r v 1 0 (encN l.length ++ []).length none
    rw [List.append_nil]; rfl
  · show HLe (AH.set H r (.row (u8s (encN l.length ++ [])) v)) _
    rw [List.append_nil]; exact HLe.refl _
  · rintro ⟨k, u⟩ hk
    have hk : k ≤ l.length := hk
    refine AWp.of tt_ok (dok _) rfl ?_
    have hlk := hlen k
    by_cases hk' : k < l.length
    · have hx : I64 (l.getD (k : Int).toNat 0) := by
        have : l.getD (k : Int).toNat 0 = l[k] := by rw [Int.toNat_natCast]; simp [hk']
        rw [this]; exact hr _ (List.getElem_mem hk')
      have hxl := encI_len hx
      have hst : encIs (l.take (k + 1)) = encIs (l.take k) ++ encI (l.getD (k : Int).toNat 0) := by
        have e : l.getD (k : Int).toNat 0 = l[k] := by rw [Int.toNat_natCast]; simp [hk']
        rw [e, List.take_add_one, List.getElem?_eq_getElem hk']
        unfold encIs; rw [List.flatMap_append]; simp
      (repeat' ((conv => whnf); first | refine Then.mk ?_ | left | refine OpsA.cons ?_ | refine OpsA.nil ?_ | refine AWq.seq ?_ | refine AWq.region ?_ | refine AWq.cond ?_ | refine AWq.block ?_ | refine AWq.skip ?_ | refine AWq.ret ?_ | refine AWq.exit ?_ | refine AWq.loop ?_ | refine AWq.rangeFunc ?_ | refine DrawA.consD ?_ | refine DrawA.nil ?_ | refine AWq.draw (by decide +kernel) ?_ | (refine ACall.to (eInt_k (l.getD (k : Int).toNat 0) hx _) ?_) | (apply Exists.intro; apply And.intro; exact eInt_k (l.getD (k : Int).toNat 0) hx _) | (apply Exists.intro; apply Exists.intro; apply And.intro; exact eInt_k (l.getD (k : Int).toNat 0) hx _) | (refine Both.mk ?_ ?_ <;> intro hc <;> (first | exact Bool.noConfusion hc | exact absurd (by with_reducible rfl) hc | exact (hc : False).elim | exact absurd (by assumption) hc | exact absurd hc (by assumption) | (exfalso; omega) | exact absurd hc (by decide) | skip)) | (intro c hc; (try (simp only [AH.none_iff] at hc; repeat (have hn := hc.1; replace hc := hc.2))); (first | (refine i64_k hc ?_ ?_ ?_ ; omega; omega; (clear hc; intro hc; subst hc)) | (refine u64_k hc ?_ ?_ ?_ ; omega; omega; (clear hc; intro hc; subst hc)) | (refine u8_k hc ?_ ?_ ?_ ; omega; omega; (clear hc; intro hc; subst hc)) | subst hc | skip)) | (apply Exists.intro; apply And.intro; (focus (repeat (first | assumption | exact AH.set_same _ _ _ | ((first | refine AH.get_ne ?_ ?_ | refine AH.getd_ne ?_ ?_); (first | assumption | omega | exact Ne.symm (by assumption) | exact AH.ne_none (by assumption) (by assumption) | exact AH.none_ne (by assumption) (by assumption) | exact (AH.none_set (by assumption)).1 | exact Ne.symm (AH.none_set (by assumption)).1)))); done)) | (apply Exists.intro; apply And.intro; (try simp only [List.getElem?_drop, Nat.mul_one, Nat.add_zero, Nat.zero_add]); first | (refine u8s_get ?_; omega) | (refine iS_get ?_; omega) | assumption | rfl | fail) | (apply And.intro; (first | rfl | assumption | exact Nat.le_of_ble_eq_true rfl | omega | (simp <;> fail) | (simp <;> omega) | (focus (repeat' (first | exact one_u8s _ | exact one_iS _ _ | rfl | apply one_take | apply one_drop | apply one_append)); done) | fail)) | fail)) <;> (try (conv => whnf))
      refine ⟨(k + 1, u + 1), by show k + 1 ≤ l.length; omega, by show l.length - (k + 1) < l.length - k; omega, ⟨congrArg (AV.int .i64) (by omega), ?_, trivial⟩, ?_⟩
      · show _ = AV.sl r (u + 1) 1 0 (encN l.length ++ encIs (l.take (k + 1))).length none
        rw [hst, ← List.append_assoc, List.length_append (bs := encI _)]; rfl
      · show HLe (AH.set H r (.row (u8s (encN l.length ++ encIs (l.take (k + 1)))) (u + 1))) _
        rw [hst, ← List.append_assoc, ← u8s_append (encN l.length ++ _)]
        exact HLe.twice _ _ _ _
    · have hkl : k = l.length := by omega
      subst hkl
      (repeat' ((conv => whnf); first | refine Then.mk ?_ | refine OpsA.cons ?_ | refine OpsA.nil ?_ | refine AWq.seq ?_ | refine AWq.region ?_ | refine AWq.cond ?_ | refine AWq.block ?_ | refine AWq.skip ?_ | refine AWq.ret ?_ | refine AWq.exit ?_ | refine AWq.loop ?_ | refine AWq.rangeFunc ?_ | refine DrawA.consD ?_ | refine DrawA.nil ?_ | refine AWq.draw (by decide +kernel) ?_ | (refine Both.mk ?_ ?_ <;> intro hc <;> (first | exact Bool.noConfusion hc | exact absurd (by with_reducible rfl) hc | exact (hc : False).elim | exact absurd (by assumption) hc | exact absurd hc (by assumption) | (exfalso; omega) | exact absurd hc (by decide) | skip)) | (intro c hc; (try (simp only [AH.none_iff] at hc; repeat (have hn := hc.1; replace hc := hc.2))); (first | (refine i64_k hc ?_ ?_ ?_ ; omega; omega; (clear hc; intro hc; subst hc)) | (refine u64_k hc ?_ ?_ ?_ ; omega; omega; (clear hc; intro hc; subst hc)) | (refine u8_k hc ?_ ?_ ?_ ; omega; omega; (clear hc; intro hc; subst hc)) | subst hc | skip)) | (apply Exists.intro; apply And.intro; (focus (repeat (first | assumption | exact AH.set_same _ _ _ | ((first | refine AH.get_ne ?_ ?_ | refine AH.getd_ne ?_ ?_); (first | assumption | omega | exact Ne.symm (by assumption) | exact AH.ne_none (by assumption) (by assumption) | exact AH.none_ne (by assumption) (by assumption) | exact (AH.none_set (by assumption)).1 | exact Ne.symm (AH.none_set (by assumption)).1)))); done)) | (apply Exists.intro; apply And.intro; (try simp only [List.getElem?_drop, Nat.mul_one, Nat.add_zero, Nat.zero_add]); first | (refine u8s_get ?_; omega) | (refine iS_get ?_; omega) | assumption | rfl | fail) | (apply And.intro; (first | rfl | assumption | exact Nat.le_of_ble_eq_true rfl | omega | (simp <;> fail) | (simp <;> omega) | (focus (repeat' (first | exact one_u8s _ | exact one_iS _ _ | rfl | apply one_take | apply one_drop | apply one_append)); done) | fail)) | fail)) <;> (try (conv => whnf))
      refine ⟨u, ?_, ?_⟩
      · rw [List.take_length]; rfl
      · show AH.set H r (.row (u8s (encN l.length ++ encIs (l.take l.length))) u) = _
        rw [List.take_length]; rfl

set_option maxRecDepth 8000 in
theorem Encode_s (vs : List V) (hv : ∀ v ∈ vs, VSm v) (hl : vs.length ≤ 100) (H : AH) :
    ACall Try.prog 18 [.cs (vsA vs) vs.length] H (fun y H' => ∃ r, H r = none ∧ ∃ v, y = .sl r v 1 0 (encVs vs).length none ∧ H' = H.set r (.row (u8s (encVs vs)) v)) := by
  have hlen : ∀ i, (encVs (vs.take i)).length ≤ 30000 := fun i => by
    have := encVs_len (vs.take i) (fun v h => hv v (List.mem_of_mem_take h))
    rw [List.length_take] at this; omega
  have hvl := vsA_len vs
  refine ACall_of tt_ok (dok _) Try.func18 rfl (by decide) rfl ?_
  (repeat' ((conv => whnf); first | refine Then.mk ?_ | left | refine OpsA.cons ?_ | refine OpsA.nil ?_ | refine AWq.seq ?_ | refine AWq.region ?_ | refine AWq.cond ?_ | refine AWq.block ?_ | refine AWq.skip ?_ | refine AWq.ret ?_ | refine AWq.exit ?_ | refine AWq.loop ?_ | refine AWq.rangeFunc ?_ | refine DrawA.consD ?_ | refine DrawA.nil ?_ | refine AWq.draw (by decide +kernel) ?_ | (refine Both.mk ?_ ?_ <;> intro hc <;> (first | exact Bool.noConfusion hc | exact absurd (by with_reducible rfl) hc | exact (hc : False).elim | exact absurd (by assumption) hc | exact absurd hc (by assumption) | (exfalso; omega) | exact absurd hc (by decide) | skip)) | (intro c hc; (try (simp only [AH.none_iff] at hc; repeat (have hn := hc.1; replace hc := hc.2))); (first | (refine i64_k hc ?_ ?_ ?_ ; omega; omega; (clear hc; intro hc; subst hc)) | (refine u64_k hc ?_ ?_ ?_ ; omega; omega; (clear hc; intro hc; subst hc)) | (refine u8_k hc ?_ ?_ ?_ ; omega; omega; (clear hc; intro hc; subst hc)) | subst hc | skip)) | (apply Exists.intro; apply And.intro; (focus (repeat (first | assumption | exact AH.set_same _ _ _ | ((first | refine AH.get_ne ?_ ?_ | refine AH.getd_ne ?_ ?_); (first | assumption | omega | exact Ne.symm (by assumption) | exact AH.ne_none (by assumption) (by assumption) | exact AH.none_ne (by assumption) (by assumption) | exact (AH.none_set (by assumption)).1 | exact Ne.symm (AH.none_set (by assumption)).1)))); done)) | (apply Exists.intro; apply And.intro; (try simp only [List.getElem?_drop, Nat.mul_one, Nat.add_zero, Nat.zero_add]); first | (refine u8s_get ?_; omega) | (refine iS_get ?_; omega) | assumption | rfl | fail) | (apply And.intro; (first | rfl | assumption | exact Nat.le_of_ble_eq_true rfl | omega | (simp <;> fail) | (simp <;> omega) | (focus (repeat' (first | exact one_u8s _ | exact one_iS _ _ | rfl | apply one_take | apply one_drop | apply one_append)); done) | fail)) | fail)) <;> (try (conv => whnf))
  refine AWp_nilrow1 3 1 rfl rfl fun r hr => ?_
  refine AWp_loop (σ := Nat × Nat) (3 :: 4 :: 5 :: 6 :: 7 :: 8 :: 9 :: 10 :: 11 :: 12 :: 13 :: 14 :: 15 :: 16 :: 17 :: 18 :: 19 :: 20 :: 21 :: 22 :: 23 :: 24 :: 25 :: 26 :: 27 :: 28 :: 29 :: 30 :: 31 :: 32 :: 33 :: 34 :: 35 :: 36 :: 37 :: 38 :: 39 :: 40 :: 41 :: 42 :: 43 :: 44 :: 45 :: 46 :: 47 :: 48 :: 49 :: 50 :: 51 :: 52 :: 53 :: 54 :: 55 :: 56 :: 57 :: 58 :: 59 :: 60 :: 61 :: 62 :: 63 :: 64 :: 65 :: []) (fun (i, u) => [(4, .int .i64 i), (3, .sl r u 1 0 (encVs (vs.take i)).length none)]) (fun (i, u) => AH.set H r (.row (u8s (encVs (vs.take i))) u)) (fun (i, u) => i ≤ vs.length) (fun (i, u) => vs.length - i) (0, 0) rfl ?_ ?_ ?_ ?_
  · exact Nat.zero_le _
  · exact ⟨rfl, rfl, trivial⟩
  · exact HLe.refl _
  · rintro ⟨i, u⟩ hi
    have hi : i ≤ vs.length := hi
    refine AWp.of tt_ok (dok _) rfl ?_
    have hlk := hlen i
    by_cases hil : i < vs.length
    · have hsm := hv vs[i] (List.getElem_mem hil)
      have hg : ∀ f, f < 5 → (vsA vs)[(i : Int).toNat * 5 + f]? = (vA vs[i])[f]? := by
        intro f hf
        have := vsA_get (i := i) (List.getElem?_eq_getElem hil)
        have := congrArg (·[f]?) this
        simp only [List.getElem?_take, List.getElem?_drop] at this
        rw [if_pos hf] at this
        rw [Int.toNat_natCast, this]
      have hle := encV_len hsm
      have htk := encVs_take hil
      have huv : (vs[i]).u < 2 ^ 64 := hsm.ok.u
      have hnv := hsm.ok.n
      have hbv := hsm.b
      have hlv := hsm.l
      have hliv := hsm.ok.l
      have hkv := hsm.ok.k
      generalize vs[i] = w at *
      obtain ⟨k, uu, n, b, l⟩ := w
      dsimp only at *
      have g0 : (vsA vs)[(i : Int).toNat * 5]? = some (.int .i64 k) := hg 0 (by omega)
      have g1 : (vsA vs)[(i : Int).toNat * 5 + 1]? = some (.int .u64 uu) := hg 1 (by omega)
      have g2 : (vsA vs)[(i : Int).toNat * 5 + 2]? = some (.int .i64 n) := hg 2 (by omega)
      have g3 : (vsA vs)[(i : Int).toNat * 5 + 3]? = some (.cs (u8s b) b.length) := hg 3 (by omega)
      have g4 : (vsA vs)[(i : Int).toNat * 5 + 4]? = some (.cs (iS .i64 l) l.length) := hg 4 (by omega)
      clear hg
      have c1 := fun H => eUint_k uu huv H
      have c2 := fun H => eInt_k n hnv H
      have c3 := fun t H => eBool_k t H
      have c4 := fun H => eRaw_k b (by omega) H
      have c5 := fun H => eInts_k l (by omega) hliv H
      have hev : ∀ x, encV ⟨k, uu, n, b, l⟩ = x → (u8s (encVs (vs.take i)) ++ u8s x) = u8s (encVs (vs.take (i + 1))) ∧ (encVs (vs.take i)).length + x.length = (encVs (vs.take (i + 1))).length := fun x hx => by
        rw [htk, hx, u8s_append, List.length_append]; exact ⟨rfl, rfl⟩
      have l1 := encN_len10 huv
      have l2 := encI_len hnv
      have l4 : (encR b).length ≤ 300 := by
        have := encN_len10 (n := b.length) (by omega)
        unfold encR; rw [List.length_append]; omega
      have l5 : (encL l).length ≤ 300 := by
        have := encN_len10 (n := l.length) (by omega)
        have := encIs_len10 l hliv
        unfold encL; rw [List.length_append]; omega
      have l3 : (encB true).length = 1 := rfl
      have l3' : (encB false).length = 1 := rfl
      (repeat' ((conv => whnf); first | refine Then.mk ?_ | left | refine OpsA.cons ?_ | refine OpsA.nil ?_ | refine AWq.seq ?_ | refine AWq.region ?_ | refine AWq.cond ?_ | refine AWq.block ?_ | refine AWq.skip ?_ | refine AWq.ret ?_ | refine AWq.exit ?_ | refine AWq.loop ?_ | refine AWq.rangeFunc ?_ | refine DrawA.consD ?_ | refine DrawA.nil ?_ | refine AWq.draw (by decide +kernel) ?_ | (refine ACall.to (c1 _) ?_) | (refine ACall.to (c2 _) ?_) | (refine ACall.to (c3 _ _) ?_) | (refine ACall.to (c4 _) ?_) | (refine ACall.to (c5 _) ?_) | (apply Exists.intro; apply And.intro; exact c1 _) | (apply Exists.intro; apply And.intro; exact c2 _) | (apply Exists.intro; apply And.intro; exact c3 _ _) | (apply Exists.intro; apply And.intro; exact c4 _) | (apply Exists.intro; apply And.intro; exact c5 _) | (apply Exists.intro; apply Exists.intro; apply And.intro; exact c1 _) | (apply Exists.intro; apply Exists.intro; apply And.intro; exact c2 _) | (apply Exists.intro; apply Exists.intro; apply And.intro; exact c3 _ _) | (apply Exists.intro; apply Exists.intro; apply And.intro; exact c4 _) | (apply Exists.intro; apply Exists.intro; apply And.intro; exact c5 _) | (refine Both.mk ?_ ?_ <;> intro hc <;> (first | exact Bool.noConfusion hc | exact absurd (by with_reducible rfl) hc | exact (hc : False).elim | exact absurd (by assumption) hc | exact absurd hc (by assumption) | (exfalso; omega) | exact absurd hc (by decide) | skip)) | (intro c hc; (try (simp only [AH.none_iff] at hc; repeat (have hn := hc.1; replace hc := hc.2))); (first | (refine i64_k hc ?_ ?_ ?_ ; omega; omega; (clear hc; intro hc; subst hc)) | (refine u64_k hc ?_ ?_ ?_ ; omega; omega; (clear hc; intro hc; subst hc)) | (refine u8_k hc ?_ ?_ ?_ ; omega; omega; (clear hc; intro hc; subst hc)) | subst hc | skip)) | (apply Exists.intro; apply And.intro; (focus (repeat (first | assumption | exact AH.set_same _ _ _ | ((first | refine AH.get_ne ?_ ?_ | refine AH.getd_ne ?_ ?_); (first | assumption | omega | exact Ne.symm (by assumption) | exact AH.ne_none (by assumption) (by assumption) | exact AH.none_ne (by assumption) (by assumption) | exact (AH.none_set (by assumption)).1 | exact Ne.symm (AH.none_set (by assumption)).1)))); done)) | (apply Exists.intro; apply And.intro; (try simp only [List.getElem?_drop, Nat.mul_one, Nat.add_zero, Nat.zero_add]); first | (refine u8s_get ?_; omega) | (refine iS_get ?_; omega) | assumption | rfl | fail) | (apply And.intro; (first | rfl | assumption | exact Nat.le_of_ble_eq_true rfl | omega | (simp <;> fail) | (simp <;> omega) | (focus (repeat' (first | exact one_u8s _ | exact one_iS _ _ | rfl | apply one_take | apply one_drop | apply one_append)); done) | fail)) | fail)) <;> (try (conv => whnf))
      · have hx := hev (encN uu) (by unfold encV; dsimp only; rw [if_pos (by omega)])
        refine ⟨(i + 1, u + 1), by show i + 1 ≤ vs.length; omega, by show vs.length - (i + 1) < vs.length - i; omega, ⟨congrArg (AV.int .i64) (by omega), ?_, trivial⟩, ?_⟩
        · show _ = AV.sl r (u + 1) 1 0 (encVs (vs.take (i + 1))).length none
          rw [← hx.2]; rfl
        · show HLe (AH.set H r (.row (u8s (encVs (vs.take (i + 1)))) (u + 1))) _
          rw [← hx.1]; exact HLe.twice _ _ _ _
      · have hx := hev (encI n) (by unfold encV; dsimp only; rw [if_neg (by omega), if_pos (by omega)])
        refine ⟨(i + 1, u + 1), by show i + 1 ≤ vs.length; omega, by show vs.length - (i + 1) < vs.length - i; omega, ⟨congrArg (AV.int .i64) (by omega), ?_, trivial⟩, ?_⟩
        · show _ = AV.sl r (u + 1) 1 0 (encVs (vs.take (i + 1))).length none
          rw [← hx.2]; rfl
        · show HLe (AH.set H r (.row (u8s (encVs (vs.take (i + 1)))) (u + 1))) _
          rw [← hx.1]; exact HLe.twice _ _ _ _
      · have hx := hev (encB true) (by unfold encV; dsimp only; rw [if_neg (by omega), if_neg (by omega), if_pos (by omega), decide_eq_true (by assumption)])
        refine ⟨(i + 1, u + 1), by show i + 1 ≤ vs.length; omega, by show vs.length - (i + 1) < vs.length - i; omega, ⟨congrArg (AV.int .i64) (by omega), ?_, trivial⟩, ?_⟩
        · show _ = AV.sl r (u + 1) 1 0 (encVs (vs.take (i + 1))).length none
          rw [← hx.2]; rfl
        · show HLe (AH.set H r (.row (u8s (encVs (vs.take (i + 1)))) (u + 1))) _
          rw [← hx.1]; exact HLe.twice _ _ _ _
      · have hx := hev (encB false) (by unfold encV; dsimp only; rw [if_neg (by omega), if_neg (by omega), if_pos (by omega), decide_eq_false (by assumption)])
        refine ⟨(i + 1, u + 1), by show i + 1 ≤ vs.length; omega, by show vs.length - (i + 1) < vs.length - i; omega, ⟨congrArg (AV.int .i64) (by omega), ?_, trivial⟩, ?_⟩
        · show _ = AV.sl r (u + 1) 1 0 (encVs (vs.take (i + 1))).length none
          rw [← hx.2]; rfl
        · show HLe (AH.set H r (.row (u8s (encVs (vs.take (i + 1)))) (u + 1))) _
          rw [← hx.1]; exact HLe.twice _ _ _ _
      · have hx := hev (encR b) (by unfold encV; dsimp only; rw [if_neg (by omega), if_neg (by omega), if_neg (by omega), if_pos (by omega)])
        refine ⟨(i + 1, u + 1), by show i + 1 ≤ vs.length; omega, by show vs.length - (i + 1) < vs.length - i; omega, ⟨congrArg (AV.int .i64) (by omega), ?_, trivial⟩, ?_⟩
        · show _ = AV.sl r (u + 1) 1 0 (encVs (vs.take (i + 1))).length none
          rw [← hx.2]; rfl
        · show HLe (AH.set H r (.row (u8s (encVs (vs.take (i + 1)))) (u + 1))) _
          rw [← hx.1]; exact HLe.twice _ _ _ _
      · have hx := hev (encR b) (by unfold encV; dsimp only; rw [if_neg (by omega), if_neg (by omega), if_neg (by omega), if_pos (by omega)])
        refine ⟨(i + 1, u + 1), by show i + 1 ≤ vs.length; omega, by show vs.length - (i + 1) < vs.length - i; omega, ⟨congrArg (AV.int .i64) (by omega), ?_, trivial⟩, ?_⟩
        · show _ = AV.sl r (u + 1) 1 0 (encVs (vs.take (i + 1))).length none
          rw [← hx.2]; rfl
        · show HLe (AH.set H r (.row (u8s (encVs (vs.take (i + 1)))) (u + 1))) _
          rw [← hx.1]; exact HLe.twice _ _ _ _
      · have hx := hev (encL l) (by unfold encV; dsimp only; rw [if_neg (by omega), if_neg (by omega), if_neg (by omega), if_neg (by omega)])
        refine ⟨(i + 1, u + 1), by show i + 1 ≤ vs.length; omega, by show vs.length - (i + 1) < vs.length - i; omega, ⟨congrArg (AV.int .i64) (by omega), ?_, trivial⟩, ?_⟩
        · show _ = AV.sl r (u + 1) 1 0 (encVs (vs.take (i + 1))).length none
          rw [← hx.2]; rfl
        · show HLe (AH.set H r (.row (u8s (encVs (vs.take (i + 1)))) (u + 1))) _
          rw [← hx.1]; exact HLe.twice _ _ _ _
    · have hil' : i = vs.length := by omega
      subst hil'
      (repeat' ((conv => whnf); first | refine Then.mk ?_ | refine OpsA.cons ?_ | refine OpsA.nil ?_ | refine AWq.seq ?_ | refine AWq.region ?_ | refine AWq.cond ?_ | refine AWq.block ?_ | refine AWq.skip ?_ | refine AWq.ret ?_ | refine AWq.exit ?_ | refine AWq.loop ?_ | refine AWq.rangeFunc ?_ | refine DrawA.consD ?_ | refine DrawA.nil ?_ | refine AWq.draw (by decide +kernel) ?_ | (refine Both.mk ?_ ?_ <;> intro hc <;> (first | exact Bool.noConfusion hc | exact absurd (by with_reducible rfl) hc | exact (hc : False).elim | exact absurd (by assumption) hc | exact absurd hc (by assumption) | (exfalso; omega) | exact absurd hc (by decide) | skip)) | (intro c hc; (try (simp only [AH.none_iff] at hc; repeat (have hn := hc.1; replace hc := hc.2))); (first | (refine i64_k hc ?_ ?_ ?_ ; omega; omega; (clear hc; intro hc; subst hc)) | (refine u64_k hc ?_ ?_ ?_ ; omega; omega; (clear hc; intro hc; subst hc)) | (refine u8_k hc ?_ ?_ ?_ ; omega; omega; (clear hc; intro hc; subst hc)) | subst hc | skip)) | (apply Exists.intro; apply And.intro; (focus (repeat (first | assumption | exact AH.set_same _ _ _ | ((first | refine AH.get_ne ?_ ?_ | refine AH.getd_ne ?_ ?_); (first | assumption | omega | exact Ne.symm (by assumption) | exact AH.ne_none (by assumption) (by assumption) | exact AH.none_ne (by assumption) (by assumption) | exact (AH.none_set (by assumption)).1 | exact Ne.symm (AH.none_set (by assumption)).1)))); done)) | (apply Exists.intro; apply And.intro; (try simp only [List.getElem?_drop, Nat.mul_one, Nat.add_zero, Nat.zero_add]); first | (refine u8s_get ?_; omega) | (refine iS_get ?_; omega) | assumption | rfl | fail) | (apply And.intro; (first | rfl | assumption | exact Nat.le_of_ble_eq_true rfl | omega | (simp <;> fail) | (simp <;> omega) | (focus (repeat' (first | exact one_u8s _ | exact one_iS _ _ | rfl | apply one_take | apply one_drop | apply one_append)); done) | fail)) | fail)) <;> (try (conv => whnf))
      refine ⟨u, ?_, ?_⟩
      · rw [List.take_length]
      · show AH.set H r (.row (u8s (encVs (vs.take vs.length))) u) = _
        rw [List.take_length]
end Go.Proofs.Ytlelhddchgipeaa
