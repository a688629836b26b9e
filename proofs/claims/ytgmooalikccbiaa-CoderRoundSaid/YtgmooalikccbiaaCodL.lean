/- The walks of the coder: integers folded, their lengths. -/
import Derived.Test.YtgmooalikccbiaaCodK
namespace Go.Proofs.Ytgmooalikccbiaa
open Go.Fw Go
set_option linter.unusedVariables false
set_option linter.unusedSimpArgs false

theorem fold_zz (x : Int) : fold x = zz x := by
  unfold fold zz
  split <;> split <;> omega
theorem unfold_zz (u : Nat) : unfold' u = unzz u := by
  unfold unfold' unzz
  split <;> split <;> first | rfl | omega
set_option maxRecDepth 8000 in
theorem fold_c (x : Int) (h : -9223372036854775808 ≤ x ∧ x ≤ 9223372036854775807) (H : AH) :
    ACall Try.prog 47 [.int .i64 x] H (fun y H' => y = .int .u64 (fold x : Nat) ∧ H' = H) := by
  have e := zz_wire h.1 h.2
  rw [← fold_zz] at e
  refine ACall_of tt_ok (dok _) Try.func47 rfl (by decide) rfl ?_
  (repeat' ((conv => whnf); first | refine Then.mk ?_ | left | refine OpsA.cons ?_ | refine OpsA.nil ?_ | refine AWq.seq ?_ | refine AWq.region ?_ | refine AWq.cond ?_ | refine AWq.block ?_ | refine AWq.skip ?_ | refine AWq.scope ?_ | refine AWq.label ?_ | refine AWq.ret ?_ | refine AWq.exit ?_ | refine AWq.loop ?_ | refine AWq.rangeFunc ?_ | refine DrawA.consD ?_ | refine DrawA.nil ?_ | refine DrawL.consD ?_ | refine DrawL.nil ?_ | refine DrawF.consD ?_ | refine DrawF.nil ?_ | refine AWq.draw (by decide +kernel) ?_ | (refine Both.mk ?_ ?_ <;> intro hc <;> (first | exact Bool.noConfusion hc | exact absurd (by with_reducible rfl) hc | exact (hc : False).elim | exact absurd (by assumption) hc | exact absurd hc (by assumption) | (exfalso; omega) | exact absurd hc (by decide) | skip)) | (intro c hc; (try (simp only [AH.none_iff] at hc; repeat (have hn := hc.1; replace hc := hc.2))); (first | (have hc2 := Eq.trans hc (by with_reducible assumption); clear hc; subst hc2) | (refine i64_k hc ?_ ?_ ?_ ; omega; omega; (clear hc; intro hc; subst hc)) | (refine u64_k hc ?_ ?_ ?_ ; omega; omega; (clear hc; intro hc; subst hc)) | (refine u8_k hc ?_ ?_ ?_ ; omega; omega; (clear hc; intro hc; subst hc)) | subst hc | skip)) | (apply Exists.intro; apply And.intro; (focus (repeat (first | assumption | exact AH.set_same _ _ _ | ((first | refine AH.get_ne ?_ ?_ | refine AH.getd_ne ?_ ?_); (first | assumption | omega | exact Ne.symm (by assumption) | exact AH.ne_none (by assumption) (by assumption) | exact AH.none_ne (by assumption) (by assumption) | exact (AH.none_set (by assumption)).1 | exact Ne.symm (AH.none_set (by assumption)).1)))); done)) | (apply Exists.intro; apply And.intro; first | (with_reducible assumption) | ((try simp only [List.getElem?_drop, Nat.mul_one, Nat.add_zero, Nat.zero_add]); first | (with_reducible assumption) | (refine u8s_get ?_; omega) | (refine iS_get ?_; omega) | assumption | rfl | fail)) | (apply And.intro; (first | rfl | (with_reducible assumption) | exact Nat.le_of_ble_eq_true rfl | omega | (exact Int.ofNat_lt.2 (Nat.lt_of_lt_of_eq (by with_reducible assumption) (by decide +kernel))) | assumption | (simp <;> fail) | (simp <;> omega) | (focus (repeat' (first | exact one_u8s _ | exact one_iS _ _ | rfl | apply one_take | apply one_drop | apply one_append)); done) | fail)) | fail)) <;> (try (conv => whnf))
  exact ⟨congrArg (AV.int .u64) e, rfl⟩

theorem lenB_up {u k : Nat} (h1 : 2 ^ k ≤ u) : lenB u = k + lenB (u / 2 ^ k) := by
  have hp : 0 < 2 ^ k := Nat.pow_pos (by decide)
  have h0 : u ≠ 0 := by omega
  have hd : u / 2 ^ k ≠ 0 := by
    have := Nat.div_pos h1 hp; omega
  unfold lenB
  rw [if_neg h0, if_neg hd]
  have a := (Nat.le_log2 hd (k := (u / 2 ^ k).log2)).1 (Nat.le_refl _)
  have b := (Nat.log2_lt hd (k := (u / 2 ^ k).log2 + 1)).1 (Nat.lt_succ_self _)
  generalize (u / 2 ^ k).log2 = t at a b ⊢
  have c1 : k + t ≤ u.log2 := (Nat.le_log2 h0).2 (by
    rw [Nat.pow_add, Nat.mul_comm]
    exact (Nat.le_div_iff_mul_le hp).1 a)
  have c2 : u.log2 < k + (t + 1) := (Nat.log2_lt h0).2 (by
    rw [Nat.pow_add, Nat.mul_comm]
    exact (Nat.div_lt_iff_lt_mul hp).1 b)
  omega

/-- The lengths of bytes. -/
def lenT (u : Nat) : Nat := if u < 1 then 0 else if u < 2 then 1 else if u < 4 then 2 else if u < 8 then 3 else if u < 16 then 4 else if u < 32 then 5 else if u < 64 then 6 else if u < 128 then 7 else 8
theorem lenT_ok : ∀ u, u < 256 → lenT u = lenB u := by decide +kernel

theorem lenB_two {u k : Nat} : ∃ x d : Nat, (2 ^ k ≤ u ∧ x = u / 2 ^ k ∧ d = k ∨ u < 2 ^ k ∧ x = u ∧ d = 0) ∧ lenB u = d + lenB x := by
  by_cases h : 2 ^ k ≤ u
  · exact ⟨_, _, .inl ⟨h, rfl, rfl⟩, lenB_up h⟩
  · exact ⟨_, _, .inr ⟨by omega, rfl, rfl⟩, by omega⟩
theorem sh32 (u : Nat) : (u : Int).fdiv (2 ^ min (Int.toNat 32) IntKind.u64.bits) = (u / 4294967296 : Nat) := by
  rw [show (2 : Int) ^ min (Int.toNat 32) IntKind.u64.bits = 4294967296 by decide, Int.fdiv_eq_ediv_of_nonneg _ (by omega)]; omega
theorem sh16 (u : Nat) : (u : Int).fdiv (2 ^ min (Int.toNat 16) IntKind.u64.bits) = (u / 65536 : Nat) := by
  rw [show (2 : Int) ^ min (Int.toNat 16) IntKind.u64.bits = 65536 by decide, Int.fdiv_eq_ediv_of_nonneg _ (by omega)]; omega
theorem sh8 (u : Nat) : (u : Int).fdiv (2 ^ min (Int.toNat 8) IntKind.u64.bits) = (u / 256 : Nat) := by
  rw [show (2 : Int) ^ min (Int.toNat 8) IntKind.u64.bits = 256 by decide, Int.fdiv_eq_ediv_of_nonneg _ (by omega)]; omega
def tab8 : List UInt8 := (List.range 256).map fun x => UInt8.ofNat (lenT x)
theorem tab8_at {l : List UInt8} (h : l = tab8) {x : Nat} (hx : x < 256) : (l.getD (x : Int).toNat 0).toNat = lenT x := by
  rw [h, Int.toNat_natCast]
  revert x
  decide +kernel
set_option maxRecDepth 8000 in
theorem len64_c (u : Nat) (h : u < 18446744073709551616) (H : AH) :
    ACall Try.prog 48 [.int .u64 u] H (fun y H' => y = .int .i64 (lenB u : Nat) ∧ H' = H) := by
  obtain ⟨x1, d1, h1, l1⟩ := lenB_two (u := u) (k := 32)
  obtain ⟨x2, d2, h2, l2⟩ := lenB_two (u := x1) (k := 16)
  obtain ⟨x3, d3, h3, l3⟩ := lenB_two (u := x2) (k := 8)
  have e1 := sh32 u
  have e2 := sh16 x1
  have e3 := sh8 x2
  simp only [show (2 : Nat) ^ 32 = 4294967296 by decide, show (2 : Nat) ^ 16 = 65536 by decide, show (2 : Nat) ^ 8 = 256 by decide] at h1 h2 h3
  have hx3 : x3 < 256 := by omega
  have hl := lenT_ok x3 hx3
  have hf : lenB u = d1 + d2 + d3 + lenB x3 := by omega
  have hb : lenB x3 ≤ 8 := by
    rw [← hl]; unfold lenT
    repeat' split
    all_goals omega
  rw [hf]
  obtain ⟨L, hL⟩ : ∃ L, L = lenB x3 := ⟨_, rfl⟩
  rw [← hL] at hb hl ⊢
  clear hf hL l1 l2 l3
  have hfin : ∀ l : List UInt8, l = tab8 → ∀ d : Nat, d ≤ 56 → ∀ e : Int, e = d → AV.int .i64 (IntKind.i64.wrap (e + IntKind.i64.wrap (l.getD (x3 : Int).toNat 0).toNat)) = AV.int .i64 (d + L : Nat) ∧ H = H := fun l hl2 d hd e he => by
    refine ⟨congrArg (AV.int .i64) ?_, rfl⟩
    rw [tab8_at hl2 hx3, hl, IntKind.wrap_i64, IntKind.wrap_i64, he]
    clear h e1 e2 e3 h1 h2 h3
    omega
  rcases h1 with ⟨a1, a2, a3⟩ | ⟨a1, a2, a3⟩ <;> subst a2 a3 <;> rcases h2 with ⟨b1, b2, b3⟩ | ⟨b1, b2, b3⟩ <;> subst b2 b3 <;> rcases h3 with ⟨c1, c2, c3⟩ | ⟨c1, c2, c3⟩ <;> subst c2 c3
  all_goals
    refine ACall_of tt_ok (dok _) Try.func48 rfl (by decide) rfl ?_
    (repeat' ((conv => whnf); first | refine Then.mk ?_ | left | refine OpsA.cons ?_ | refine OpsA.nil ?_ | refine AWq.seq ?_ | refine AWq.region ?_ | refine AWq.cond ?_ | refine AWq.block ?_ | refine AWq.skip ?_ | refine AWq.scope ?_ | refine AWq.label ?_ | refine AWq.ret ?_ | refine AWq.exit ?_ | refine AWq.loop ?_ | refine AWq.rangeFunc ?_ | refine DrawA.consD ?_ | refine DrawA.nil ?_ | refine DrawL.consD ?_ | refine DrawL.nil ?_ | refine DrawF.consD ?_ | refine DrawF.nil ?_ | refine AWq.draw (by decide +kernel) ?_ | (refine Both.mk ?_ ?_ <;> intro hc <;> (first | exact Bool.noConfusion hc | exact absurd (by with_reducible rfl) hc | exact (hc : False).elim | exact absurd (by assumption) hc | exact absurd hc (by assumption) | (exfalso; omega) | exact absurd hc (by decide) | skip)) | (intro c hc; (try (simp only [AH.none_iff] at hc; repeat (have hn := hc.1; replace hc := hc.2))); (first | (have hc2 := Eq.trans hc (by with_reducible assumption); clear hc; subst hc2) | (refine i64_k hc ?_ ?_ ?_ ; omega; omega; (clear hc; intro hc; subst hc)) | (refine u64_k hc ?_ ?_ ?_ ; omega; omega; (clear hc; intro hc; subst hc)) | (refine u8_k hc ?_ ?_ ?_ ; omega; omega; (clear hc; intro hc; subst hc)) | subst hc | skip)) | (apply Exists.intro; apply And.intro; (focus (repeat (first | assumption | exact AH.set_same _ _ _ | ((first | refine AH.get_ne ?_ ?_ | refine AH.getd_ne ?_ ?_); (first | assumption | omega | exact Ne.symm (by assumption) | exact AH.ne_none (by assumption) (by assumption) | exact AH.none_ne (by assumption) (by assumption) | exact (AH.none_set (by assumption)).1 | exact Ne.symm (AH.none_set (by assumption)).1)))); done)) | (apply Exists.intro; apply And.intro; first | (with_reducible assumption) | ((try simp only [List.getElem?_drop, Nat.mul_one, Nat.add_zero, Nat.zero_add]); first | (with_reducible assumption) | (refine u8s_get ?_; omega) | (refine iS_get ?_; omega) | assumption | rfl | fail)) | (apply And.intro; (first | rfl | (with_reducible assumption) | exact Nat.le_of_ble_eq_true rfl | omega | (exact Int.ofNat_lt.2 (Nat.lt_of_lt_of_eq (by with_reducible assumption) (by decide +kernel))) | assumption | (simp <;> fail) | (simp <;> omega) | (focus (repeat' (first | exact one_u8s _ | exact one_iS _ _ | rfl | apply one_take | apply one_drop | apply one_append)); done) | fail)) | fail)) <;> (try (conv => whnf))
    exact hfin _ (by decide +kernel) _ (by decide) _ (by decide)
end Go.Proofs.Ytgmooalikccbiaa
