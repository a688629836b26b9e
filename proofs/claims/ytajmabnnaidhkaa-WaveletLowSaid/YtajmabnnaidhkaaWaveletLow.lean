/- The law WaveletLow: the contract of the law's function. -/
import Derived.Test.YtajmabnnaidhkaaWaveP
import Derived.Test.YtajmabnnaidhkaaWaveQ
namespace Go.Proofs.Ytajmabnnaidhkaa
open Go.Fw Go
set_option linter.unusedVariables false
set_option linter.unusedSimpArgs false

theorem fwd_cong : ∀ (k : Nat) (M N : Mat), (∀ r c, r < 2 ^ k → c < 2 ^ k → M r c = N r c) → ∀ r c, r < 2 ^ k → c < 2 ^ k → fwd k M r c = fwd k N r c
  | 0, M, N, h, r, c, hr, hc => h r c hr hc
  | k + 1, M, N, h, r, c, hr, hc => by
    have hf : ∀ M, fwd (k + 1) M = fwd k (colsM spl (2 ^ (k + 1)) (rowsM spl (2 ^ (k + 1)) M)) := fun _ => rfl
    rw [hf, hf]
    rw [pow_half] at h hr hc ⊢
    have h1 : ∀ r c, r < 2 * 2 ^ k → c < 2 * 2 ^ k → rowsM spl (2 * 2 ^ k) M r c = rowsM spl (2 * 2 ^ k) N r c := fun r c hr hc => by
      unfold rowsM; rw [if_pos ⟨hr, hc⟩, if_pos ⟨hr, hc⟩]; exact spl_cong (fun k hk => h r k hr hk) c hc
    generalize rowsM spl (2 * 2 ^ k) M = M1 at *
    generalize rowsM spl (2 * 2 ^ k) N = N1 at *
    have h2 : ∀ r c, r < 2 * 2 ^ k → c < 2 * 2 ^ k → colsM spl (2 * 2 ^ k) M1 r c = colsM spl (2 * 2 ^ k) N1 r c := fun r c hr hc => by
      unfold colsM; rw [if_pos ⟨hr, hc⟩, if_pos ⟨hr, hc⟩]; exact spl_cong (x := fun k => M1 k c) (y := fun k => N1 k c) (fun k hk => h1 k c hk hc) r hr
    by_cases hin : r < 2 ^ k ∧ c < 2 ^ k
    · exact fwd_cong k _ _ (fun r c hr hc => h2 r c (by omega) (by omega)) r c hin.1 hin.2
    · rw [fwd_out k _ r c hin, fwd_out k _ r c hin]; exact h2 r c hr hc

theorem fwd_res (k : Nat) (M : Mat) : ofL (2 ^ k) (toL (2 ^ k) (fwd k M)) = fwd k (ofL (2 ^ k) (toL (2 ^ k) M)) := by
  funext r c
  by_cases h : r < 2 ^ k ∧ c < 2 ^ k
  · have e : ofL (2 ^ k) (toL (2 ^ k) (fwd k M)) r c = fwd k M r c := by
      unfold ofL; rw [if_pos h, toL_getD _ h.1 h.2]
    rw [e]
    refine fwd_cong k _ _ (fun r c hr hc => ?_) r c h.1 h.2
    unfold ofL; rw [if_pos ⟨hr, hc⟩, toL_getD _ hr hc]
  · rw [ofL_out _ _ _ _ h, fwd_out k _ r c h, ofL_out _ _ _ _ h]

/-- The half of a transformed square. -/
theorem low_half (k : Nat) (M : Mat) (r c : Nat) (hr : r < 2 ^ k) (hc : c < 2 ^ k) :
    inv k (ofL (2 ^ k) (toL (2 ^ k) (fwd (k + 1) M))) r c = ((M (2 * r) (2 * c) + M (2 * r) (2 * c + 1)) / 2 + (M (2 * r + 1) (2 * c) + M (2 * r + 1) (2 * c + 1)) / 2) / 2 := by
  have hf : fwd (k + 1) M = fwd k (colsM spl (2 ^ (k + 1)) (rowsM spl (2 ^ (k + 1)) M)) := rfl
  rw [hf, fwd_res, inv_fwd]
  unfold ofL
  rw [if_pos ⟨hr, hc⟩, toL_getD _ hr hc, pow_half]
  have h1 : ∀ r, r < 2 * 2 ^ k → rowsM spl (2 * 2 ^ k) M r c = (M r (2 * c) + M r (2 * c + 1)) / 2 := fun r hr => by
    unfold rowsM spl; rw [if_pos (by omega), if_pos (by omega)]
  generalize rowsM spl (2 * 2 ^ k) M = N at *
  unfold colsM spl
  rw [if_pos (by omega), if_pos (by omega)]
  dsimp only
  rw [h1 _ (by omega), h1 _ (by omega)]

set_option maxHeartbeats 8000000 in
set_option maxRecDepth 8000 in
theorem WaveletLow_c (x0 : Int) (hx0 : -9223372036854775808 ≤ x0 ∧ x0 ≤ 9223372036854775807) (x1 : Int) (hx1 : -9223372036854775808 ≤ x1 ∧ x1 ≤ 9223372036854775807) (l2 : List Int) (hl2 : l2.length ≤ maxLen) (hr2 : ∀ n ∈ l2, -9223372036854775808 ≤ n ∧ n ≤ 9223372036854775807) (x3 : Int) (hx3 : -9223372036854775808 ≤ x3 ∧ x3 ≤ 9223372036854775807) :
    ACall Try.prog 8 [.int .i64 x0, .int .i64 x1, .cs (iS .i64 l2) l2.length, .int .i64 x3] (fun _ => none) (fun y _ => y = .bool true) := by
  obtain ⟨k, hk, sk⟩ := sides_k x0 hx0.1 hx0.2
  obtain ⟨j1, hj1, sj⟩ := sides_k x1 hx1.1 hx1.2
  have hj1b : (2 : Nat) ^ j1 ≤ 16 := (pow_side hj1).2.1
  have hS := (pow_side hk).2
  have hsd := (pow_side hk).1
  have q1 := fun H => square_c (2 ^ k) (by omega) l2 hl2 549755813888 (by omega) H
  obtain ⟨A, hA⟩ : ∃ A, A = lnL (2 ^ k * 2 ^ k) (sqV l2 549755813888) := ⟨_, rfl⟩
  have lA : A.length = 2 ^ k * 2 ^ k := by rw [hA]; exact lnL_len _ _
  have iA : inB 549755813888 A = true := by rw [hA]; exact inB_lnL fun c _ => sqV_bd l2 _ (by omega) c
  have iA2 : inB 1099511627776 A = true := by rw [inB_iff] at iA ⊢; intro x hx; have := iA x hx; omega
  unfold iL at q1
  rw [← hA, ← lA] at q1
  have bA := inB_bnd (by omega) iA (2 ^ k)
  have f1 := fun H => Forward_ok k hk A lA iA2 H
  obtain ⟨X, hX⟩ : ∃ X, X = toL (2 ^ k) (fwd k (ofL (2 ^ k) A)) := ⟨_, rfl⟩
  rw [← hX] at f1
  have lX : X.length = 2 ^ k * 2 ^ k := by rw [hX]; exact toL_len _ _
  have iX : inB 4398046511104 X = true := by
    rw [hX]
    refine inB_toL (fun r c hr hc => ?_)
    have := fwd_bd (s := 2 ^ k) (B := 549755813888) (by omega) k (ofL (2 ^ k) A) (Nat.le_refl _) (fun r c hr hc => bA r c hr hc) (fun r c hr hc => by have := bA r c hr hc; omega) r c hr hc
    omega
  have hss : 2 ^ k * 2 ^ k ≤ 256 := Nat.mul_le_mul hS.1 hS.1
  have h11 : 1 ≤ 2 ^ k * 2 ^ k := Nat.mul_le_mul hS.2 hS.2
  have cast : ((2 ^ k : Nat) : Int) * ((2 ^ k : Nat) : Int) = ((2 ^ k * 2 ^ k : Nat) : Int) := (Int.natCast_mul _ _).symm
  -- the same side
  have hfull : lowR ((2 ^ k : Nat) : Int) X ((2 ^ k : Nat) : Int) = (A, 0) := by
    unfold lowR
    rw [if_pos ⟨hsd, hsd, Int.le_refl _, by rw [lX, cast]⟩, Int.toNat_natCast, toL_ofL lX]
    unfold sqR
    rw [if_pos ⟨hsd, by rw [lX, cast]⟩, if_pos iX, Int.toNat_natCast, Nat.log2_two_pow, hX, fwd_ofL, inv_fwd, toL_ofL lA]
  -- half the side
  have hhalf : ∀ h, k = h + 1 → ∃ Z : List Int, lowR ((2 ^ k : Nat) : Int) X ((2 ^ h : Nat) : Int) = (Z, 0) ∧ Z.length = 2 ^ h * 2 ^ h ∧ ∀ r c, r < 2 ^ h → c < 2 ^ h →
      Z.getD (r * 2 ^ h + c) 0 = ((A.getD (2 * r * 2 ^ k + 2 * c) 0 + A.getD (2 * r * 2 ^ k + 2 * c + 1) 0) / 2 + (A.getD ((2 * r + 1) * 2 ^ k + 2 * c) 0 + A.getD ((2 * r + 1) * 2 ^ k + 2 * c + 1) 0) / 2) / 2 := by
    intro h hkh
    subst hkh
    have hh := pow_side (show h ≤ 4 by omega)
    have hlt : 2 ^ h ≤ 2 ^ (h + 1) := by rw [pow_half]; omega
    have hXX : ofL (2 ^ (h + 1)) X = fwd (h + 1) (ofL (2 ^ (h + 1)) A) := by rw [hX, fwd_ofL]
    refine ⟨toL (2 ^ h) (inv h (ofL (2 ^ h) (toL (2 ^ h) (fwd (h + 1) (ofL (2 ^ (h + 1)) A))))), ?_, toL_len _ _, fun r c hr hc => ?_⟩
    · unfold lowR
      rw [if_pos ⟨hsd, hh.1, by omega, by rw [lX, cast]⟩, Int.toNat_natCast, Int.toNat_natCast, hXX]
      unfold sqR
      rw [if_pos ⟨hh.1, by rw [toL_len, Int.natCast_mul]⟩, if_pos (inB_toL fun r c hr hc => ?_), Int.toNat_natCast, Nat.log2_two_pow]
      have := fwd_bd (s := 2 ^ (h + 1)) (B := 549755813888) (by omega) (h + 1) (ofL (2 ^ (h + 1)) A) (Nat.le_refl _) (fun r c hr hc => bA r c hr hc) (fun r c hr hc => by have := bA r c hr hc; omega) r c (by omega) (by omega)
      omega
    · rw [toL_getD _ hr hc, low_half h _ r c hr hc]
      unfold ofL
      have e2 : 2 ^ (h + 1) = 2 * 2 ^ h := pow_half h
      rw [if_pos (by omega), if_pos (by omega), if_pos (by omega), if_pos (by omega)]
      rfl
  have hbnd : ∀ p, -549755813888 ≤ A.getD p 0 ∧ A.getD p 0 ≤ 549755813888 := fun p => inB_getD (by omega) iA p
  clear hA hX bA
  obtain ⟨H0, hH0⟩ : ∃ H0 : AH, H0 = fun _ => none := ⟨_, rfl⟩
  rw [← hH0]
  clear hH0
  have f1 : ∀ H, ACall Try.prog 12 [.int .i64 (2 ^ k : Nat), .cs (iS .i64 A) A.length] H (fun y H' => y = .tup [.cs (iS .i64 X) X.length, .int .i64 0] ∧ H' = H) := f1
  have w1 := fun (B : List Int) (hB : B.length ≤ 1000000) (v : Int) hv1 hv2 H => Low_c ((2 ^ k : Nat) : Int) (by omega) (by omega) B hB v hv1 hv2 H
  have w2 := fun (B : List Int) (hB : B.length ≤ 1000000) (v : Int) hv1 hv2 H => rLow_c ((2 ^ k : Nat) : Int) (by omega) (by omega) B hB v hv1 hv2 H
  have u1 := fun (v : Int) hv1 hv2 H => Low_c v hv1 hv2 A (by omega) ((2 ^ k : Nat) : Int) (by omega) (by omega) H
  have u2 := fun (v : Int) hv1 hv2 H => rLow_c v hv1 hv2 A (by omega) ((2 ^ k : Nat) : Int) (by omega) (by omega) H
  have wf := fun H => w1 X (by omega) ((2 ^ k : Nat) : Int) (by omega) (by omega) H
  rw [hfull] at wf
  have wf : ∀ H, ACall Try.prog 25 [.int .i64 (2 ^ k : Nat), .cs (iS .i64 X) X.length, .int .i64 (2 ^ k : Nat)] H (fun y H' => y = .tup [.cs (iS .i64 A) A.length, .int .i64 0] ∧ H' = H) := wf
  have tA := fun H => same_t A (by omega) H
  obtain ⟨B, hB⟩ : ∃ B, B = X.set (X.length - 1) x3 := ⟨_, rfl⟩
  have lB : B.length = X.length := by rw [hB, List.length_set]
  have wh : ∀ h, k = h + 1 → ∃ Z : List Int, Z.length = 2 ^ h * 2 ^ h ∧ (∀ H, ACall Try.prog 25 [.int .i64 (2 ^ k : Nat), .cs (iS .i64 X) X.length, .int .i64 (2 ^ h : Nat)] H (fun y H' => y = .tup [.cs (iS .i64 Z) Z.length, .int .i64 0] ∧ H' = H)) ∧ ∀ r c, r < 2 ^ h → c < 2 ^ h →
      Z.getD (r * 2 ^ h + c) 0 = ((A.getD (2 * r * 2 ^ k + 2 * c) 0 + A.getD (2 * r * 2 ^ k + 2 * c + 1) 0) / 2 + (A.getD ((2 * r + 1) * 2 ^ k + 2 * c) 0 + A.getD ((2 * r + 1) * 2 ^ k + 2 * c + 1) 0) / 2) / 2 := fun h hh => by
    obtain ⟨Z, z1, z2, z3⟩ := hhalf h hh
    refine ⟨Z, z2, fun H => ?_, z3⟩
    have hle : (2 : Nat) ^ h ≤ 2 ^ k := Nat.pow_le_pow_right (by omega) (by omega)
    have hpb : ∀ P : Nat, P ≤ 16 → -9223372036854775808 ≤ (P : Int) ∧ (P : Int) ≤ 9223372036854775807 := fun P hP => by omega
    have := w1 X (by omega) ((2 ^ h : Nat) : Int) (hpb _ (by omega)).1 (hpb _ (by omega)).2 H
    rw [z1] at this
    exact this
  have hk0 : k = 0 → ((2 ^ k : Nat) : Int) = 1 := fun h => by rw [h]; rfl
  have hk1 : ∀ h, k = h + 1 → 2 ^ k = 2 * 2 ^ h := fun h hh => by rw [hh, pow_half]
  have hkc : k = 0 ∨ ∃ h, k = h + 1 := by cases k with
    | zero => exact .inl rfl
    | succ h => exact .inr ⟨h, rfl⟩
  clear hhalf hfull
  generalize 2 ^ k = S at *
  generalize 2 ^ j1 = J at *
  refine ACall_of tt_ok (dok _) Try.func8 rfl (by decide) rfl ?_
  (repeat' ((conv => whnf); first | left | refine OpsA.cons ?_ | refine OpsA.nil ?_ | refine AWq.seq ?_ | refine AWq.region ?_ | refine AWq.cond ?_ | refine AWq.block ?_ | refine AWq.skip ?_ | refine AWq.ret ?_ | refine AWq.exit ?_ | refine AWq.loop ?_ | refine AWq.rangeFunc ?_ | refine DrawA.consD ?_ | refine DrawA.nil ?_ | refine AWq.draw (by decide +kernel) ?_ | (refine Both.mk ?_ ?_ <;> intro hc <;> (first | exact Bool.noConfusion hc | exact absurd (by with_reducible rfl) hc | exact (hc : False).elim | exact absurd (by assumption) hc | exact absurd hc (by assumption) | (exfalso; omega) | exact absurd hc (by decide) | skip)) | (intro c hc; (try (simp only [AH.none_iff] at hc; repeat (have hn := hc.1; replace hc := hc.2))); (first | (refine i64_k hc ?_ ?_ ?_ ; omega; omega; (clear hc; intro hc; subst hc)) | (refine u64_k hc ?_ ?_ ?_ ; omega; omega; (clear hc; intro hc; subst hc)) | (refine u8_k hc ?_ ?_ ?_ ; omega; omega; (clear hc; intro hc; subst hc)) | subst hc | skip)) | (apply Exists.intro; apply And.intro; (focus (repeat (first | assumption | exact AH.set_same _ _ _ | ((first | refine AH.get_ne ?_ ?_ | refine AH.getd_ne ?_ ?_); (first | assumption | omega | exact Ne.symm (by assumption) | exact AH.ne_none (by assumption) (by assumption) | exact AH.none_ne (by assumption) (by assumption) | exact (AH.none_set (by assumption)).1 | exact Ne.symm (AH.none_set (by assumption)).1)))); done)) | (apply Exists.intro; apply And.intro; (try simp only [List.getElem?_drop, Nat.mul_one, Nat.add_zero, Nat.zero_add]); first | (refine u8s_get ?_; omega) | (refine iS_get ?_; omega) | assumption | rfl | fail) | (apply And.intro; (first | rfl | assumption | exact Nat.le_of_ble_eq_true rfl | omega | (simp <;> fail) | (simp <;> omega) | (focus (repeat' (first | exact one_u8s _ | exact one_iS _ _ | rfl | apply one_take | apply one_drop | apply one_append)); done) | fail)) | fail)) <;> (try (conv => whnf))
  iterate 6 (refine Then.mk ?_; (repeat' ((conv => whnf); first | left | refine OpsA.cons ?_ | refine OpsA.nil ?_ | refine AWq.seq ?_ | refine AWq.region ?_ | refine AWq.cond ?_ | refine AWq.block ?_ | refine AWq.skip ?_ | refine AWq.ret ?_ | refine AWq.exit ?_ | refine AWq.loop ?_ | refine AWq.rangeFunc ?_ | refine DrawA.consD ?_ | refine DrawA.nil ?_ | refine AWq.draw (by decide +kernel) ?_ | (refine ACall.to (sk _) ?_) | (refine ACall.to (q1 _) ?_) | (refine ACall.to (sj _) ?_) | (refine ACall.to (f1 _) ?_) | (apply Exists.intro; apply And.intro; exact sk _) | (apply Exists.intro; apply And.intro; exact q1 _) | (apply Exists.intro; apply And.intro; exact sj _) | (apply Exists.intro; apply And.intro; exact f1 _) | (apply Exists.intro; apply Exists.intro; apply And.intro; exact sk _) | (apply Exists.intro; apply Exists.intro; apply And.intro; exact q1 _) | (apply Exists.intro; apply Exists.intro; apply And.intro; exact sj _) | (apply Exists.intro; apply Exists.intro; apply And.intro; exact f1 _) | (refine Both.mk ?_ ?_ <;> intro hc <;> (first | exact Bool.noConfusion hc | exact absurd (by with_reducible rfl) hc | exact (hc : False).elim | exact absurd (by assumption) hc | exact absurd hc (by assumption) | (exfalso; omega) | exact absurd hc (by decide) | skip)) | (intro c hc; (try (simp only [AH.none_iff] at hc; repeat (have hn := hc.1; replace hc := hc.2))); (first | (refine i64_k hc ?_ ?_ ?_ ; omega; omega; (clear hc; intro hc; subst hc)) | (refine u64_k hc ?_ ?_ ?_ ; omega; omega; (clear hc; intro hc; subst hc)) | (refine u8_k hc ?_ ?_ ?_ ; omega; omega; (clear hc; intro hc; subst hc)) | subst hc | skip)) | (apply Exists.intro; apply And.intro; (focus (repeat (first | assumption | exact AH.set_same _ _ _ | ((first | refine AH.get_ne ?_ ?_ | refine AH.getd_ne ?_ ?_); (first | assumption | omega | exact Ne.symm (by assumption) | exact AH.ne_none (by assumption) (by assumption) | exact AH.none_ne (by assumption) (by assumption) | exact (AH.none_set (by assumption)).1 | exact Ne.symm (AH.none_set (by assumption)).1)))); done)) | (apply Exists.intro; apply And.intro; (try simp only [List.getElem?_drop, Nat.mul_one, Nat.add_zero, Nat.zero_add]); first | (refine u8s_get ?_; omega) | (refine iS_get ?_; omega) | assumption | rfl | fail) | (apply And.intro; (first | rfl | assumption | exact Nat.le_of_ble_eq_true rfl | omega | (simp <;> fail) | (simp <;> omega) | (focus (repeat' (first | exact one_u8s _ | exact one_iS _ _ | rfl | apply one_take | apply one_drop | apply one_append)); done) | fail)) | fail)) <;> (try (conv => whnf)))
  refine Then.mk ?_
  (repeat' ((conv => whnf); first | refine Or.inr (Or.inl ?_) | refine OpsA.cons ?_ | refine OpsA.nil ?_ | refine AWq.seq ?_ | refine AWq.region ?_ | refine AWq.cond ?_ | refine AWq.block ?_ | refine AWq.skip ?_ | refine AWq.ret ?_ | refine AWq.exit ?_ | refine AWq.loop ?_ | refine AWq.rangeFunc ?_ | refine DrawA.consD ?_ | refine DrawA.nil ?_ | refine AWq.draw (by decide +kernel) ?_ | (refine Both.mk ?_ ?_ <;> intro hc <;> (first | exact Bool.noConfusion hc | exact absurd (by with_reducible rfl) hc | exact (hc : False).elim | exact absurd (by assumption) hc | exact absurd hc (by assumption) | (exfalso; omega) | exact absurd hc (by decide) | skip)) | (intro c hc; (try (simp only [AH.none_iff] at hc; repeat (have hn := hc.1; replace hc := hc.2))); (first | (refine i64_k hc ?_ ?_ ?_ ; omega; omega; (clear hc; intro hc; subst hc)) | (refine u64_k hc ?_ ?_ ?_ ; omega; omega; (clear hc; intro hc; subst hc)) | (refine u8_k hc ?_ ?_ ?_ ; omega; omega; (clear hc; intro hc; subst hc)) | subst hc | skip)) | (apply Exists.intro; apply And.intro; (focus (repeat (first | assumption | exact AH.set_same _ _ _ | ((first | refine AH.get_ne ?_ ?_ | refine AH.getd_ne ?_ ?_); (first | assumption | omega | exact Ne.symm (by assumption) | exact AH.ne_none (by assumption) (by assumption) | exact AH.none_ne (by assumption) (by assumption) | exact (AH.none_set (by assumption)).1 | exact Ne.symm (AH.none_set (by assumption)).1)))); done)) | (apply Exists.intro; apply And.intro; (try simp only [List.getElem?_drop, Nat.mul_one, Nat.add_zero, Nat.zero_add]); first | (refine u8s_get ?_; omega) | (refine iS_get ?_; omega) | assumption | rfl | fail) | (apply And.intro; (first | rfl | assumption | exact Nat.le_of_ble_eq_true rfl | omega | (simp <;> fail) | (simp <;> omega) | (focus (repeat' (first | exact one_u8s _ | exact one_iS _ _ | rfl | apply one_take | apply one_drop | apply one_append)); done) | fail)) | fail)) <;> (try (conv => whnf))
  have hcc : H0 c = none := by assumption
  have hcell : ∀ z : List AV, z = [] → z ++ iS .i64 X = iS .i64 X := fun z hz => by rw [hz]; rfl
  refine Then.mk (AWq.in ?_)
  refine AWp_less (AH.set H0 c (.row (iS .i64 X) 1)) (HLe.of_eq ?_) ?_
  · refine Eq.trans ?_ (AH.set_set _ _ _ _).symm
    exact congrArg (fun l => AH.set H0 c (.row l 1)) (hcell _ rfl).symm
  refine AWp_cut [(9, .int .i64 S), (10, .cs (iS .i64 A) A.length), (11, .cs [.int .i64 J, .int .i64 x1, .int .i64 x3, .int .i64 S] 4), (12, .cs (iS .i64 X) X.length), (14, .sl c 1 1 0 X.length none), (3, .int .i64 x3)] ⟨rfl, rfl, rfl, rfl, congrArg (fun x => AV.sl c 1 1 0 x none) (Nat.zero_add _), rfl, trivial⟩ (fun _ => rfl) (HLe.refl _) ?_
  refine AWp.of tt_ok (dok _) rfl ?_
  have hsz : (iS .i64 X).length = X.length := iS_length _ _
  have hti : ((X.length : Int) - 1).toNat = X.length - 1 := by omega
  (repeat' ((conv => whnf); first | left | refine OpsA.cons ?_ | refine OpsA.nil ?_ | refine AWq.seq ?_ | refine AWq.region ?_ | refine AWq.cond ?_ | refine AWq.block ?_ | refine AWq.skip ?_ | refine AWq.ret ?_ | refine AWq.exit ?_ | refine AWq.loop ?_ | refine AWq.rangeFunc ?_ | refine DrawA.consD ?_ | refine DrawA.nil ?_ | refine AWq.draw (by decide +kernel) ?_ | (refine Both.mk ?_ ?_ <;> intro hc <;> (first | exact Bool.noConfusion hc | exact absurd (by with_reducible rfl) hc | exact (hc : False).elim | exact absurd (by assumption) hc | exact absurd hc (by assumption) | (exfalso; omega) | exact absurd hc (by decide) | skip)) | (intro c hc; (try (simp only [AH.none_iff] at hc; repeat (have hn := hc.1; replace hc := hc.2))); (first | (refine i64_k hc ?_ ?_ ?_ ; omega; omega; (clear hc; intro hc; subst hc)) | (refine u64_k hc ?_ ?_ ?_ ; omega; omega; (clear hc; intro hc; subst hc)) | (refine u8_k hc ?_ ?_ ?_ ; omega; omega; (clear hc; intro hc; subst hc)) | subst hc | skip)) | (apply Exists.intro; apply And.intro; (focus (repeat (first | assumption | exact AH.set_same _ _ _ | ((first | refine AH.get_ne ?_ ?_ | refine AH.getd_ne ?_ ?_); (first | assumption | omega | exact Ne.symm (by assumption) | exact AH.ne_none (by assumption) (by assumption) | exact AH.none_ne (by assumption) (by assumption) | exact (AH.none_set (by assumption)).1 | exact Ne.symm (AH.none_set (by assumption)).1)))); done)) | (apply Exists.intro; apply And.intro; (try simp only [List.getElem?_drop, Nat.mul_one, Nat.add_zero, Nat.zero_add]); first | (refine u8s_get ?_; omega) | (refine iS_get ?_; omega) | assumption | rfl | fail) | (apply And.intro; (first | rfl | assumption | exact Nat.le_of_ble_eq_true rfl | omega | (simp <;> fail) | (simp <;> omega) | (focus (repeat' (first | exact one_u8s _ | exact one_iS _ _ | rfl | apply one_take | apply one_drop | apply one_append)); done) | fail)) | fail)) <;> (try (conv => whnf))
  refine Then.mk (AWq.in ?_)
  have hwr : wrA (iS .i64 X) (0 + ((X.length : Int) - 1).toNat * 1) [.int .i64 x3] = iS .i64 B := by
    rw [hti, Nat.zero_add, Nat.mul_one, iS_wr (by omega), hB]
  refine AWp_freeze1 (r := c) (v := 1) (es := 1) (n := B.length) (lim := none) (cells := iS .i64 B) 14 rfl ?_ ?_ (by simp) ?_
  · show AV.sl c 1 1 0 X.length none = _
    rw [lB]
  · exact (AH.set_same _ _ _).trans (congrArg (fun l => some (AO.row l 1)) hwr)
  refine AWp_less H0 (HLe.del _ (HLe.set_of _ _ (HLe.set_of _ _ (HLe.refl _) hcc) hcc) hcc) ?_
  refine AWp.of tt_ok (dok _) rfl ?_
  clear hcell hwr hsz hcc
  (repeat' ((conv => whnf); first | refine Then.mk ?_ | left | refine OpsA.cons ?_ | refine OpsA.nil ?_ | refine AWq.seq ?_ | refine AWq.region ?_ | refine AWq.cond ?_ | refine AWq.block ?_ | refine AWq.skip ?_ | refine AWq.ret ?_ | refine AWq.exit ?_ | refine AWq.loop ?_ | refine AWq.rangeFunc ?_ | refine DrawA.consD ?_ | refine DrawA.nil ?_ | refine AWq.draw (by decide +kernel) ?_ | (refine Both.mk ?_ ?_ <;> intro hc <;> (first | exact Bool.noConfusion hc | exact absurd (by with_reducible rfl) hc | exact (hc : False).elim | exact absurd (by assumption) hc | exact absurd hc (by assumption) | (exfalso; omega) | exact absurd hc (by decide) | skip)) | (intro c hc; (try (simp only [AH.none_iff] at hc; repeat (have hn := hc.1; replace hc := hc.2))); (first | (refine i64_k hc ?_ ?_ ?_ ; omega; omega; (clear hc; intro hc; subst hc)) | (refine u64_k hc ?_ ?_ ?_ ; omega; omega; (clear hc; intro hc; subst hc)) | (refine u8_k hc ?_ ?_ ?_ ; omega; omega; (clear hc; intro hc; subst hc)) | subst hc | skip)) | (apply Exists.intro; apply And.intro; (focus (repeat (first | assumption | exact AH.set_same _ _ _ | ((first | refine AH.get_ne ?_ ?_ | refine AH.getd_ne ?_ ?_); (first | assumption | omega | exact Ne.symm (by assumption) | exact AH.ne_none (by assumption) (by assumption) | exact AH.none_ne (by assumption) (by assumption) | exact (AH.none_set (by assumption)).1 | exact Ne.symm (AH.none_set (by assumption)).1)))); done)) | (apply Exists.intro; apply And.intro; (try simp only [List.getElem?_drop, Nat.mul_one, Nat.add_zero, Nat.zero_add]); first | (refine u8s_get ?_; omega) | (refine iS_get ?_; omega) | assumption | rfl | fail) | (apply And.intro; (first | rfl | assumption | exact Nat.le_of_ble_eq_true rfl | omega | (simp <;> fail) | (simp <;> omega) | (focus (repeat' (first | exact one_u8s _ | exact one_iS _ _ | rfl | apply one_take | apply one_drop | apply one_append)); done) | fail)) | fail)) <;> (try (conv => whnf))
  refine AWp_loop (σ := Nat) (8 :: 15 :: 16 :: 17 :: 18 :: 19 :: 20 :: 21 :: 22 :: 23 :: 69 :: 70 :: 71 :: 72 :: 73 :: 74 :: 75 :: 76 :: 77 :: 78 :: 79 :: 80 :: 81 :: 82 :: 83 :: 84 :: 85 :: 86 :: 87 :: 88 :: 89 :: 90 :: 91 :: 92 :: 93 :: 94 :: 95 :: 96 :: 97 :: 98 :: 99 :: 100 :: 101 :: 102 :: 103 :: 104 :: 105 :: 106 :: 107 :: 108 :: 109 :: 110 :: 111 :: 112 :: 113 :: 114 :: 115 :: 116 :: 117 :: 118 :: 119 :: 120 :: 121 :: 122 :: 123 :: 124 :: 125 :: 126 :: 127 :: 128 :: 129 :: 130 :: 131 :: 132 :: []) (fun i => [(15, .int .i64 i)]) (fun i => H0) (fun i => i ≤ 4) (fun i => 4 - i) 0 rfl ?_ ?_ ?_ ?_
  · exact Nat.zero_le _
  · exact ⟨rfl, trivial⟩
  · exact HLe.refl _
  · rintro i hi
    refine AWp.of tt_ok (dok _) rfl ?_
    by_cases hi4 : i < 4
    · have hv : ∃ v : Int, ([.int .i64 J, .int .i64 x1, .int .i64 x3, .int .i64 S] : List AV)[(i : Int).toNat]? = some (.int .i64 v) ∧ -9223372036854775808 ≤ v ∧ v ≤ 9223372036854775807 := by
        rcases (show i = 0 ∨ i = 1 ∨ i = 2 ∨ i = 3 by omega) with rfl | rfl | rfl | rfl
        · exact ⟨_, rfl, by omega, by omega⟩
        · exact ⟨_, rfl, hx1⟩
        · exact ⟨_, rfl, hx3⟩
        · exact ⟨_, rfl, by omega, by omega⟩
      obtain ⟨v, hv, hv1, hv2⟩ := hv
      have a1 := fun H => w1 B (by omega) v hv1 hv2 H
      have a2 := fun H => w2 B (by omega) v hv1 hv2 H
      have b1 := fun H => u1 v hv1 hv2 H
      have b2 := fun H => u2 v hv1 hv2 H
      have c1 := lowR_len (S : Int) B v
      have c2 := lowR_len v A (S : Int)
      generalize lowR (S : Int) B v = R1 at *
      generalize lowR v A (S : Int) = R2 at *
      obtain ⟨L1, e1⟩ := R1
      obtain ⟨L2, e2⟩ := R2
      have a1 : ∀ H, ACall Try.prog 25 [.int .i64 S, .cs (iS .i64 B) B.length, .int .i64 v] H (fun y H' => y = .tup [.cs (iS .i64 L1) L1.length, .int .i64 e1] ∧ H' = H) := a1
      have a2 : ∀ H, ACall Try.prog 26 [.int .i64 S, .cs (iS .i64 B) B.length, .int .i64 v] H (fun y H' => y = .tup [.cs (iS .i64 L1) L1.length, .int .i64 e1] ∧ H' = H) := a2
      have b1 : ∀ H, ACall Try.prog 25 [.int .i64 v, .cs (iS .i64 A) A.length, .int .i64 S] H (fun y H' => y = .tup [.cs (iS .i64 L2) L2.length, .int .i64 e2] ∧ H' = H) := b1
      have b2 : ∀ H, ACall Try.prog 26 [.int .i64 v, .cs (iS .i64 A) A.length, .int .i64 S] H (fun y H' => y = .tup [.cs (iS .i64 L2) L2.length, .int .i64 e2] ∧ H' = H) := b2
      have t1 := fun H => same_t L1 (Nat.le_trans c1 (by decide)) H
      have t2 := fun H => same_t L2 (Nat.le_trans c2 (by decide)) H
      (repeat' ((conv => whnf); first | refine Then.mk ?_ | left | refine OpsA.cons ?_ | refine OpsA.nil ?_ | refine AWq.seq ?_ | refine AWq.region ?_ | refine AWq.cond ?_ | refine AWq.block ?_ | refine AWq.skip ?_ | refine AWq.ret ?_ | refine AWq.exit ?_ | refine AWq.loop ?_ | refine AWq.rangeFunc ?_ | refine DrawA.consD ?_ | refine DrawA.nil ?_ | refine AWq.draw (by decide +kernel) ?_ | (refine ACall.to (a1 _) ?_) | (refine ACall.to (a2 _) ?_) | (refine ACall.to (b1 _) ?_) | (refine ACall.to (b2 _) ?_) | (refine ACall.to (t1 _) ?_) | (refine ACall.to (t2 _) ?_) | (apply Exists.intro; apply And.intro; exact a1 _) | (apply Exists.intro; apply And.intro; exact a2 _) | (apply Exists.intro; apply And.intro; exact b1 _) | (apply Exists.intro; apply And.intro; exact b2 _) | (apply Exists.intro; apply And.intro; exact t1 _) | (apply Exists.intro; apply And.intro; exact t2 _) | (apply Exists.intro; apply Exists.intro; apply And.intro; exact a1 _) | (apply Exists.intro; apply Exists.intro; apply And.intro; exact a2 _) | (apply Exists.intro; apply Exists.intro; apply And.intro; exact b1 _) | (apply Exists.intro; apply Exists.intro; apply And.intro; exact b2 _) | (apply Exists.intro; apply Exists.intro; apply And.intro; exact t1 _) | (apply Exists.intro; apply Exists.intro; apply And.intro; exact t2 _) | (refine Both.mk ?_ ?_ <;> intro hc <;> (first | exact Bool.noConfusion hc | exact absurd (by with_reducible rfl) hc | exact (hc : False).elim | exact absurd (by assumption) hc | exact absurd hc (by assumption) | (exfalso; omega) | exact absurd hc (by decide) | skip)) | (intro c hc; (try (simp only [AH.none_iff] at hc; repeat (have hn := hc.1; replace hc := hc.2))); (first | (refine i64_k hc ?_ ?_ ?_ ; omega; omega; (clear hc; intro hc; subst hc)) | (refine u64_k hc ?_ ?_ ?_ ; omega; omega; (clear hc; intro hc; subst hc)) | (refine u8_k hc ?_ ?_ ?_ ; omega; omega; (clear hc; intro hc; subst hc)) | subst hc | skip)) | (apply Exists.intro; apply And.intro; (focus (repeat (first | assumption | exact AH.set_same _ _ _ | ((first | refine AH.get_ne ?_ ?_ | refine AH.getd_ne ?_ ?_); (first | assumption | omega | exact Ne.symm (by assumption) | exact AH.ne_none (by assumption) (by assumption) | exact AH.none_ne (by assumption) (by assumption) | exact (AH.none_set (by assumption)).1 | exact Ne.symm (AH.none_set (by assumption)).1)))); done)) | (apply Exists.intro; apply And.intro; (try simp only [List.getElem?_drop, Nat.mul_one, Nat.add_zero, Nat.zero_add]); first | (refine u8s_get ?_; omega) | (refine iS_get ?_; omega) | assumption | rfl | fail) | (apply And.intro; (first | rfl | assumption | exact Nat.le_of_ble_eq_true rfl | omega | (simp <;> fail) | (simp <;> omega) | (focus (repeat' (first | exact one_u8s _ | exact one_iS _ _ | rfl | apply one_take | apply one_drop | apply one_append)); done) | fail)) | fail)) <;> (try (conv => whnf))
      exact ⟨i + 1, by omega, by omega, ⟨congrArg (AV.int .i64) (by omega), trivial⟩, HLe.refl _⟩
    · rcases hkc with h0 | ⟨h, hh⟩
      · have h1 := hk0 h0
        (repeat' ((conv => whnf); first | refine Then.mk ?_ | left | refine OpsA.cons ?_ | refine OpsA.nil ?_ | refine AWq.seq ?_ | refine AWq.region ?_ | refine AWq.cond ?_ | refine AWq.block ?_ | refine AWq.skip ?_ | refine AWq.ret ?_ | refine AWq.exit ?_ | refine AWq.loop ?_ | refine AWq.rangeFunc ?_ | refine DrawA.consD ?_ | refine DrawA.nil ?_ | refine AWq.draw (by decide +kernel) ?_ | (refine ACall.to (wf _) ?_) | (refine ACall.to (tA _) ?_) | (refine ACall.to (lives_c _) ?_) | (apply Exists.intro; apply And.intro; exact wf _) | (apply Exists.intro; apply And.intro; exact tA _) | (apply Exists.intro; apply And.intro; exact lives_c _) | (apply Exists.intro; apply Exists.intro; apply And.intro; exact wf _) | (apply Exists.intro; apply Exists.intro; apply And.intro; exact tA _) | (apply Exists.intro; apply Exists.intro; apply And.intro; exact lives_c _) | (refine Both.mk ?_ ?_ <;> intro hc <;> (first | exact Bool.noConfusion hc | exact absurd (by with_reducible rfl) hc | exact (hc : False).elim | exact absurd (by assumption) hc | exact absurd hc (by assumption) | (exfalso; omega) | exact absurd hc (by decide) | skip)) | (intro c hc; (try (simp only [AH.none_iff] at hc; repeat (have hn := hc.1; replace hc := hc.2))); (first | (refine i64_k hc ?_ ?_ ?_ ; omega; omega; (clear hc; intro hc; subst hc)) | (refine u64_k hc ?_ ?_ ?_ ; omega; omega; (clear hc; intro hc; subst hc)) | (refine u8_k hc ?_ ?_ ?_ ; omega; omega; (clear hc; intro hc; subst hc)) | subst hc | skip)) | (apply Exists.intro; apply And.intro; (focus (repeat (first | assumption | exact AH.set_same _ _ _ | ((first | refine AH.get_ne ?_ ?_ | refine AH.getd_ne ?_ ?_); (first | assumption | omega | exact Ne.symm (by assumption) | exact AH.ne_none (by assumption) (by assumption) | exact AH.none_ne (by assumption) (by assumption) | exact (AH.none_set (by assumption)).1 | exact Ne.symm (AH.none_set (by assumption)).1)))); done)) | (apply Exists.intro; apply And.intro; (try simp only [List.getElem?_drop, Nat.mul_one, Nat.add_zero, Nat.zero_add]); first | (refine u8s_get ?_; omega) | (refine iS_get ?_; omega) | assumption | rfl | fail) | (apply And.intro; (first | rfl | assumption | exact Nat.le_of_ble_eq_true rfl | omega | (simp <;> fail) | (simp <;> omega) | (focus (repeat' (first | exact one_u8s _ | exact one_iS _ _ | rfl | apply one_take | apply one_drop | apply one_append)); done) | fail)) | fail)) <;> (try (conv => whnf))
      · obtain ⟨Z, lZ, z1, z2⟩ := wh h hh
        have hSh := hk1 h hh
        have hp1 : 1 ≤ 2 ^ h := Nat.one_le_two_pow
        generalize 2 ^ h = P at *
        have hd2 : (S : Int).tdiv 2 = (P : Int) := by rw [Int.tdiv_eq_ediv_of_nonneg (by omega)]; omega
        have hPP : S * S = 4 * (P * P) := by rw [hSh, Nat.mul_mul_mul_comm]
        have hd4 : ((S : Int) * S).tdiv 4 = ((P * P : Nat) : Int) := by rw [cast, Int.tdiv_eq_ediv_of_nonneg (by omega)]; omega
        rw [← hd2] at z1
        (repeat' ((conv => whnf); first | refine Then.mk ?_ | left | refine OpsA.cons ?_ | refine OpsA.nil ?_ | refine AWq.seq ?_ | refine AWq.region ?_ | refine AWq.cond ?_ | refine AWq.block ?_ | refine AWq.skip ?_ | refine AWq.ret ?_ | refine AWq.exit ?_ | refine AWq.loop ?_ | refine AWq.rangeFunc ?_ | refine DrawA.consD ?_ | refine DrawA.nil ?_ | refine AWq.draw (by decide +kernel) ?_ | (refine ACall.to (wf _) ?_) | (refine ACall.to (tA _) ?_) | (refine ACall.to (z1 _) ?_) | (apply Exists.intro; apply And.intro; exact wf _) | (apply Exists.intro; apply And.intro; exact tA _) | (apply Exists.intro; apply And.intro; exact z1 _) | (apply Exists.intro; apply Exists.intro; apply And.intro; exact wf _) | (apply Exists.intro; apply Exists.intro; apply And.intro; exact tA _) | (apply Exists.intro; apply Exists.intro; apply And.intro; exact z1 _) | (refine Both.mk ?_ ?_ <;> intro hc <;> (first | exact Bool.noConfusion hc | exact absurd (by with_reducible rfl) hc | exact (hc : False).elim | exact absurd (by assumption) hc | exact absurd hc (by assumption) | (exfalso; omega) | exact absurd hc (by decide) | skip)) | (intro c hc; (try (simp only [AH.none_iff] at hc; repeat (have hn := hc.1; replace hc := hc.2))); (first | (refine i64_k hc ?_ ?_ ?_ ; omega; omega; (clear hc; intro hc; subst hc)) | (refine u64_k hc ?_ ?_ ?_ ; omega; omega; (clear hc; intro hc; subst hc)) | (refine u8_k hc ?_ ?_ ?_ ; omega; omega; (clear hc; intro hc; subst hc)) | subst hc | skip)) | (apply Exists.intro; apply And.intro; (focus (repeat (first | assumption | exact AH.set_same _ _ _ | ((first | refine AH.get_ne ?_ ?_ | refine AH.getd_ne ?_ ?_); (first | assumption | omega | exact Ne.symm (by assumption) | exact AH.ne_none (by assumption) (by assumption) | exact AH.none_ne (by assumption) (by assumption) | exact (AH.none_set (by assumption)).1 | exact Ne.symm (AH.none_set (by assumption)).1)))); done)) | (apply Exists.intro; apply And.intro; (try simp only [List.getElem?_drop, Nat.mul_one, Nat.add_zero, Nat.zero_add]); first | (refine u8s_get ?_; omega) | (refine iS_get ?_; omega) | assumption | rfl | fail) | (apply And.intro; (first | rfl | assumption | exact Nat.le_of_ble_eq_true rfl | omega | (simp <;> fail) | (simp <;> omega) | (focus (repeat' (first | exact one_u8s _ | exact one_iS _ _ | rfl | apply one_take | apply one_drop | apply one_append)); done) | fail)) | fail)) <;> (try (conv => whnf))
        refine AWp_cut [(9, .int .i64 S), (10, .cs (iS .i64 A) A.length), (26, .cs (iS .i64 Z) Z.length), (28, .int .i64 0)] ⟨rfl, rfl, rfl, rfl, trivial⟩ (fun _ => rfl) (HLe.refl _) ?_
        refine AWp_loop (σ := Nat) (8 :: 28 :: 29 :: 30 :: 31 :: 32 :: 170 :: 171 :: 172 :: 173 :: 174 :: 175 :: 176 :: 177 :: 178 :: 179 :: 180 :: 181 :: 182 :: 183 :: 184 :: 185 :: 186 :: 187 :: 188 :: 189 :: 190 :: 191 :: 192 :: 193 :: 194 :: 195 :: 196 :: 197 :: 198 :: 199 :: 200 :: 201 :: 202 :: 203 :: 204 :: 205 :: 206 :: 207 :: 208 :: 209 :: 210 :: 211 :: 212 :: 213 :: 214 :: 215 :: 216 :: 217 :: 218 :: 219 :: 220 :: 221 :: 222 :: 223 :: 224 :: 225 :: 226 :: 227 :: 228 :: []) (fun i => [(28, .int .i64 i)]) (fun i => H0) (fun i => i ≤ P) (fun i => P - i) 0 rfl ?_ ?_ ?_ ?_
        · exact Nat.zero_le _
        · exact ⟨rfl, trivial⟩
        · exact HLe.refl _
        · rintro i hi
          refine AWp.of tt_ok (dok _) rfl ?_
          by_cases hiP : i < P
          · (repeat' ((conv => whnf); first | refine Then.mk ?_ | left | refine OpsA.cons ?_ | refine OpsA.nil ?_ | refine AWq.seq ?_ | refine AWq.region ?_ | refine AWq.cond ?_ | refine AWq.block ?_ | refine AWq.skip ?_ | refine AWq.ret ?_ | refine AWq.exit ?_ | refine AWq.loop ?_ | refine AWq.rangeFunc ?_ | refine DrawA.consD ?_ | refine DrawA.nil ?_ | refine AWq.draw (by decide +kernel) ?_ | (refine Both.mk ?_ ?_ <;> intro hc <;> (first | exact Bool.noConfusion hc | exact absurd (by with_reducible rfl) hc | exact (hc : False).elim | exact absurd (by assumption) hc | exact absurd hc (by assumption) | (exfalso; omega) | exact absurd hc (by decide) | skip)) | (intro c hc; (try (simp only [AH.none_iff] at hc; repeat (have hn := hc.1; replace hc := hc.2))); (first | (refine i64_k hc ?_ ?_ ?_ ; omega; omega; (clear hc; intro hc; subst hc)) | (refine u64_k hc ?_ ?_ ?_ ; omega; omega; (clear hc; intro hc; subst hc)) | (refine u8_k hc ?_ ?_ ?_ ; omega; omega; (clear hc; intro hc; subst hc)) | subst hc | skip)) | (apply Exists.intro; apply And.intro; (focus (repeat (first | assumption | exact AH.set_same _ _ _ | ((first | refine AH.get_ne ?_ ?_ | refine AH.getd_ne ?_ ?_); (first | assumption | omega | exact Ne.symm (by assumption) | exact AH.ne_none (by assumption) (by assumption) | exact AH.none_ne (by assumption) (by assumption) | exact (AH.none_set (by assumption)).1 | exact Ne.symm (AH.none_set (by assumption)).1)))); done)) | (apply Exists.intro; apply And.intro; (try simp only [List.getElem?_drop, Nat.mul_one, Nat.add_zero, Nat.zero_add]); first | (refine u8s_get ?_; omega) | (refine iS_get ?_; omega) | assumption | rfl | fail) | (apply And.intro; (first | rfl | assumption | exact Nat.le_of_ble_eq_true rfl | omega | (simp <;> fail) | (simp <;> omega) | (focus (repeat' (first | exact one_u8s _ | exact one_iS _ _ | rfl | apply one_take | apply one_drop | apply one_append)); done) | fail)) | fail)) <;> (try (conv => whnf))
            refine AWp_loop (σ := Nat) (8 :: 29 :: 30 :: 31 :: 32 :: 176 :: 177 :: 178 :: 179 :: 180 :: 181 :: 182 :: 183 :: 184 :: 185 :: 186 :: 187 :: 188 :: 189 :: 190 :: 191 :: 192 :: 193 :: 194 :: 195 :: 196 :: 197 :: 198 :: 199 :: 200 :: 201 :: 202 :: 203 :: 204 :: 205 :: 206 :: 207 :: 208 :: 209 :: 210 :: 211 :: 212 :: 213 :: 214 :: 215 :: 216 :: 217 :: 218 :: 219 :: 220 :: 221 :: 222 :: 223 :: 224 :: 225 :: 226 :: 227 :: 228 :: []) (fun k => [(29, .int .i64 k)]) (fun k => H0) (fun k => k ≤ P) (fun k => P - k) 0 rfl ?_ ?_ ?_ ?_
            · exact Nat.zero_le _
            · exact ⟨rfl, trivial⟩
            · exact HLe.refl _
            · rintro k hk'
              refine AWp.of tt_ok (dok _) rfl ?_
              by_cases hkP : k < P
              · have m1 : 0 ≤ 2 * (i : Int) * S := Int.mul_nonneg (by omega) (by omega)
                have m2 : 2 * (i : Int) * S = ((2 * i * S : Nat) : Int) := by rw [Int.natCast_mul, Int.natCast_mul]; rfl
                have m3 : 0 ≤ (i : Int) * S := Int.mul_nonneg (by omega) (by omega)
                have m4 : (i : Int) * S = 2 * ((i * P : Nat) : Int) := by rw [hSh, Int.natCast_mul, Int.natCast_mul, Int.mul_left_comm]; rfl
                have m5 : ((i : Int) * S).tdiv 2 = ((i * P : Nat) : Int) := by rw [m4, Int.tdiv_eq_ediv_of_nonneg (by omega)]; omega
                have m6 : i * P + k < P * P := (place hiP hkP).1
                have m7 : (2 * i + 1) * S + (2 * k + 1) < S * S := (place (s := S) (r := 2 * i + 1) (c := 2 * k + 1) (by omega) (by omega)).1
                rw [Nat.add_mul, Nat.one_mul] at m7
                have i1 : (2 * (i : Int) * S + 2 * (k : Int)).toNat = 2 * i * S + 2 * k := by omega
                have i2 : (2 * (i : Int) * S + 2 * (k : Int) + 1).toNat = 2 * i * S + 2 * k + 1 := by omega
                have i3 : (2 * (i : Int) * S + 2 * (k : Int) + S).toNat = (2 * i + 1) * S + 2 * k := by rw [Nat.add_mul, Nat.one_mul]; omega
                have i4 : (2 * (i : Int) * S + 2 * (k : Int) + S + 1).toNat = (2 * i + 1) * S + 2 * k + 1 := by rw [Nat.add_mul, Nat.one_mul]; omega
                have i5 : (((i : Int) * S).tdiv 2 + (k : Int)).toNat = i * P + k := by omega
                have hz := z2 i k hiP hkP
                rw [← i2, ← i4, ← i1, ← i3, ← i5] at hz
                have d1 := hbnd (2 * (i : Int) * S + 2 * (k : Int)).toNat
                have d2 := hbnd (2 * (i : Int) * S + 2 * (k : Int) + 1).toNat
                have d3 := hbnd (2 * (i : Int) * S + 2 * (k : Int) + S).toNat
                have d4 := hbnd (2 * (i : Int) * S + 2 * (k : Int) + S + 1).toNat
                have g1 := fun H => Half_c (A.getD (2 * (i : Int) * S + 2 * (k : Int)).toNat 0 + A.getD (2 * (i : Int) * S + 2 * (k : Int) + 1).toNat 0) (by omega) (by omega) H
                have g2 := fun H => Half_c (A.getD (2 * (i : Int) * S + 2 * (k : Int) + S).toNat 0 + A.getD (2 * (i : Int) * S + 2 * (k : Int) + S + 1).toNat 0) (by omega) (by omega) H
                have g3 := fun H => Half_c ((A.getD (2 * (i : Int) * S + 2 * (k : Int)).toNat 0 + A.getD (2 * (i : Int) * S + 2 * (k : Int) + 1).toNat 0) / 2 + (A.getD (2 * (i : Int) * S + 2 * (k : Int) + S).toNat 0 + A.getD (2 * (i : Int) * S + 2 * (k : Int) + S + 1).toNat 0) / 2) (by omega) (by omega) H
                (repeat' ((conv => whnf); first | refine Then.mk ?_ | left | refine OpsA.cons ?_ | refine OpsA.nil ?_ | refine AWq.seq ?_ | refine AWq.region ?_ | refine AWq.cond ?_ | refine AWq.block ?_ | refine AWq.skip ?_ | refine AWq.ret ?_ | refine AWq.exit ?_ | refine AWq.loop ?_ | refine AWq.rangeFunc ?_ | refine DrawA.consD ?_ | refine DrawA.nil ?_ | refine AWq.draw (by decide +kernel) ?_ | (refine ACall.to (g1 _) ?_) | (refine ACall.to (g2 _) ?_) | (refine ACall.to (g3 _) ?_) | (apply Exists.intro; apply And.intro; exact g1 _) | (apply Exists.intro; apply And.intro; exact g2 _) | (apply Exists.intro; apply And.intro; exact g3 _) | (apply Exists.intro; apply Exists.intro; apply And.intro; exact g1 _) | (apply Exists.intro; apply Exists.intro; apply And.intro; exact g2 _) | (apply Exists.intro; apply Exists.intro; apply And.intro; exact g3 _) | (refine Both.mk ?_ ?_ <;> intro hc <;> (first | exact Bool.noConfusion hc | exact absurd (by with_reducible rfl) hc | exact (hc : False).elim | exact absurd (by assumption) hc | exact absurd hc (by assumption) | (exfalso; omega) | exact absurd hc (by decide) | skip)) | (intro c hc; (try (simp only [AH.none_iff] at hc; repeat (have hn := hc.1; replace hc := hc.2))); (first | (refine i64_k hc ?_ ?_ ?_ ; omega; omega; (clear hc; intro hc; subst hc)) | (refine u64_k hc ?_ ?_ ?_ ; omega; omega; (clear hc; intro hc; subst hc)) | (refine u8_k hc ?_ ?_ ?_ ; omega; omega; (clear hc; intro hc; subst hc)) | subst hc | skip)) | (apply Exists.intro; apply And.intro; (focus (repeat (first | assumption | exact AH.set_same _ _ _ | ((first | refine AH.get_ne ?_ ?_ | refine AH.getd_ne ?_ ?_); (first | assumption | omega | exact Ne.symm (by assumption) | exact AH.ne_none (by assumption) (by assumption) | exact AH.none_ne (by assumption) (by assumption) | exact (AH.none_set (by assumption)).1 | exact Ne.symm (AH.none_set (by assumption)).1)))); done)) | (apply Exists.intro; apply And.intro; (try simp only [List.getElem?_drop, Nat.mul_one, Nat.add_zero, Nat.zero_add]); first | (refine u8s_get ?_; omega) | (refine iS_get ?_; omega) | assumption | rfl | fail) | (apply And.intro; (first | rfl | assumption | exact Nat.le_of_ble_eq_true rfl | omega | (simp <;> fail) | (simp <;> omega) | (focus (repeat' (first | exact one_u8s _ | exact one_iS _ _ | rfl | apply one_take | apply one_drop | apply one_append)); done) | fail)) | fail)) <;> (try (conv => whnf))
                exact ⟨k + 1, by omega, by omega, ⟨congrArg (AV.int .i64) (by omega), trivial⟩, HLe.refl _⟩
              · (repeat' ((conv => whnf); first | refine Then.mk ?_ | left | refine OpsA.cons ?_ | refine OpsA.nil ?_ | refine AWq.seq ?_ | refine AWq.region ?_ | refine AWq.cond ?_ | refine AWq.block ?_ | refine AWq.skip ?_ | refine AWq.ret ?_ | refine AWq.exit ?_ | refine AWq.loop ?_ | refine AWq.rangeFunc ?_ | refine DrawA.consD ?_ | refine DrawA.nil ?_ | refine AWq.draw (by decide +kernel) ?_ | (refine Both.mk ?_ ?_ <;> intro hc <;> (first | exact Bool.noConfusion hc | exact absurd (by with_reducible rfl) hc | exact (hc : False).elim | exact absurd (by assumption) hc | exact absurd hc (by assumption) | (exfalso; omega) | exact absurd hc (by decide) | skip)) | (intro c hc; (try (simp only [AH.none_iff] at hc; repeat (have hn := hc.1; replace hc := hc.2))); (first | (refine i64_k hc ?_ ?_ ?_ ; omega; omega; (clear hc; intro hc; subst hc)) | (refine u64_k hc ?_ ?_ ?_ ; omega; omega; (clear hc; intro hc; subst hc)) | (refine u8_k hc ?_ ?_ ?_ ; omega; omega; (clear hc; intro hc; subst hc)) | subst hc | skip)) | (apply Exists.intro; apply And.intro; (focus (repeat (first | assumption | exact AH.set_same _ _ _ | ((first | refine AH.get_ne ?_ ?_ | refine AH.getd_ne ?_ ?_); (first | assumption | omega | exact Ne.symm (by assumption) | exact AH.ne_none (by assumption) (by assumption) | exact AH.none_ne (by assumption) (by assumption) | exact (AH.none_set (by assumption)).1 | exact Ne.symm (AH.none_set (by assumption)).1)))); done)) | (apply Exists.intro; apply And.intro; (try simp only [List.getElem?_drop, Nat.mul_one, Nat.add_zero, Nat.zero_add]); first | (refine u8s_get ?_; omega) | (refine iS_get ?_; omega) | assumption | rfl | fail) | (apply And.intro; (first | rfl | assumption | exact Nat.le_of_ble_eq_true rfl | omega | (simp <;> fail) | (simp <;> omega) | (focus (repeat' (first | exact one_u8s _ | exact one_iS _ _ | rfl | apply one_take | apply one_drop | apply one_append)); done) | fail)) | fail)) <;> (try (conv => whnf))
                exact ⟨i + 1, by omega, by omega, ⟨congrArg (AV.int .i64) (by omega), trivial⟩, HLe.refl _⟩
          · (repeat' ((conv => whnf); first | refine Then.mk ?_ | left | refine OpsA.cons ?_ | refine OpsA.nil ?_ | refine AWq.seq ?_ | refine AWq.region ?_ | refine AWq.cond ?_ | refine AWq.block ?_ | refine AWq.skip ?_ | refine AWq.ret ?_ | refine AWq.exit ?_ | refine AWq.loop ?_ | refine AWq.rangeFunc ?_ | refine DrawA.consD ?_ | refine DrawA.nil ?_ | refine AWq.draw (by decide +kernel) ?_ | (refine ACall.to (lives_c _) ?_) | (apply Exists.intro; apply And.intro; exact lives_c _) | (apply Exists.intro; apply Exists.intro; apply And.intro; exact lives_c _) | (refine Both.mk ?_ ?_ <;> intro hc <;> (first | exact Bool.noConfusion hc | exact absurd (by with_reducible rfl) hc | exact (hc : False).elim | exact absurd (by assumption) hc | exact absurd hc (by assumption) | (exfalso; omega) | exact absurd hc (by decide) | skip)) | (intro c hc; (try (simp only [AH.none_iff] at hc; repeat (have hn := hc.1; replace hc := hc.2))); (first | (refine i64_k hc ?_ ?_ ?_ ; omega; omega; (clear hc; intro hc; subst hc)) | (refine u64_k hc ?_ ?_ ?_ ; omega; omega; (clear hc; intro hc; subst hc)) | (refine u8_k hc ?_ ?_ ?_ ; omega; omega; (clear hc; intro hc; subst hc)) | subst hc | skip)) | (apply Exists.intro; apply And.intro; (focus (repeat (first | assumption | exact AH.set_same _ _ _ | ((first | refine AH.get_ne ?_ ?_ | refine AH.getd_ne ?_ ?_); (first | assumption | omega | exact Ne.symm (by assumption) | exact AH.ne_none (by assumption) (by assumption) | exact AH.none_ne (by assumption) (by assumption) | exact (AH.none_set (by assumption)).1 | exact Ne.symm (AH.none_set (by assumption)).1)))); done)) | (apply Exists.intro; apply And.intro; (try simp only [List.getElem?_drop, Nat.mul_one, Nat.add_zero, Nat.zero_add]); first | (refine u8s_get ?_; omega) | (refine iS_get ?_; omega) | assumption | rfl | fail) | (apply And.intro; (first | rfl | assumption | exact Nat.le_of_ble_eq_true rfl | omega | (simp <;> fail) | (simp <;> omega) | (focus (repeat' (first | exact one_u8s _ | exact one_iS _ _ | rfl | apply one_take | apply one_drop | apply one_append)); done) | fail)) | fail)) <;> (try (conv => whnf))
end Go.Proofs.Ytajmabnnaidhkaa
