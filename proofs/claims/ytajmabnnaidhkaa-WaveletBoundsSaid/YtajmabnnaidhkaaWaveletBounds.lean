/- The law WaveletBounds: the contract of the law's function. -/
import Derived.Test.YtajmabnnaidhkaaWaveO
namespace Go.Proofs.Ytajmabnnaidhkaa
open Go.Fw Go
set_option linter.unusedVariables false
set_option linter.unusedSimpArgs false

theorem boundE {v : Int} : (if 0 ≤ v ∧ v ≤ 1099511627776 then (0 : Int) else 5) = 0 ∨ (if 0 ≤ v ∧ v ≤ 1099511627776 then (0 : Int) else 5) = 5 := by split <;> simp

set_option maxHeartbeats 40000000 in
set_option maxRecDepth 8000 in
theorem WaveletBounds_c (x0 : Int) (hx0 : -9223372036854775808 ≤ x0 ∧ x0 ≤ 9223372036854775807) (l1 : List Int) (hl1 : l1.length ≤ maxLen) (hr1 : ∀ n ∈ l1, -9223372036854775808 ≤ n ∧ n ≤ 9223372036854775807) (x2 : Int) (hx2 : -9223372036854775808 ≤ x2 ∧ x2 ≤ 9223372036854775807) :
    ACall Try.prog 4 [.int .i64 x0, .cs (iS .i64 l1) l1.length, .int .i64 x2] (fun _ => none) (fun y _ => y = .bool true) := by
  obtain ⟨k, hk, sk⟩ := sides_k x0 hx0.1 hx0.2
  have hS := (pow_side hk).2
  have hsd := (pow_side hk).1
  -- the bound's three calls
  have b1 := fun H => Bound_c ((2 ^ k : Nat) : Int) (by omega) (by omega) x2 H
  have b2 := fun H => Bound_c x0 hx0.1 hx0.2 5 H
  have sd := fun H => Side_c x0 hx0.1 hx0.2 H
  have hm1 := tmod_bd x2 4999 (by omega)
  obtain ⟨v, hv⟩ : ∃ v, v = (x2.tmod 5000 + 5000).tmod 5000 := ⟨_, rfl⟩
  have hv0 : 0 ≤ v ∧ v ≤ 4999 := by
    have h1 : -4999 ≤ x2.tmod 5000 := hm1.1
    have h2 := Int.tmod_nonneg 5000 (show 0 ≤ x2.tmod 5000 + 5000 by omega)
    have h3 := tmod_bd (x2.tmod 5000 + 5000) 4999 (by omega)
    rw [hv]
    exact ⟨h2, h3.2⟩
  have b3 := fun H => Bound_c ((2 ^ k : Nat) : Int) (by omega) (by omega) v H
  obtain ⟨b, hb⟩ : ∃ b : Int, b = if ((2 ^ k : Nat) : Int) = 1 then v else 4 * v := ⟨_, rfl⟩
  have hb0 : 0 ≤ b ∧ b ≤ 19996 := by rw [hb]; split <;> omega
  simp only [if_pos (show IsSide ((2 ^ k : Nat) : Int) ∧ 0 ≤ v ∧ v ≤ 1099511627776 from ⟨hsd, by omega, by omega⟩), if_pos hsd, if_pos (show 0 ≤ v ∧ v ≤ 1099511627776 from ⟨by omega, by omega⟩), ← hb] at b3
  simp only [if_pos hsd, show (IsSide ((2 ^ k : Nat) : Int) ∧ 0 ≤ x2 ∧ x2 ≤ 1099511627776) ↔ (0 ≤ x2 ∧ x2 ≤ 1099511627776) from ⟨fun h => h.2, fun h => ⟨hsd, h⟩⟩] at b1
  -- the squares
  have q1 := fun H => square_c (2 ^ k) (by omega) l1 hl1 v (by omega) H
  obtain ⟨A, hA⟩ : ∃ A, A = lnL (2 ^ k * 2 ^ k) (sqV l1 v) := ⟨_, rfl⟩
  have lA : A.length = 2 ^ k * 2 ^ k := by rw [hA]; exact lnL_len _ _
  have iA : inB v A = true := by rw [hA]; exact inB_lnL fun c _ => sqV_bd l1 _ (by omega) c
  have iA2 : inB 1099511627776 A = true := by rw [inB_iff] at iA ⊢; intro x hx; have := iA x hx; omega
  unfold iL at q1
  rw [← hA, ← lA] at q1
  have f1 := fun H => Forward_ok k hk A lA iA2 H
  have bA := inB_bnd (by omega) iA (2 ^ k)
  obtain ⟨X, hX⟩ : ∃ X, X = toL (2 ^ k) (fwd k (ofL (2 ^ k) A)) := ⟨_, rfl⟩
  rw [← hX] at f1
  have lX : X.length = 2 ^ k * 2 ^ k := by rw [hX]; exact toL_len _ _
  have iX : inB b X = true := by
    rw [hX]
    refine inB_toL ?_
    rw [hb]
    split
    · rename_i h1
      have : k = 0 := by
        rcases (show k = 0 ∨ k = 1 ∨ k = 2 ∨ k = 3 ∨ k = 4 by omega) with rfl | rfl | rfl | rfl | rfl
        · rfl
        all_goals simp at h1
      subst this
      exact bA
    · exact fwd_bd (B := v) (by omega) k _ (Nat.le_refl _) (fun r c hr hc => bA r c hr hc) (fun r c hr hc => by have := bA r c hr hc; omega)
  -- equal values
  obtain ⟨E, hE⟩ : ∃ E, E = lnL (2 ^ k * 2 ^ k) (fun _ => v) := ⟨_, rfl⟩
  have lE : E.length = 2 ^ k * 2 ^ k := by rw [hE]; exact lnL_len _ _
  have iE : inB 1099511627776 E = true := by rw [hE]; exact inB_lnL fun c _ => by omega
  have f2 := fun H => Forward_ok k hk E lE iE H
  obtain ⟨Y, hY⟩ : ∃ Y, Y = toL (2 ^ k) (fwd k (ofL (2 ^ k) E)) := ⟨_, rfl⟩
  rw [← hY] at f2
  have lY : Y.length = 2 ^ k * 2 ^ k := by rw [hY]; exact toL_len _ _
  have hYv : ∀ p, p < 2 ^ k * 2 ^ k → Y.getD p 0 = if p = 0 then v else 0 := by
    intro p hp
    obtain ⟨h1, h2, h3⟩ := place' hp
    have := fwd_const k (ofL (2 ^ k) E) (fun r c hr hc => by
      unfold ofL
      rw [if_pos ⟨hr, hc⟩, hE, lnL_getD _ (place hr hc).1]) (p / 2 ^ k) (p % 2 ^ k) h1 h2
    rw [hY, ← h3, toL_getD _ h1 h2, this]
    by_cases h0 : p / 2 ^ k = 0 ∧ p % 2 ^ k = 0
    · rw [if_pos h0, if_pos (by rw [h0.1, h0.2]; simp)]
    · rw [if_neg h0, if_neg (fun h => h0 (by rw [h3] at h; rw [h]; simp))]
  -- extreme values
  obtain ⟨Z, hZ⟩ : ∃ Z, Z = lnL (2 ^ k * 2 ^ k) (fun p => sgn (p / 2 ^ k) (p % 2 ^ k) * v) := ⟨_, rfl⟩
  have lZ : Z.length = 2 ^ k * 2 ^ k := by rw [hZ]; exact lnL_len _ _
  have hsg : ∀ r c, sgn r c = 1 ∨ sgn r c = -1 := fun r c => by unfold sgn; omega
  have iZ : inB 1099511627776 Z = true := by
    rw [hZ]
    refine inB_lnL fun c _ => ?_
    rcases hsg (c / 2 ^ k) (c % 2 ^ k) with h | h <;> rw [h] <;> omega
  have f3 := fun H => Forward_ok k hk Z lZ iZ H
  obtain ⟨W, hW⟩ : ∃ W, W = toL (2 ^ k) (fwd k (ofL (2 ^ k) Z)) := ⟨_, rfl⟩
  rw [← hW] at f3
  have lW : W.length = 2 ^ k * 2 ^ k := by rw [hW]; exact toL_len _ _
  have hWb : ∃ p, p < 2 ^ k * 2 ^ k ∧ W.getD p 0 = b := by
    have hM : ∀ r c, r < 2 ^ k → c < 2 ^ k → ofL (2 ^ k) Z r c = sgn r c * v := fun r c hr hc => by
      obtain ⟨p1, p2, p3⟩ := place hr hc
      unfold ofL
      rw [if_pos ⟨hr, hc⟩, hZ, lnL_getD _ p1, p2, p3]
    cases k with
    | zero =>
      refine ⟨0, by decide, ?_⟩
      rw [hW, hb, if_pos (show ((2 ^ 0 : Nat) : Int) = 1 from rfl)]
      have := toL_getD (s := 2 ^ 0) (fwd 0 (ofL (2 ^ 0) Z)) (r := 0) (c := 0) (by decide) (by decide)
      rw [show (0 : Nat) * 2 ^ 0 + 0 = 0 from rfl] at this
      rw [this]
      show ofL (2 ^ 0) Z 0 0 = v
      rw [hM 0 0 (by decide) (by decide)]
      show 1 * v = v
      omega
    | succ k =>
      have hp : 1 ≤ 2 ^ k := Nat.one_le_two_pow
      have h2 : 2 ^ k < 2 ^ (k + 1) := by rw [pow_half]; omega
      refine ⟨2 ^ k * 2 ^ (k + 1) + 2 ^ k, (place h2 h2).1, ?_⟩
      rw [hW, toL_getD _ h2 h2, fwd_ext k _ hM, hb, if_neg (by rw [pow_half]; omega)]
  obtain ⟨p0, hp0, hWb⟩ := hWb
  have hss : 2 ^ k * 2 ^ k ≤ 256 := Nat.mul_le_mul hS.1 hS.1
  have h11 : 1 ≤ 2 ^ k * 2 ^ k := Nat.mul_le_mul hS.2 hS.2
  have cast : ((2 ^ k : Nat) : Int) * ((2 ^ k : Nat) : Int) = ((2 ^ k * 2 ^ k : Nat) : Int) := (Int.natCast_mul _ _).symm
  clear hA hX hY hW bA
  obtain ⟨H0, hH0⟩ : ∃ H0 : AH, H0 = fun _ => none := ⟨_, rfl⟩
  rw [← hH0]
  clear hH0
  generalize 2 ^ k = S at *
  -- the first errors
  obtain ⟨e1, he1⟩ : ∃ e1 : Int, e1 = if 0 ≤ x2 ∧ x2 ≤ 1099511627776 then 0 else 5 := ⟨_, rfl⟩
  rw [← he1] at b1
  obtain ⟨e2, he2⟩ : ∃ e2 : Int, e2 = if IsSide x0 then 0 else 1 := ⟨_, rfl⟩
  have b2' : ∀ H, ACall Try.prog 15 [.int .i64 x0, .int .i64 5] H (fun y H' => y = .tup [.int .i64 (if IsSide x0 ∧ (0 : Int) ≤ 5 ∧ (5 : Int) ≤ 1099511627776 then (if x0 = 1 then 5 else 4 * 5) else 0), .int .i64 e2] ∧ H' = H) := fun H => by
    have := b2 H
    rw [if_pos (show (0 : Int) ≤ 5 ∧ (5 : Int) ≤ 1099511627776 by decide)] at this
    rw [he2]; exact this
  have E1 : (e1 = 0 ∧ 0 ≤ x2 ∧ x2 ≤ 1099511627776) ∨ (e1 = 5 ∧ ¬ (0 ≤ x2 ∧ x2 ≤ 1099511627776)) := by
    rw [he1]; split
    · exact .inl ⟨rfl, by assumption⟩
    · exact .inr ⟨rfl, by assumption⟩
  have E2 : (e2 = 0 ∧ decide (IsSide x0) = true) ∨ (e2 = 1 ∧ decide (IsSide x0) = false) := by
    rw [he2]; split
    · exact .inl ⟨rfl, decide_eq_true (by assumption)⟩
    · exact .inr ⟨rfl, decide_eq_false (by assumption)⟩
  clear b2 he1 he2
  generalize (if IsSide x0 ∧ (0 : Int) ≤ 5 ∧ (5 : Int) ≤ 1099511627776 then (if x0 = 1 then (5 : Int) else 4 * 5) else 0) = bb at b2'
  generalize decide (IsSide x0) = ds at *
  generalize (if 0 ≤ x2 ∧ x2 ≤ 1099511627776 then (if (S : Int) = 1 then x2 else 4 * x2) else 0) = b0 at b1
  have hm5 : -4999 ≤ x2.tmod 5000 ∧ x2.tmod 5000 ≤ 4999 := hm1
  have f1 : ∀ H, ACall Try.prog 12 [.int .i64 S, .cs (iS .i64 A) A.length] H (fun y H' => y = .tup [.cs (iS .i64 X) X.length, .int .i64 0] ∧ H' = H) := f1
  have f2 : ∀ H, ACall Try.prog 12 [.int .i64 S, .cs (iS .i64 E) E.length] H (fun y H' => y = .tup [.cs (iS .i64 Y) Y.length, .int .i64 0] ∧ H' = H) := f2
  have f3 : ∀ H, ACall Try.prog 12 [.int .i64 S, .cs (iS .i64 Z) Z.length] H (fun y H' => y = .tup [.cs (iS .i64 W) W.length, .int .i64 0] ∧ H' = H) := f3
  obtain ⟨T, hT⟩ : ∃ T, T = (x2.tmod 5000 + 5000).tmod 5000 := ⟨_, rfl⟩
  have hv : v = T := by rw [hv, hT]
  subst hv
  have fin : ∀ i : Nat, i < S * S → ∃ d m : Nat, (i : Int).tdiv S = d ∧ (i : Int).tmod S = m ∧ d ≤ 256 ∧ m ≤ 256 ∧ ((d : Int) + m).tmod 2 = (((d + m) % 2 : Nat) : Int) ∧ sgn (i / S) (i % S) = 1 - 2 * (((d + m) % 2 : Nat) : Int) := fun i hi => by
    refine ⟨i / S, i % S, ?_, ?_, ?_, ?_, ?_, rfl⟩
    · rw [Int.tdiv_eq_ediv_of_nonneg (by omega)]; rfl
    · rw [Int.tmod_eq_emod_of_nonneg (by omega)]; rfl
    · have := Nat.div_le_self i S; omega
    · have := Nat.mod_lt i (show 0 < S by omega); omega
    · rw [← Int.natCast_add, Int.tmod_eq_emod_of_nonneg (Int.natCast_nonneg _)]; rfl
  refine ACall_of tt_ok (dok _) Try.func4 rfl (by decide) rfl ?_
  refine (fun (tail : Kept ?TT) => ?main) (Kept.mk ?tl)
  case main =>
    rcases E1 with ⟨rfl, E1⟩ | ⟨rfl, E1⟩ <;> rcases E2 with ⟨rfl, rfl⟩ | ⟨rfl, rfl⟩
    all_goals
      (repeat' ((conv => whnf); first | left | refine OpsA.cons ?_ | refine OpsA.nil ?_ | refine AWq.seq ?_ | refine AWq.region ?_ | refine AWq.cond ?_ | refine AWq.block ?_ | refine AWq.skip ?_ | refine AWq.ret ?_ | refine AWq.exit ?_ | refine AWq.loop ?_ | refine AWq.rangeFunc ?_ | refine DrawA.consD ?_ | refine DrawA.nil ?_ | refine AWq.draw (by decide +kernel) ?_ | (refine Both.mk ?_ ?_ <;> intro hc <;> (first | exact Bool.noConfusion hc | exact absurd (by with_reducible rfl) hc | exact (hc : False).elim | exact absurd (by assumption) hc | exact absurd hc (by assumption) | (exfalso; omega) | exact absurd hc (by decide) | skip)) | (intro c hc; (try (simp only [AH.none_iff] at hc; repeat (have hn := hc.1; replace hc := hc.2))); (first | (refine i64_k hc ?_ ?_ ?_ ; omega; omega; (clear hc; intro hc; subst hc)) | (refine u64_k hc ?_ ?_ ?_ ; omega; omega; (clear hc; intro hc; subst hc)) | (refine u8_k hc ?_ ?_ ?_ ; omega; omega; (clear hc; intro hc; subst hc)) | subst hc | skip)) | (apply Exists.intro; apply And.intro; (focus (repeat (first | assumption | exact AH.set_same _ _ _ | ((first | refine AH.get_ne ?_ ?_ | refine AH.getd_ne ?_ ?_); (first | assumption | omega | exact Ne.symm (by assumption) | exact AH.ne_none (by assumption) (by assumption) | exact AH.none_ne (by assumption) (by assumption) | exact (AH.none_set (by assumption)).1 | exact Ne.symm (AH.none_set (by assumption)).1)))); done)) | (apply Exists.intro; apply And.intro; (try simp only [List.getElem?_drop, Nat.mul_one, Nat.add_zero, Nat.zero_add]); first | (refine u8s_get ?_; omega) | (refine iS_get ?_; omega) | assumption | rfl | fail) | (apply And.intro; (first | rfl | assumption | exact Nat.le_of_ble_eq_true rfl | omega | (simp <;> fail) | (simp <;> omega) | (focus (repeat' (first | exact one_u8s _ | exact one_iS _ _ | rfl | apply one_take | apply one_drop | apply one_append)); done) | fail)) | fail)) <;> (try (conv => whnf))
      refine Then.mk ?_
      (repeat' ((conv => whnf); first | left | refine OpsA.cons ?_ | refine OpsA.nil ?_ | refine AWq.seq ?_ | refine AWq.region ?_ | refine AWq.cond ?_ | refine AWq.block ?_ | refine AWq.skip ?_ | refine AWq.ret ?_ | refine AWq.exit ?_ | refine AWq.loop ?_ | refine AWq.rangeFunc ?_ | refine DrawA.consD ?_ | refine DrawA.nil ?_ | refine AWq.draw (by decide +kernel) ?_ | (refine ACall.to (sk _) ?_) | (apply Exists.intro; apply And.intro; exact sk _) | (apply Exists.intro; apply Exists.intro; apply And.intro; exact sk _) | (refine Both.mk ?_ ?_ <;> intro hc <;> (first | exact Bool.noConfusion hc | exact absurd (by with_reducible rfl) hc | exact (hc : False).elim | exact absurd (by assumption) hc | exact absurd hc (by assumption) | (exfalso; omega) | exact absurd hc (by decide) | skip)) | (intro c hc; (try (simp only [AH.none_iff] at hc; repeat (have hn := hc.1; replace hc := hc.2))); (first | (refine i64_k hc ?_ ?_ ?_ ; omega; omega; (clear hc; intro hc; subst hc)) | (refine u64_k hc ?_ ?_ ?_ ; omega; omega; (clear hc; intro hc; subst hc)) | (refine u8_k hc ?_ ?_ ?_ ; omega; omega; (clear hc; intro hc; subst hc)) | subst hc | skip)) | (apply Exists.intro; apply And.intro; (focus (repeat (first | assumption | exact AH.set_same _ _ _ | ((first | refine AH.get_ne ?_ ?_ | refine AH.getd_ne ?_ ?_); (first | assumption | omega | exact Ne.symm (by assumption) | exact AH.ne_none (by assumption) (by assumption) | exact AH.none_ne (by assumption) (by assumption) | exact (AH.none_set (by assumption)).1 | exact Ne.symm (AH.none_set (by assumption)).1)))); done)) | (apply Exists.intro; apply And.intro; (try simp only [List.getElem?_drop, Nat.mul_one, Nat.add_zero, Nat.zero_add]); first | (refine u8s_get ?_; omega) | (refine iS_get ?_; omega) | assumption | rfl | fail) | (apply And.intro; (first | rfl | assumption | exact Nat.le_of_ble_eq_true rfl | omega | (simp <;> fail) | (simp <;> omega) | (focus (repeat' (first | exact one_u8s _ | exact one_iS _ _ | rfl | apply one_take | apply one_drop | apply one_append)); done) | fail)) | fail)) <;> (try (conv => whnf))
      refine Then.mk ?_
      (repeat' ((conv => whnf); first | left | refine OpsA.cons ?_ | refine OpsA.nil ?_ | refine AWq.seq ?_ | refine AWq.region ?_ | refine AWq.cond ?_ | refine AWq.block ?_ | refine AWq.skip ?_ | refine AWq.ret ?_ | refine AWq.exit ?_ | refine AWq.loop ?_ | refine AWq.rangeFunc ?_ | refine DrawA.consD ?_ | refine DrawA.nil ?_ | refine AWq.draw (by decide +kernel) ?_ | (refine ACall.to (b1 _) ?_) | (apply Exists.intro; apply And.intro; exact b1 _) | (apply Exists.intro; apply Exists.intro; apply And.intro; exact b1 _) | (refine Both.mk ?_ ?_ <;> intro hc <;> (first | exact Bool.noConfusion hc | exact absurd (by with_reducible rfl) hc | exact (hc : False).elim | exact absurd (by assumption) hc | exact absurd hc (by assumption) | (exfalso; omega) | exact absurd hc (by decide) | skip)) | (intro c hc; (try (simp only [AH.none_iff] at hc; repeat (have hn := hc.1; replace hc := hc.2))); (first | (refine i64_k hc ?_ ?_ ?_ ; omega; omega; (clear hc; intro hc; subst hc)) | (refine u64_k hc ?_ ?_ ?_ ; omega; omega; (clear hc; intro hc; subst hc)) | (refine u8_k hc ?_ ?_ ?_ ; omega; omega; (clear hc; intro hc; subst hc)) | subst hc | skip)) | (apply Exists.intro; apply And.intro; (focus (repeat (first | assumption | exact AH.set_same _ _ _ | ((first | refine AH.get_ne ?_ ?_ | refine AH.getd_ne ?_ ?_); (first | assumption | omega | exact Ne.symm (by assumption) | exact AH.ne_none (by assumption) (by assumption) | exact AH.none_ne (by assumption) (by assumption) | exact (AH.none_set (by assumption)).1 | exact Ne.symm (AH.none_set (by assumption)).1)))); done)) | (apply Exists.intro; apply And.intro; (try simp only [List.getElem?_drop, Nat.mul_one, Nat.add_zero, Nat.zero_add]); first | (refine u8s_get ?_; omega) | (refine iS_get ?_; omega) | assumption | rfl | fail) | (apply And.intro; (first | rfl | assumption | exact Nat.le_of_ble_eq_true rfl | omega | (simp <;> fail) | (simp <;> omega) | (focus (repeat' (first | exact one_u8s _ | exact one_iS _ _ | rfl | apply one_take | apply one_drop | apply one_append)); done) | fail)) | fail)) <;> (try (conv => whnf))
      refine Then.mk ?_
      (repeat' ((conv => whnf); first | left | refine OpsA.cons ?_ | refine OpsA.nil ?_ | refine AWq.seq ?_ | refine AWq.region ?_ | refine AWq.cond ?_ | refine AWq.block ?_ | refine AWq.skip ?_ | refine AWq.ret ?_ | refine AWq.exit ?_ | refine AWq.loop ?_ | refine AWq.rangeFunc ?_ | refine DrawA.consD ?_ | refine DrawA.nil ?_ | refine AWq.draw (by decide +kernel) ?_ | (refine ACall.to (b2' _) ?_) | (apply Exists.intro; apply And.intro; exact b2' _) | (apply Exists.intro; apply Exists.intro; apply And.intro; exact b2' _) | (refine Both.mk ?_ ?_ <;> intro hc <;> (first | exact Bool.noConfusion hc | exact absurd (by with_reducible rfl) hc | exact (hc : False).elim | exact absurd (by assumption) hc | exact absurd hc (by assumption) | (exfalso; omega) | exact absurd hc (by decide) | skip)) | (intro c hc; (try (simp only [AH.none_iff] at hc; repeat (have hn := hc.1; replace hc := hc.2))); (first | (refine i64_k hc ?_ ?_ ?_ ; omega; omega; (clear hc; intro hc; subst hc)) | (refine u64_k hc ?_ ?_ ?_ ; omega; omega; (clear hc; intro hc; subst hc)) | (refine u8_k hc ?_ ?_ ?_ ; omega; omega; (clear hc; intro hc; subst hc)) | subst hc | skip)) | (apply Exists.intro; apply And.intro; (focus (repeat (first | assumption | exact AH.set_same _ _ _ | ((first | refine AH.get_ne ?_ ?_ | refine AH.getd_ne ?_ ?_); (first | assumption | omega | exact Ne.symm (by assumption) | exact AH.ne_none (by assumption) (by assumption) | exact AH.none_ne (by assumption) (by assumption) | exact (AH.none_set (by assumption)).1 | exact Ne.symm (AH.none_set (by assumption)).1)))); done)) | (apply Exists.intro; apply And.intro; (try simp only [List.getElem?_drop, Nat.mul_one, Nat.add_zero, Nat.zero_add]); first | (refine u8s_get ?_; omega) | (refine iS_get ?_; omega) | assumption | rfl | fail) | (apply And.intro; (first | rfl | assumption | exact Nat.le_of_ble_eq_true rfl | omega | (simp <;> fail) | (simp <;> omega) | (focus (repeat' (first | exact one_u8s _ | exact one_iS _ _ | rfl | apply one_take | apply one_drop | apply one_append)); done) | fail)) | fail)) <;> (try (conv => whnf))
      refine Then.mk ?_
      (repeat' ((conv => whnf); first | left | refine OpsA.cons ?_ | refine OpsA.nil ?_ | refine AWq.seq ?_ | refine AWq.region ?_ | refine AWq.cond ?_ | refine AWq.block ?_ | refine AWq.skip ?_ | refine AWq.ret ?_ | refine AWq.exit ?_ | refine AWq.loop ?_ | refine AWq.rangeFunc ?_ | refine DrawA.consD ?_ | refine DrawA.nil ?_ | refine AWq.draw (by decide +kernel) ?_ | (refine ACall.to (sd _) ?_) | (apply Exists.intro; apply And.intro; exact sd _) | (apply Exists.intro; apply Exists.intro; apply And.intro; exact sd _) | (refine Both.mk ?_ ?_ <;> intro hc <;> (first | exact Bool.noConfusion hc | exact absurd (by with_reducible rfl) hc | exact (hc : False).elim | exact absurd (by assumption) hc | exact absurd hc (by assumption) | (exfalso; omega) | exact absurd hc (by decide) | skip)) | (intro c hc; (try (simp only [AH.none_iff] at hc; repeat (have hn := hc.1; replace hc := hc.2))); (first | (refine i64_k hc ?_ ?_ ?_ ; omega; omega; (clear hc; intro hc; subst hc)) | (refine u64_k hc ?_ ?_ ?_ ; omega; omega; (clear hc; intro hc; subst hc)) | (refine u8_k hc ?_ ?_ ?_ ; omega; omega; (clear hc; intro hc; subst hc)) | subst hc | skip)) | (apply Exists.intro; apply And.intro; (focus (repeat (first | assumption | exact AH.set_same _ _ _ | ((first | refine AH.get_ne ?_ ?_ | refine AH.getd_ne ?_ ?_); (first | assumption | omega | exact Ne.symm (by assumption) | exact AH.ne_none (by assumption) (by assumption) | exact AH.none_ne (by assumption) (by assumption) | exact (AH.none_set (by assumption)).1 | exact Ne.symm (AH.none_set (by assumption)).1)))); done)) | (apply Exists.intro; apply And.intro; (try simp only [List.getElem?_drop, Nat.mul_one, Nat.add_zero, Nat.zero_add]); first | (refine u8s_get ?_; omega) | (refine iS_get ?_; omega) | assumption | rfl | fail) | (apply And.intro; (first | rfl | assumption | exact Nat.le_of_ble_eq_true rfl | omega | (simp <;> fail) | (simp <;> omega) | (focus (repeat' (first | exact one_u8s _ | exact one_iS _ _ | rfl | apply one_take | apply one_drop | apply one_append)); done) | fail)) | fail)) <;> (try (conv => whnf))
    all_goals
      refine Then.mk ?_
      (repeat' ((conv => whnf); first | left | refine OpsA.cons ?_ | refine OpsA.nil ?_ | refine AWq.seq ?_ | refine AWq.region ?_ | refine AWq.cond ?_ | refine AWq.block ?_ | refine AWq.skip ?_ | refine AWq.ret ?_ | refine AWq.exit ?_ | refine AWq.loop ?_ | refine AWq.rangeFunc ?_ | refine DrawA.consD ?_ | refine DrawA.nil ?_ | refine AWq.draw (by decide +kernel) ?_ | (refine Both.mk ?_ ?_ <;> intro hc <;> (first | exact Bool.noConfusion hc | exact absurd (by with_reducible rfl) hc | exact (hc : False).elim | exact absurd (by assumption) hc | exact absurd hc (by assumption) | (exfalso; omega) | exact absurd hc (by decide) | skip)) | (intro c hc; (try (simp only [AH.none_iff] at hc; repeat (have hn := hc.1; replace hc := hc.2))); (first | (refine i64_k hc ?_ ?_ ?_ ; omega; omega; (clear hc; intro hc; subst hc)) | (refine u64_k hc ?_ ?_ ?_ ; omega; omega; (clear hc; intro hc; subst hc)) | (refine u8_k hc ?_ ?_ ?_ ; omega; omega; (clear hc; intro hc; subst hc)) | subst hc | skip)) | (apply Exists.intro; apply And.intro; (focus (repeat (first | assumption | exact AH.set_same _ _ _ | ((first | refine AH.get_ne ?_ ?_ | refine AH.getd_ne ?_ ?_); (first | assumption | omega | exact Ne.symm (by assumption) | exact AH.ne_none (by assumption) (by assumption) | exact AH.none_ne (by assumption) (by assumption) | exact (AH.none_set (by assumption)).1 | exact Ne.symm (AH.none_set (by assumption)).1)))); done)) | (apply Exists.intro; apply And.intro; (try simp only [List.getElem?_drop, Nat.mul_one, Nat.add_zero, Nat.zero_add]); first | (refine u8s_get ?_; omega) | (refine iS_get ?_; omega) | assumption | rfl | fail) | (apply And.intro; (first | rfl | assumption | exact Nat.le_of_ble_eq_true rfl | omega | (simp <;> fail) | (simp <;> omega) | (focus (repeat' (first | exact one_u8s _ | exact one_iS _ _ | rfl | apply one_take | apply one_drop | apply one_append)); done) | fail)) | fail)) <;> (try (conv => whnf))
    all_goals
      refine Then.mk (AWq.in ?_)
      refine AWp_cut [(0, .int .i64 x0), (1, .cs (iS .i64 l1) l1.length), (2, .int .i64 x2), (7, .int .i64 S)] ⟨rfl, rfl, rfl, rfl, trivial⟩ (fun _ => rfl) (HLe.refl _) ?_
      exact tail.out
  case tl =>
  refine AWp.of tt_ok (dok _) rfl ?_
  (repeat' ((conv => whnf); first | left | refine OpsA.cons ?_ | refine OpsA.nil ?_ | refine AWq.seq ?_ | refine AWq.region ?_ | refine AWq.cond ?_ | refine AWq.block ?_ | refine AWq.skip ?_ | refine AWq.ret ?_ | refine AWq.exit ?_ | refine AWq.loop ?_ | refine AWq.rangeFunc ?_ | refine DrawA.consD ?_ | refine DrawA.nil ?_ | refine AWq.draw (by decide +kernel) ?_ | (refine Both.mk ?_ ?_ <;> intro hc <;> (first | exact Bool.noConfusion hc | exact absurd (by with_reducible rfl) hc | exact (hc : False).elim | exact absurd (by assumption) hc | exact absurd hc (by assumption) | (exfalso; omega) | exact absurd hc (by decide) | skip)) | (intro c hc; (try (simp only [AH.none_iff] at hc; repeat (have hn := hc.1; replace hc := hc.2))); (first | (refine i64_k hc ?_ ?_ ?_ ; omega; omega; (clear hc; intro hc; subst hc)) | (refine u64_k hc ?_ ?_ ?_ ; omega; omega; (clear hc; intro hc; subst hc)) | (refine u8_k hc ?_ ?_ ?_ ; omega; omega; (clear hc; intro hc; subst hc)) | subst hc | skip)) | (apply Exists.intro; apply And.intro; (focus (repeat (first | assumption | exact AH.set_same _ _ _ | ((first | refine AH.get_ne ?_ ?_ | refine AH.getd_ne ?_ ?_); (first | assumption | omega | exact Ne.symm (by assumption) | exact AH.ne_none (by assumption) (by assumption) | exact AH.none_ne (by assumption) (by assumption) | exact (AH.none_set (by assumption)).1 | exact Ne.symm (AH.none_set (by assumption)).1)))); done)) | (apply Exists.intro; apply And.intro; (try simp only [List.getElem?_drop, Nat.mul_one, Nat.add_zero, Nat.zero_add]); first | (refine u8s_get ?_; omega) | (refine iS_get ?_; omega) | assumption | rfl | fail) | (apply And.intro; (first | rfl | assumption | exact Nat.le_of_ble_eq_true rfl | omega | (simp <;> fail) | (simp <;> omega) | (focus (repeat' (first | exact one_u8s _ | exact one_iS _ _ | rfl | apply one_take | apply one_drop | apply one_append)); done) | fail)) | fail)) <;> (try (conv => whnf))
  refine Then.mk (AWq.in ?_)
  refine AWp_cut [(0, .int .i64 x0), (1, .cs (iS .i64 l1) l1.length), (2, .int .i64 x2), (7, .int .i64 S), (12, .int .i64 v)] ⟨rfl, rfl, rfl, rfl, congrArg (AV.int .i64) hT.symm, trivial⟩ (fun _ => rfl) (HLe.refl _) ?_
  refine AWp.of tt_ok (dok _) rfl ?_
  clear hT
  (repeat' ((conv => whnf); first | refine Then.mk ?_ | left | refine OpsA.cons ?_ | refine OpsA.nil ?_ | refine AWq.seq ?_ | refine AWq.region ?_ | refine AWq.cond ?_ | refine AWq.block ?_ | refine AWq.skip ?_ | refine AWq.ret ?_ | refine AWq.exit ?_ | refine AWq.loop ?_ | refine AWq.rangeFunc ?_ | refine DrawA.consD ?_ | refine DrawA.nil ?_ | refine AWq.draw (by decide +kernel) ?_ | (refine ACall.to (b3 _) ?_) | (refine ACall.to (q1 _) ?_) | (refine ACall.to (f1 _) ?_) | (apply Exists.intro; apply And.intro; exact b3 _) | (apply Exists.intro; apply And.intro; exact q1 _) | (apply Exists.intro; apply And.intro; exact f1 _) | (apply Exists.intro; apply Exists.intro; apply And.intro; exact b3 _) | (apply Exists.intro; apply Exists.intro; apply And.intro; exact q1 _) | (apply Exists.intro; apply Exists.intro; apply And.intro; exact f1 _) | (refine Both.mk ?_ ?_ <;> intro hc <;> (first | exact Bool.noConfusion hc | exact absurd (by with_reducible rfl) hc | exact (hc : False).elim | exact absurd (by assumption) hc | exact absurd hc (by assumption) | (exfalso; omega) | exact absurd hc (by decide) | skip)) | (intro c hc; (try (simp only [AH.none_iff] at hc; repeat (have hn := hc.1; replace hc := hc.2))); (first | (refine i64_k hc ?_ ?_ ?_ ; omega; omega; (clear hc; intro hc; subst hc)) | (refine u64_k hc ?_ ?_ ?_ ; omega; omega; (clear hc; intro hc; subst hc)) | (refine u8_k hc ?_ ?_ ?_ ; omega; omega; (clear hc; intro hc; subst hc)) | subst hc | skip)) | (apply Exists.intro; apply And.intro; (focus (repeat (first | assumption | exact AH.set_same _ _ _ | ((first | refine AH.get_ne ?_ ?_ | refine AH.getd_ne ?_ ?_); (first | assumption | omega | exact Ne.symm (by assumption) | exact AH.ne_none (by assumption) (by assumption) | exact AH.none_ne (by assumption) (by assumption) | exact (AH.none_set (by assumption)).1 | exact Ne.symm (AH.none_set (by assumption)).1)))); done)) | (apply Exists.intro; apply And.intro; (try simp only [List.getElem?_drop, Nat.mul_one, Nat.add_zero, Nat.zero_add]); first | (refine u8s_get ?_; omega) | (refine iS_get ?_; omega) | assumption | rfl | fail) | (apply And.intro; (first | rfl | assumption | exact Nat.le_of_ble_eq_true rfl | omega | (simp <;> fail) | (simp <;> omega) | (focus (repeat' (first | exact one_u8s _ | exact one_iS _ _ | rfl | apply one_take | apply one_drop | apply one_append)); done) | fail)) | fail)) <;> (try (conv => whnf))
  refine AWp_loop (σ := Nat) (6 :: 18 :: 108 :: 109 :: 110 :: 111 :: 112 :: 113 :: 114 :: 115 :: 116 :: 117 :: 118 :: 119 :: 120 :: 121 :: 122 :: 123 :: 124 :: 125 :: 126 :: 127 :: 128 :: []) (fun i => [(18, .int .i64 i)]) (fun _ => H0) (fun i => i ≤ X.length) (fun i => X.length - i) 0 rfl ?_ ?_ ?_ ?_
  · exact Nat.zero_le _
  · exact ⟨rfl, trivial⟩
  · exact HLe.refl _
  · rintro i hi
    refine AWp.of tt_ok (dok _) rfl ?_
    by_cases hil : i < X.length
    · have hx := inB_getD hb0.1 iX i
      have hx2 : -b ≤ X.getD (i : Int).toNat 0 ∧ X.getD (i : Int).toNat 0 ≤ b := hx
      (repeat' ((conv => whnf); first | refine Then.mk ?_ | left | refine OpsA.cons ?_ | refine OpsA.nil ?_ | refine AWq.seq ?_ | refine AWq.region ?_ | refine AWq.cond ?_ | refine AWq.block ?_ | refine AWq.skip ?_ | refine AWq.ret ?_ | refine AWq.exit ?_ | refine AWq.loop ?_ | refine AWq.rangeFunc ?_ | refine DrawA.consD ?_ | refine DrawA.nil ?_ | refine AWq.draw (by decide +kernel) ?_ | (refine Both.mk ?_ ?_ <;> intro hc <;> (first | exact Bool.noConfusion hc | exact absurd (by with_reducible rfl) hc | exact (hc : False).elim | exact absurd (by assumption) hc | exact absurd hc (by assumption) | (exfalso; omega) | exact absurd hc (by decide) | skip)) | (intro c hc; (try (simp only [AH.none_iff] at hc; repeat (have hn := hc.1; replace hc := hc.2))); (first | (refine i64_k hc ?_ ?_ ?_ ; omega; omega; (clear hc; intro hc; subst hc)) | (refine u64_k hc ?_ ?_ ?_ ; omega; omega; (clear hc; intro hc; subst hc)) | (refine u8_k hc ?_ ?_ ?_ ; omega; omega; (clear hc; intro hc; subst hc)) | subst hc | skip)) | (apply Exists.intro; apply And.intro; (focus (repeat (first | assumption | exact AH.set_same _ _ _ | ((first | refine AH.get_ne ?_ ?_ | refine AH.getd_ne ?_ ?_); (first | assumption | omega | exact Ne.symm (by assumption) | exact AH.ne_none (by assumption) (by assumption) | exact AH.none_ne (by assumption) (by assumption) | exact (AH.none_set (by assumption)).1 | exact Ne.symm (AH.none_set (by assumption)).1)))); done)) | (apply Exists.intro; apply And.intro; (try simp only [List.getElem?_drop, Nat.mul_one, Nat.add_zero, Nat.zero_add]); first | (refine u8s_get ?_; omega) | (refine iS_get ?_; omega) | assumption | rfl | fail) | (apply And.intro; (first | rfl | assumption | exact Nat.le_of_ble_eq_true rfl | omega | (simp <;> fail) | (simp <;> omega) | (focus (repeat' (first | exact one_u8s _ | exact one_iS _ _ | rfl | apply one_take | apply one_drop | apply one_append)); done) | fail)) | fail)) <;> (try (conv => whnf))
      exact ⟨i + 1, by omega, by omega, ⟨congrArg (AV.int .i64) (by omega), trivial⟩, HLe.refl _⟩
    · (repeat' ((conv => whnf); first | refine Then.mk ?_ | left | refine OpsA.cons ?_ | refine OpsA.nil ?_ | refine AWq.seq ?_ | refine AWq.region ?_ | refine AWq.cond ?_ | refine AWq.block ?_ | refine AWq.skip ?_ | refine AWq.ret ?_ | refine AWq.exit ?_ | refine AWq.loop ?_ | refine AWq.rangeFunc ?_ | refine DrawA.consD ?_ | refine DrawA.nil ?_ | refine AWq.draw (by decide +kernel) ?_ | (refine Both.mk ?_ ?_ <;> intro hc <;> (first | exact Bool.noConfusion hc | exact absurd (by with_reducible rfl) hc | exact (hc : False).elim | exact absurd (by assumption) hc | exact absurd hc (by assumption) | (exfalso; omega) | exact absurd hc (by decide) | skip)) | (intro c hc; (try (simp only [AH.none_iff] at hc; repeat (have hn := hc.1; replace hc := hc.2))); (first | (refine i64_k hc ?_ ?_ ?_ ; omega; omega; (clear hc; intro hc; subst hc)) | (refine u64_k hc ?_ ?_ ?_ ; omega; omega; (clear hc; intro hc; subst hc)) | (refine u8_k hc ?_ ?_ ?_ ; omega; omega; (clear hc; intro hc; subst hc)) | subst hc | skip)) | (apply Exists.intro; apply And.intro; (focus (repeat (first | assumption | exact AH.set_same _ _ _ | ((first | refine AH.get_ne ?_ ?_ | refine AH.getd_ne ?_ ?_); (first | assumption | omega | exact Ne.symm (by assumption) | exact AH.ne_none (by assumption) (by assumption) | exact AH.none_ne (by assumption) (by assumption) | exact (AH.none_set (by assumption)).1 | exact Ne.symm (AH.none_set (by assumption)).1)))); done)) | (apply Exists.intro; apply And.intro; (try simp only [List.getElem?_drop, Nat.mul_one, Nat.add_zero, Nat.zero_add]); first | (refine u8s_get ?_; omega) | (refine iS_get ?_; omega) | assumption | rfl | fail) | (apply And.intro; (first | rfl | assumption | exact Nat.le_of_ble_eq_true rfl | omega | (simp <;> fail) | (simp <;> omega) | (focus (repeat' (first | exact one_u8s _ | exact one_iS _ _ | rfl | apply one_take | apply one_drop | apply one_append)); done) | fail)) | fail)) <;> (try (conv => whnf))
      refine AWp_nilrow1 19 1 rfl rfl fun r1 hr1 => ?_
      refine AWp_nilrow1 20 1 rfl rfl fun r2 hr2 => ?_
      have hne : r2 ≠ r1 := (AH.none_set hr2).1
      have hr2 := (AH.none_set hr2).2
      refine AWp_loop (σ := Nat × Nat × Nat) (19 :: 20 :: 21 :: 22 :: 129 :: 130 :: 131 :: 132 :: 133 :: 134 :: 135 :: 136 :: 137 :: 138 :: 139 :: 140 :: 141 :: 142 :: 143 :: 144 :: 145 :: 146 :: 147 :: 148 :: 149 :: 150 :: 151 :: 152 :: 153 :: 154 :: 155 :: []) (fun (i, v1, v2) => [(21, .int .i64 i), (19, .sl r1 v1 1 0 i none), (20, .sl r2 v2 1 0 i none)]) (fun (i, v1, v2) => (AH.set H0 r1 (.row (iL i (fun _ => v)) v1)).set r2 (.row (iL i (fun p => sgn (p / S) (p % S) * v)) v2)) (fun (i, v1, v2) => i ≤ S * S) (fun (i, v1, v2) => S * S - i) (0, 0, 0) rfl ?_ ?_ ?_ ?_
      · exact Nat.zero_le _
      · exact ⟨rfl, rfl, rfl, trivial⟩
      · exact HLe.refl _
      · rintro ⟨i, v1, v2⟩ hi
        dsimp only at hi ⊢
        refine AWp.of tt_ok (dok _) rfl ?_
        have l1' := iL_len i (fun _ => v)
        have l2' := iL_len i (fun p => sgn (p / S) (p % S) * v)
        by_cases hil : i < S * S
        · obtain ⟨d, m, t1, t2, t3, t4, t5, t6⟩ := fin i hil
          have t7 : ((i : Int).tdiv S + (i : Int).tmod S).tmod 2 = (((d + m) % 2 : Nat) : Int) := by rw [t1, t2, t5]
          have t8 : -4999 ≤ (1 - 2 * ((i : Int).tdiv S + (i : Int).tmod S).tmod 2) * v ∧ (1 - 2 * ((i : Int).tdiv S + (i : Int).tmod S).tmod 2) * v ≤ 4999 := by
            rw [t7]
            rcases (show (d + m) % 2 = 0 ∨ (d + m) % 2 = 1 by omega) with h | h <;> rw [h] <;> omega
          have t9 : (1 - 2 * ((i : Int).tdiv S + (i : Int).tmod S).tmod 2) * v = sgn (i / S) (i % S) * v := by rw [t6, t7]
          have hs0 : (S : Int) ≠ 0 := by omega
          (repeat' ((conv => whnf); first | refine Then.mk ?_ | left | refine OpsA.cons ?_ | refine OpsA.nil ?_ | refine AWq.seq ?_ | refine AWq.region ?_ | refine AWq.cond ?_ | refine AWq.block ?_ | refine AWq.skip ?_ | refine AWq.ret ?_ | refine AWq.exit ?_ | refine AWq.loop ?_ | refine AWq.rangeFunc ?_ | refine DrawA.consD ?_ | refine DrawA.nil ?_ | refine AWq.draw (by decide +kernel) ?_ | (refine Both.mk ?_ ?_ <;> intro hc <;> (first | exact Bool.noConfusion hc | exact absurd (by with_reducible rfl) hc | exact (hc : False).elim | exact absurd (by assumption) hc | exact absurd hc (by assumption) | (exfalso; omega) | exact absurd hc (by decide) | skip)) | (intro c hc; (try (simp only [AH.none_iff] at hc; repeat (have hn := hc.1; replace hc := hc.2))); (first | (refine i64_k hc ?_ ?_ ?_ ; omega; omega; (clear hc; intro hc; subst hc)) | (refine u64_k hc ?_ ?_ ?_ ; omega; omega; (clear hc; intro hc; subst hc)) | (refine u8_k hc ?_ ?_ ?_ ; omega; omega; (clear hc; intro hc; subst hc)) | subst hc | skip)) | (apply Exists.intro; apply And.intro; (focus (repeat (first | assumption | exact AH.set_same _ _ _ | ((first | refine AH.get_ne ?_ ?_ | refine AH.getd_ne ?_ ?_); (first | assumption | omega | exact Ne.symm (by assumption) | exact AH.ne_none (by assumption) (by assumption) | exact AH.none_ne (by assumption) (by assumption) | exact (AH.none_set (by assumption)).1 | exact Ne.symm (AH.none_set (by assumption)).1)))); done)) | (apply Exists.intro; apply And.intro; (try simp only [List.getElem?_drop, Nat.mul_one, Nat.add_zero, Nat.zero_add]); first | (refine u8s_get ?_; omega) | (refine iS_get ?_; omega) | assumption | rfl | fail) | (apply And.intro; (first | rfl | assumption | exact Nat.le_of_ble_eq_true rfl | omega | (simp <;> fail) | (simp <;> omega) | (focus (repeat' (first | exact one_u8s _ | exact one_iS _ _ | rfl | apply one_take | apply one_drop | apply one_append)); done) | fail)) | fail)) <;> (try (conv => whnf))
          refine ⟨(i + 1, v1 + 1, v2 + 1), by show i + 1 ≤ S * S; omega, by show S * S - (i + 1) < S * S - i; omega, ⟨congrArg (AV.int .i64) (by omega), rfl, rfl, trivial⟩, HLe.of_eq ?_⟩
          show (AH.set H0 r1 (.row (iL (i + 1) (fun _ => v)) (v1 + 1))).set r2 (.row (iL (i + 1) (fun p => sgn (p / S) (p % S) * v)) (v2 + 1)) = _
          rw [← iL_snoc, ← iL_snoc, ← t9]
          ((funext s; simp only [AH.set, AH.del]; repeat' split) <;> (first | rfl | (exfalso; omega)))
        · have hie : i = S * S := by omega
          have e19 : iL i (fun _ => v) = iS .i64 E := by rw [hE, hie]; rfl
          have e20 : iL i (fun p => sgn (p / S) (p % S) * v) = iS .i64 Z := by rw [hZ, hie]; rfl
          rw [e19, e20]
          (repeat' ((conv => whnf); first | left | refine OpsA.cons ?_ | refine OpsA.nil ?_ | refine AWq.seq ?_ | refine AWq.region ?_ | refine AWq.cond ?_ | refine AWq.block ?_ | refine AWq.skip ?_ | refine AWq.ret ?_ | refine AWq.exit ?_ | refine AWq.loop ?_ | refine AWq.rangeFunc ?_ | refine DrawA.consD ?_ | refine DrawA.nil ?_ | refine AWq.draw (by decide +kernel) ?_ | (refine Both.mk ?_ ?_ <;> intro hc <;> (first | exact Bool.noConfusion hc | exact absurd (by with_reducible rfl) hc | exact (hc : False).elim | exact absurd (by assumption) hc | exact absurd hc (by assumption) | (exfalso; omega) | exact absurd hc (by decide) | skip)) | (intro c hc; (try (simp only [AH.none_iff] at hc; repeat (have hn := hc.1; replace hc := hc.2))); (first | (refine i64_k hc ?_ ?_ ?_ ; omega; omega; (clear hc; intro hc; subst hc)) | (refine u64_k hc ?_ ?_ ?_ ; omega; omega; (clear hc; intro hc; subst hc)) | (refine u8_k hc ?_ ?_ ?_ ; omega; omega; (clear hc; intro hc; subst hc)) | subst hc | skip)) | (apply Exists.intro; apply And.intro; (focus (repeat (first | assumption | exact AH.set_same _ _ _ | ((first | refine AH.get_ne ?_ ?_ | refine AH.getd_ne ?_ ?_); (first | assumption | omega | exact Ne.symm (by assumption) | exact AH.ne_none (by assumption) (by assumption) | exact AH.none_ne (by assumption) (by assumption) | exact (AH.none_set (by assumption)).1 | exact Ne.symm (AH.none_set (by assumption)).1)))); done)) | (apply Exists.intro; apply And.intro; (try simp only [List.getElem?_drop, Nat.mul_one, Nat.add_zero, Nat.zero_add]); first | (refine u8s_get ?_; omega) | (refine iS_get ?_; omega) | assumption | rfl | fail) | (apply And.intro; (first | rfl | assumption | exact Nat.le_of_ble_eq_true rfl | omega | (simp <;> fail) | (simp <;> omega) | (focus (repeat' (first | exact one_u8s _ | exact one_iS _ _ | rfl | apply one_take | apply one_drop | apply one_append)); done) | fail)) | fail)) <;> (try (conv => whnf))
          refine Then.mk ?_
          (repeat' ((conv => whnf); first | left | refine OpsA.cons ?_ | refine OpsA.nil ?_ | refine AWq.seq ?_ | refine AWq.region ?_ | refine AWq.cond ?_ | refine AWq.block ?_ | refine AWq.skip ?_ | refine AWq.ret ?_ | refine AWq.exit ?_ | refine AWq.loop ?_ | refine AWq.rangeFunc ?_ | refine DrawA.consD ?_ | refine DrawA.nil ?_ | refine AWq.draw (by decide +kernel) ?_ | (refine Both.mk ?_ ?_ <;> intro hc <;> (first | exact Bool.noConfusion hc | exact absurd (by with_reducible rfl) hc | exact (hc : False).elim | exact absurd (by assumption) hc | exact absurd hc (by assumption) | (exfalso; omega) | exact absurd hc (by decide) | skip)) | (intro c hc; (try (simp only [AH.none_iff] at hc; repeat (have hn := hc.1; replace hc := hc.2))); (first | (refine i64_k hc ?_ ?_ ?_ ; omega; omega; (clear hc; intro hc; subst hc)) | (refine u64_k hc ?_ ?_ ?_ ; omega; omega; (clear hc; intro hc; subst hc)) | (refine u8_k hc ?_ ?_ ?_ ; omega; omega; (clear hc; intro hc; subst hc)) | subst hc | skip)) | (apply Exists.intro; apply And.intro; (focus (repeat (first | assumption | exact AH.set_same _ _ _ | ((first | refine AH.get_ne ?_ ?_ | refine AH.getd_ne ?_ ?_); (first | assumption | omega | exact Ne.symm (by assumption) | exact AH.ne_none (by assumption) (by assumption) | exact AH.none_ne (by assumption) (by assumption) | exact (AH.none_set (by assumption)).1 | exact Ne.symm (AH.none_set (by assumption)).1)))); done)) | (apply Exists.intro; apply And.intro; (try simp only [List.getElem?_drop, Nat.mul_one, Nat.add_zero, Nat.zero_add]); first | (refine u8s_get ?_; omega) | (refine iS_get ?_; omega) | assumption | rfl | fail) | (apply And.intro; (first | rfl | assumption | exact Nat.le_of_ble_eq_true rfl | omega | (simp <;> fail) | (simp <;> omega) | (focus (repeat' (first | exact one_u8s _ | exact one_iS _ _ | rfl | apply one_take | apply one_drop | apply one_append)); done) | fail)) | fail)) <;> (try (conv => whnf))
          refine Then.mk (AWq.in ?_)
          refine AWp_freeze1 (es := 1) (n := i) (lim := none) (cells := iS .i64 E) 19 rfl rfl (by (focus (repeat (first | assumption | exact AH.set_same _ _ _ | ((first | refine AH.get_ne ?_ ?_ | refine AH.getd_ne ?_ ?_); (first | assumption | omega | exact Ne.symm (by assumption) | exact AH.ne_none (by assumption) (by assumption) | exact AH.none_ne (by assumption) (by assumption) | exact (AH.none_set (by assumption)).1 | exact Ne.symm (AH.none_set (by assumption)).1)))); done)) (by rw [iS_length, lE]; omega) ?_
          refine AWp_freeze1 (es := 1) (n := i) (lim := none) (cells := iS .i64 Z) 20 rfl rfl (by (focus (repeat (first | assumption | exact AH.set_same _ _ _ | ((first | refine AH.get_ne ?_ ?_ | refine AH.getd_ne ?_ ?_); (first | assumption | omega | exact Ne.symm (by assumption) | exact AH.ne_none (by assumption) (by assumption) | exact AH.none_ne (by assumption) (by assumption) | exact (AH.none_set (by assumption)).1 | exact Ne.symm (AH.none_set (by assumption)).1)))); done)) (by rw [iS_length, lZ]; omega) ?_
          refine AWp_less H0 (HLe.del _ (HLe.del _ (HLe.set_of _ _ (HLe.set_of _ _ (HLe.refl _) hr1) hr2) hr1) hr2) ?_
          refine AWp.of tt_ok (dok _) rfl ?_
          rw [lE, ← hie] at f2
          rw [lZ, ← hie] at f3
          have y0 := hYv 0 h11
          rw [if_pos rfl] at y0
          have y0' : Y.getD (0 : Int).toNat 0 = v := y0
          (repeat' ((conv => whnf); first | refine Then.mk ?_ | left | refine OpsA.cons ?_ | refine OpsA.nil ?_ | refine AWq.seq ?_ | refine AWq.region ?_ | refine AWq.cond ?_ | refine AWq.block ?_ | refine AWq.skip ?_ | refine AWq.ret ?_ | refine AWq.exit ?_ | refine AWq.loop ?_ | refine AWq.rangeFunc ?_ | refine DrawA.consD ?_ | refine DrawA.nil ?_ | refine AWq.draw (by decide +kernel) ?_ | (refine ACall.to (f2 _) ?_) | (refine ACall.to (f3 _) ?_) | (apply Exists.intro; apply And.intro; exact f2 _) | (apply Exists.intro; apply And.intro; exact f3 _) | (apply Exists.intro; apply Exists.intro; apply And.intro; exact f2 _) | (apply Exists.intro; apply Exists.intro; apply And.intro; exact f3 _) | (refine Both.mk ?_ ?_ <;> intro hc <;> (first | exact Bool.noConfusion hc | exact absurd (by with_reducible rfl) hc | exact (hc : False).elim | exact absurd (by assumption) hc | exact absurd hc (by assumption) | (exfalso; omega) | exact absurd hc (by decide) | skip)) | (intro c hc; (try (simp only [AH.none_iff] at hc; repeat (have hn := hc.1; replace hc := hc.2))); (first | (refine i64_k hc ?_ ?_ ?_ ; omega; omega; (clear hc; intro hc; subst hc)) | (refine u64_k hc ?_ ?_ ?_ ; omega; omega; (clear hc; intro hc; subst hc)) | (refine u8_k hc ?_ ?_ ?_ ; omega; omega; (clear hc; intro hc; subst hc)) | subst hc | skip)) | (apply Exists.intro; apply And.intro; (focus (repeat (first | assumption | exact AH.set_same _ _ _ | ((first | refine AH.get_ne ?_ ?_ | refine AH.getd_ne ?_ ?_); (first | assumption | omega | exact Ne.symm (by assumption) | exact AH.ne_none (by assumption) (by assumption) | exact AH.none_ne (by assumption) (by assumption) | exact (AH.none_set (by assumption)).1 | exact Ne.symm (AH.none_set (by assumption)).1)))); done)) | (apply Exists.intro; apply And.intro; (try simp only [List.getElem?_drop, Nat.mul_one, Nat.add_zero, Nat.zero_add]); first | (refine u8s_get ?_; omega) | (refine iS_get ?_; omega) | assumption | rfl | fail) | (apply And.intro; (first | rfl | assumption | exact Nat.le_of_ble_eq_true rfl | omega | (simp <;> fail) | (simp <;> omega) | (focus (repeat' (first | exact one_u8s _ | exact one_iS _ _ | rfl | apply one_take | apply one_drop | apply one_append)); done) | fail)) | fail)) <;> (try (conv => whnf))
          refine AWp_loop (σ := Nat × Bool) (6 :: 27 :: 28 :: 197 :: 198 :: 199 :: 200 :: 201 :: 202 :: 203 :: 204 :: 205 :: 206 :: 207 :: 208 :: 209 :: 210 :: 211 :: 212 :: 213 :: 214 :: 215 :: 216 :: 217 :: 218 :: 219 :: 220 :: 221 :: 222 :: 223 :: 224 :: 225 :: 226 :: 227 :: 228 :: 229 :: 230 :: []) (fun (i, rb) => [(28, .int .i64 i), (27, .bool rb)]) (fun _ => H0) (fun (i, rb) => i ≤ S * S ∧ (p0 < i → rb = true)) (fun (i, rb) => S * S - i) (0, false) rfl ?_ ?_ ?_ ?_
          · exact ⟨Nat.zero_le _, fun h => absurd h (Nat.not_lt_zero _)⟩
          · exact ⟨rfl, rfl, trivial⟩
          · exact HLe.refl _
          · rintro ⟨j, rb⟩ ⟨hj, hrb⟩
            dsimp only at hj hrb ⊢
            refine AWp.of tt_ok (dok _) rfl ?_
            by_cases hjl : j < S * S
            · have yj := hYv j hjl
              have yj' : 0 < j → Y.getD (j : Int).toNat 0 = 0 := fun h => by rw [if_neg (by omega)] at yj; exact yj
              have wj : j = p0 → W.getD (j : Int).toNat 0 = b := fun h => by rw [h]; exact hWb
              cases rb with
              | true =>
                (repeat' ((conv => whnf); first | refine Then.mk ?_ | left | refine OpsA.cons ?_ | refine OpsA.nil ?_ | refine AWq.seq ?_ | refine AWq.region ?_ | refine AWq.cond ?_ | refine AWq.block ?_ | refine AWq.skip ?_ | refine AWq.ret ?_ | refine AWq.exit ?_ | refine AWq.loop ?_ | refine AWq.rangeFunc ?_ | refine DrawA.consD ?_ | refine DrawA.nil ?_ | refine AWq.draw (by decide +kernel) ?_ | (refine Both.mk ?_ ?_ <;> intro hc <;> (first | exact Bool.noConfusion hc | exact absurd (by with_reducible rfl) hc | exact (hc : False).elim | exact absurd (by assumption) hc | exact absurd hc (by assumption) | (exfalso; omega) | exact absurd hc (by decide) | skip)) | (intro c hc; (try (simp only [AH.none_iff] at hc; repeat (have hn := hc.1; replace hc := hc.2))); (first | (refine i64_k hc ?_ ?_ ?_ ; omega; omega; (clear hc; intro hc; subst hc)) | (refine u64_k hc ?_ ?_ ?_ ; omega; omega; (clear hc; intro hc; subst hc)) | (refine u8_k hc ?_ ?_ ?_ ; omega; omega; (clear hc; intro hc; subst hc)) | subst hc | skip)) | (apply Exists.intro; apply And.intro; (focus (repeat (first | assumption | exact AH.set_same _ _ _ | ((first | refine AH.get_ne ?_ ?_ | refine AH.getd_ne ?_ ?_); (first | assumption | omega | exact Ne.symm (by assumption) | exact AH.ne_none (by assumption) (by assumption) | exact AH.none_ne (by assumption) (by assumption) | exact (AH.none_set (by assumption)).1 | exact Ne.symm (AH.none_set (by assumption)).1)))); done)) | (apply Exists.intro; apply And.intro; (try simp only [List.getElem?_drop, Nat.mul_one, Nat.add_zero, Nat.zero_add]); first | (refine u8s_get ?_; omega) | (refine iS_get ?_; omega) | assumption | rfl | fail) | (apply And.intro; (first | rfl | assumption | exact Nat.le_of_ble_eq_true rfl | omega | (simp <;> fail) | (simp <;> omega) | (focus (repeat' (first | exact one_u8s _ | exact one_iS _ _ | rfl | apply one_take | apply one_drop | apply one_append)); done) | fail)) | fail)) <;> (try (conv => whnf))
                all_goals exact ⟨(j + 1, true), ⟨by show j + 1 ≤ S * S; omega, fun _ => rfl⟩, by show S * S - (j + 1) < S * S - j; omega, ⟨congrArg (AV.int .i64) (by omega), rfl, trivial⟩, HLe.refl _⟩
              | false =>
                have hle : j ≤ p0 := by
                  rcases Nat.lt_or_ge p0 j with h | h
                  · exact absurd (hrb h) (by decide)
                  · exact h
                (repeat' ((conv => whnf); first | refine Then.mk ?_ | left | refine OpsA.cons ?_ | refine OpsA.nil ?_ | refine AWq.seq ?_ | refine AWq.region ?_ | refine AWq.cond ?_ | refine AWq.block ?_ | refine AWq.skip ?_ | refine AWq.ret ?_ | refine AWq.exit ?_ | refine AWq.loop ?_ | refine AWq.rangeFunc ?_ | refine DrawA.consD ?_ | refine DrawA.nil ?_ | refine AWq.draw (by decide +kernel) ?_ | (refine Both.mk ?_ ?_ <;> intro hc <;> (first | exact Bool.noConfusion hc | exact absurd (by with_reducible rfl) hc | exact (hc : False).elim | exact absurd (by assumption) hc | exact absurd hc (by assumption) | (exfalso; omega) | exact absurd hc (by decide) | skip)) | (intro c hc; (try (simp only [AH.none_iff] at hc; repeat (have hn := hc.1; replace hc := hc.2))); (first | (refine i64_k hc ?_ ?_ ?_ ; omega; omega; (clear hc; intro hc; subst hc)) | (refine u64_k hc ?_ ?_ ?_ ; omega; omega; (clear hc; intro hc; subst hc)) | (refine u8_k hc ?_ ?_ ?_ ; omega; omega; (clear hc; intro hc; subst hc)) | subst hc | skip)) | (apply Exists.intro; apply And.intro; (focus (repeat (first | assumption | exact AH.set_same _ _ _ | ((first | refine AH.get_ne ?_ ?_ | refine AH.getd_ne ?_ ?_); (first | assumption | omega | exact Ne.symm (by assumption) | exact AH.ne_none (by assumption) (by assumption) | exact AH.none_ne (by assumption) (by assumption) | exact (AH.none_set (by assumption)).1 | exact Ne.symm (AH.none_set (by assumption)).1)))); done)) | (apply Exists.intro; apply And.intro; (try simp only [List.getElem?_drop, Nat.mul_one, Nat.add_zero, Nat.zero_add]); first | (refine u8s_get ?_; omega) | (refine iS_get ?_; omega) | assumption | rfl | fail) | (apply And.intro; (first | rfl | assumption | exact Nat.le_of_ble_eq_true rfl | omega | (simp <;> fail) | (simp <;> omega) | (focus (repeat' (first | exact one_u8s _ | exact one_iS _ _ | rfl | apply one_take | apply one_drop | apply one_append)); done) | fail)) | fail)) <;> (try (conv => whnf))
                all_goals first
                  | exact ⟨(j + 1, true), ⟨by show j + 1 ≤ S * S; omega, fun _ => rfl⟩, by show S * S - (j + 1) < S * S - j; omega, ⟨congrArg (AV.int .i64) (by omega), rfl, trivial⟩, HLe.refl _⟩
                  | exact ⟨(j + 1, false), ⟨by show j + 1 ≤ S * S; omega, fun h => absurd (wj (by have h : p0 < j + 1 := h; omega)) (by assumption)⟩, by show S * S - (j + 1) < S * S - j; omega, ⟨congrArg (AV.int .i64) (by omega), rfl, trivial⟩, HLe.refl _⟩
            · have hrt : rb = true := hrb (by omega)
              subst hrt
              (repeat' ((conv => whnf); first | refine Then.mk ?_ | left | refine OpsA.cons ?_ | refine OpsA.nil ?_ | refine AWq.seq ?_ | refine AWq.region ?_ | refine AWq.cond ?_ | refine AWq.block ?_ | refine AWq.skip ?_ | refine AWq.ret ?_ | refine AWq.exit ?_ | refine AWq.loop ?_ | refine AWq.rangeFunc ?_ | refine DrawA.consD ?_ | refine DrawA.nil ?_ | refine AWq.draw (by decide +kernel) ?_ | (refine ACall.to (lives_c _) ?_) | (apply Exists.intro; apply And.intro; exact lives_c _) | (apply Exists.intro; apply Exists.intro; apply And.intro; exact lives_c _) | (refine Both.mk ?_ ?_ <;> intro hc <;> (first | exact Bool.noConfusion hc | exact absurd (by with_reducible rfl) hc | exact (hc : False).elim | exact absurd (by assumption) hc | exact absurd hc (by assumption) | (exfalso; omega) | exact absurd hc (by decide) | skip)) | (intro c hc; (try (simp only [AH.none_iff] at hc; repeat (have hn := hc.1; replace hc := hc.2))); (first | (refine i64_k hc ?_ ?_ ?_ ; omega; omega; (clear hc; intro hc; subst hc)) | (refine u64_k hc ?_ ?_ ?_ ; omega; omega; (clear hc; intro hc; subst hc)) | (refine u8_k hc ?_ ?_ ?_ ; omega; omega; (clear hc; intro hc; subst hc)) | subst hc | skip)) | (apply Exists.intro; apply And.intro; (focus (repeat (first | assumption | exact AH.set_same _ _ _ | ((first | refine AH.get_ne ?_ ?_ | refine AH.getd_ne ?_ ?_); (first | assumption | omega | exact Ne.symm (by assumption) | exact AH.ne_none (by assumption) (by assumption) | exact AH.none_ne (by assumption) (by assumption) | exact (AH.none_set (by assumption)).1 | exact Ne.symm (AH.none_set (by assumption)).1)))); done)) | (apply Exists.intro; apply And.intro; (try simp only [List.getElem?_drop, Nat.mul_one, Nat.add_zero, Nat.zero_add]); first | (refine u8s_get ?_; omega) | (refine iS_get ?_; omega) | assumption | rfl | fail) | (apply And.intro; (first | rfl | assumption | exact Nat.le_of_ble_eq_true rfl | omega | (simp <;> fail) | (simp <;> omega) | (focus (repeat' (first | exact one_u8s _ | exact one_iS _ _ | rfl | apply one_take | apply one_drop | apply one_append)); done) | fail)) | fail)) <;> (try (conv => whnf))
end Go.Proofs.Ytajmabnnaidhkaa
