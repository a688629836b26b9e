/- The walks of the coder: Ints. -/
import Derived.Test.YtgmooalikccbiaaCodL
namespace Go.Proofs.Ytgmooalikccbiaa
open Go.Fw Go
set_option linter.unusedVariables false
set_option linter.unusedSimpArgs false

theorem shr_at (u k : Nat) (h : k ≤ 63) : (u : Int).fdiv (2 ^ min (Int.toNat (k : Int)) IntKind.u64.bits) = (u / 2 ^ k : Nat) := by
  rw [show min (Int.toNat (k : Int)) IntKind.u64.bits = k by show min k 64 = k; omega, Int.fdiv_eq_ediv_of_nonneg _ (Int.le_of_lt (Int.pow_pos (by decide)))]
  rw [Int.natCast_ediv, Int.natCast_pow]; rfl
theorem and_one (x : Nat) (h : x < 18446744073709551616) : bitsA .and .u64 (x : Nat) 1 = (x % 2 : Nat) := by
  show IntKind.u64.wrap ((BitVec.ofInt 64 (x : Int) &&& BitVec.ofInt 64 1).toNat : Int) = _
  have ha : (BitVec.ofInt 64 (x : Int)).toNat = x := by rw [BitVec.toNat_ofInt]; omega
  have hb : (BitVec.ofInt 64 1).toNat = 2 ^ 1 - 1 := by decide
  rw [BitVec.toNat_and, ha, hb, Nat.and_two_pow_sub_one_eq_mod, wrap_u64']
  omega
theorem bitsE_L {u : Nat} : ∀ (k : Nat) {σ : Cs}, CsOk σ → (bitsE u k σ).L ≤ σ.L + 2 * k
  | 0, _, _ => Nat.le_refl _
  | k + 1, σ, h => by
    have h1 := bitsE_L (u := u) k (bitE_ok h u k)
    have h2 : (bitE σ u k).L ≤ σ.L + 2 := stp_L h (bit_st u k)
    show (bitsE u k (bitE σ u k)).L ≤ _
    omega
theorem intI_L {I : Is} (h : IsOk I) {u : Nat} (hu : u < 2 ^ 64) : (intI I u).E.σ.L ≤ I.E.σ.L + 130 := by
  have hl := lenB_le hu
  have h1 := stp_L h.es.cs (h.es.st I.b (s := lenB u) (by omega))
  have h2 := bitsE_L (u := u) (lenB u - 1) (h.es.sym I.b (s := lenB u) (by omega)).cs
  have h3 : (symE 65 I.E I.b (lenB u)).σ.L ≤ I.E.σ.L + 2 := h1
  show (bitsE u (lenB u - 1) (symE 65 I.E I.b (lenB u)).σ).L ≤ _
  omega
theorem intsI_L : ∀ (us : List Nat) {I : Is}, (∀ u ∈ us, u < 2 ^ 64) → IsOk I → (intsI us I).E.σ.L ≤ I.E.σ.L + 130 * us.length
  | [], _, _, _ => Nat.le_refl _
  | u :: us, I, hu, h => by
    have h1 := intI_L h (hu u (by simp))
    have h2 := intsI_L us (I := intI I u) (fun v hv => hu v (by simp [hv])) (h.step (hu u (by simp)))
    show (intsI us (intI I u)).E.σ.L ≤ _
    rw [List.length_cons]
    omega
theorem fold_all {l : List Int} (h : I64L l) : ∀ u ∈ l.map fold, u < 2 ^ 64 := fun u hu => by
  obtain ⟨x, hx, rfl⟩ := List.mem_map.1 hu
  exact fold_lt (h x hx)
theorem I64L.take {l : List Int} (h : I64L l) (n : Nat) : I64L (l.take n) := fun x hx => h x (List.mem_of_mem_take hx)

set_option maxRecDepth 8000 in
theorem cInts_c (l : List Int) (hl : I64L l) (hlen : l.length ≤ 1000000) (H : AH) :
    ACall Try.prog 21 [.cs (iS .i64 l) l.length] H (fun y H' => y = k_resV (intsS l) ∧ H' = H) := by
  refine ACall.fin ?_
  have hsl : (iS .i64 l).length = l.length * 1 := by simp
  by_cases hlim : l.length ≤ 65536
  · have he : intsS l = (codeS (intsI (l.map fold) is0).E.σ, 0) := if_pos hlim
    rw [he]
    refine ACall_of tt_ok (dok _) Try.func21 rfl (by decide) rfl ?_
    (repeat' ((conv => whnf); first | refine Then.mk ?_ | left | refine OpsA.cons ?_ | refine OpsA.nil ?_ | refine AWq.seq ?_ | refine AWq.region ?_ | refine AWq.cond ?_ | refine AWq.block ?_ | refine AWq.skip ?_ | refine AWq.scope ?_ | refine AWq.label ?_ | refine AWq.ret ?_ | refine AWq.exit ?_ | refine AWq.loop ?_ | refine AWq.rangeFunc ?_ | refine DrawA.consD ?_ | refine DrawA.nil ?_ | refine DrawL.consD ?_ | refine DrawL.nil ?_ | refine DrawF.consD ?_ | refine DrawF.nil ?_ | refine AWq.draw (by decide +kernel) ?_ | (refine Both.mk ?_ ?_ <;> intro hc <;> (first | exact Bool.noConfusion hc | exact absurd (by with_reducible rfl) hc | exact (hc : False).elim | exact absurd (by assumption) hc | exact absurd hc (by assumption) | (exfalso; omega) | exact absurd hc (by decide) | skip)) | (intro c hc; (try (simp only [AH.none_iff] at hc; repeat (have hn := hc.1; replace hc := hc.2))); (first | (have hc2 := Eq.trans hc (by with_reducible assumption); clear hc; subst hc2) | (refine i64_k hc ?_ ?_ ?_ ; omega; omega; (clear hc; intro hc; subst hc)) | (refine u64_k hc ?_ ?_ ?_ ; omega; omega; (clear hc; intro hc; subst hc)) | (refine u8_k hc ?_ ?_ ?_ ; omega; omega; (clear hc; intro hc; subst hc)) | subst hc | skip)) | (apply Exists.intro; apply And.intro; (focus (repeat (first | assumption | exact AH.set_same _ _ _ | ((first | refine AH.get_ne ?_ ?_ | refine AH.getd_ne ?_ ?_); (first | assumption | omega | exact Ne.symm (by assumption) | exact AH.ne_none (by assumption) (by assumption) | exact AH.none_ne (by assumption) (by assumption) | exact (AH.none_set (by assumption)).1 | exact Ne.symm (AH.none_set (by assumption)).1)))); done)) | (apply Exists.intro; apply And.intro; first | (with_reducible assumption) | ((try simp only [List.getElem?_drop, Nat.mul_one, Nat.add_zero, Nat.zero_add]); first | (with_reducible assumption) | (refine u8s_get ?_; omega) | (refine iS_get ?_; omega) | assumption | rfl | fail)) | (apply And.intro; (first | rfl | (with_reducible assumption) | exact Nat.le_of_ble_eq_true rfl | omega | (exact Int.ofNat_lt.2 (Nat.lt_of_lt_of_eq (by with_reducible assumption) (by decide +kernel))) | assumption | (simp <;> fail) | (simp <;> omega) | (focus (repeat' (first | exact one_u8s _ | exact one_iS _ _ | rfl | apply one_take | apply one_drop | apply one_append)); done) | fail)) | fail)) <;> (try (conv => whnf))
    refine (alphabet_c 65 65 (by omega) (by omega) (by omega) (by omega) _).mono ?_
    rintro y H' ⟨P, Q, rfl, hmods, hle, hnew⟩
    have hpl : (psL P 65).length = 65 := psL_len _ _
    (repeat' ((conv => whnf); first | refine Then.mk ?_ | left | refine OpsA.cons ?_ | refine OpsA.nil ?_ | refine AWq.seq ?_ | refine AWq.region ?_ | refine AWq.cond ?_ | refine AWq.block ?_ | refine AWq.skip ?_ | refine AWq.scope ?_ | refine AWq.label ?_ | refine AWq.ret ?_ | refine AWq.exit ?_ | refine AWq.loop ?_ | refine AWq.rangeFunc ?_ | refine DrawA.consD ?_ | refine DrawA.nil ?_ | refine DrawL.consD ?_ | refine DrawL.nil ?_ | refine DrawF.consD ?_ | refine DrawF.nil ?_ | refine AWq.draw (by decide +kernel) ?_ | (refine Both.mk ?_ ?_ <;> intro hc <;> (first | exact Bool.noConfusion hc | exact absurd (by with_reducible rfl) hc | exact (hc : False).elim | exact absurd (by assumption) hc | exact absurd hc (by assumption) | (exfalso; omega) | exact absurd hc (by decide) | skip)) | (intro c hc; (try (simp only [AH.none_iff] at hc; repeat (have hn := hc.1; replace hc := hc.2))); (first | (have hc2 := Eq.trans hc (by with_reducible assumption); clear hc; subst hc2) | (refine i64_k hc ?_ ?_ ?_ ; omega; omega; (clear hc; intro hc; subst hc)) | (refine u64_k hc ?_ ?_ ?_ ; omega; omega; (clear hc; intro hc; subst hc)) | (refine u8_k hc ?_ ?_ ?_ ; omega; omega; (clear hc; intro hc; subst hc)) | subst hc | skip)) | (apply Exists.intro; apply And.intro; (focus (repeat (first | assumption | exact AH.set_same _ _ _ | ((first | refine AH.get_ne ?_ ?_ | refine AH.getd_ne ?_ ?_); (first | assumption | omega | exact Ne.symm (by assumption) | exact AH.ne_none (by assumption) (by assumption) | exact AH.none_ne (by assumption) (by assumption) | exact (AH.none_set (by assumption)).1 | exact Ne.symm (AH.none_set (by assumption)).1)))); done)) | (apply Exists.intro; apply And.intro; first | (with_reducible assumption) | ((try simp only [List.getElem?_drop, Nat.mul_one, Nat.add_zero, Nat.zero_add]); first | (with_reducible assumption) | (refine u8s_get ?_; omega) | (refine iS_get ?_; omega) | assumption | rfl | fail)) | (apply And.intro; (first | rfl | (with_reducible assumption) | exact Nat.le_of_ble_eq_true rfl | omega | (exact Int.ofNat_lt.2 (Nat.lt_of_lt_of_eq (by with_reducible assumption) (by decide +kernel))) | assumption | (simp <;> fail) | (simp <;> omega) | (focus (repeat' (first | exact one_u8s _ | exact one_iS _ _ | rfl | apply one_take | apply one_drop | apply one_append)); done) | fail)) | fail)) <;> (try (conv => whnf))
    refine (writer_c _).mono ?_
    rintro y G ⟨w, r, hw, hr, hwr, rfl, rfl⟩
    have hcd : CdAt H (wcH H' w r cs0) P Q w r 65 65 es0 := by
      have hd : ∀ k, k < 65 → P k ≠ w ∧ P k ≠ r ∧ Q k ≠ w ∧ Q k ≠ r := fun k hk => ⟨(hmods.fresh hw hk).1, (hmods.fresh hr hk).1, (hmods.fresh hw hk).2, (hmods.fresh hr hk).2⟩
      exact ⟨hmods.same fun k hk => ⟨wcH_ne (hd k hk).1 (hd k hk).2.1, wcH_ne (hd k hk).2.2.1 (hd k hk).2.2.2⟩, WrAt.set hwr, hd, le_wcH hle (HLe.none hle hw) (HLe.none hle hr), hnew, HLe.none hle hw, HLe.none hle hr⟩
    generalize wcH H' w r cs0 = G0 at hcd ⊢
    (repeat' ((conv => whnf); first | refine Then.mk ?_ | left | refine OpsA.cons ?_ | refine OpsA.nil ?_ | refine AWq.seq ?_ | refine AWq.region ?_ | refine AWq.cond ?_ | refine AWq.block ?_ | refine AWq.skip ?_ | refine AWq.scope ?_ | refine AWq.label ?_ | refine AWq.ret ?_ | refine AWq.exit ?_ | refine AWq.loop ?_ | refine AWq.rangeFunc ?_ | refine DrawA.consD ?_ | refine DrawA.nil ?_ | refine DrawL.consD ?_ | refine DrawL.nil ?_ | refine DrawF.consD ?_ | refine DrawF.nil ?_ | refine AWq.draw (by decide +kernel) ?_ | (refine Both.mk ?_ ?_ <;> intro hc <;> (first | exact Bool.noConfusion hc | exact absurd (by with_reducible rfl) hc | exact (hc : False).elim | exact absurd (by assumption) hc | exact absurd hc (by assumption) | (exfalso; omega) | exact absurd hc (by decide) | skip)) | (intro c hc; (try (simp only [AH.none_iff] at hc; repeat (have hn := hc.1; replace hc := hc.2))); (first | (have hc2 := Eq.trans hc (by with_reducible assumption); clear hc; subst hc2) | (refine i64_k hc ?_ ?_ ?_ ; omega; omega; (clear hc; intro hc; subst hc)) | (refine u64_k hc ?_ ?_ ?_ ; omega; omega; (clear hc; intro hc; subst hc)) | (refine u8_k hc ?_ ?_ ?_ ; omega; omega; (clear hc; intro hc; subst hc)) | subst hc | skip)) | (apply Exists.intro; apply And.intro; (focus (repeat (first | assumption | exact AH.set_same _ _ _ | ((first | refine AH.get_ne ?_ ?_ | refine AH.getd_ne ?_ ?_); (first | assumption | omega | exact Ne.symm (by assumption) | exact AH.ne_none (by assumption) (by assumption) | exact AH.none_ne (by assumption) (by assumption) | exact (AH.none_set (by assumption)).1 | exact Ne.symm (AH.none_set (by assumption)).1)))); done)) | (apply Exists.intro; apply And.intro; first | (with_reducible assumption) | ((try simp only [List.getElem?_drop, Nat.mul_one, Nat.add_zero, Nat.zero_add]); first | (with_reducible assumption) | (refine u8s_get ?_; omega) | (refine iS_get ?_; omega) | assumption | rfl | fail)) | (apply And.intro; (first | rfl | (with_reducible assumption) | exact Nat.le_of_ble_eq_true rfl | omega | (exact Int.ofNat_lt.2 (Nat.lt_of_lt_of_eq (by with_reducible assumption) (by decide +kernel))) | assumption | (simp <;> fail) | (simp <;> omega) | (focus (repeat' (first | exact one_u8s _ | exact one_iS _ _ | rfl | apply one_take | apply one_drop | apply one_append)); done) | fail)) | fail)) <;> (try (conv => whnf))
    refine AWp_loop (σ := AH × Nat × Is) (7 :: 9 :: 10 :: 11 :: 12 :: 23 :: 24 :: 25 :: 26 :: 27 :: 28 :: 29 :: 30 :: 31 :: 32 :: 33 :: 34 :: 35 :: 36 :: 37 :: 38 :: 39 :: 40 :: 41 :: 42 :: 43 :: 44 :: 45 :: 46 :: 47 :: 48 :: 49 :: 50 :: 51 :: 52 :: []) (fun (G, i, I) => [(7, .int .i64 I.b), (23, .int .i64 i)]) (fun (G, i, I) => G) (fun (G, i, I) => i ≤ l.length ∧ intsI ((l.take i).map fold) is0 = I ∧ CdAt H G P Q w r 65 65 I.E) (fun (G, i, I) => l.length - i) (G0, 0, is0) rfl ?_ ?_ (HLe.refl _) ?_
    · exact ⟨Nat.zero_le _, rfl, hcd⟩
    · exact ⟨rfl, rfl, trivial⟩
    · rintro ⟨G, i, I⟩ ⟨hi, hI, hcd⟩
      dsimp only at hi hI hcd ⊢
      refine AWp.of tt_ok (dok _) rfl ?_
      have hok : IsOk I := by rw [← hI]; exact intsI_ok (fold_all (hl.take i)) is0_ok
      have hL : I.E.σ.L ≤ 130 * 65536 := by
        have := intsI_L ((l.take i).map fold) (I := is0) (fold_all (hl.take i)) is0_ok
        rw [hI] at this
        have h0 : is0.E.σ.L = 0 := rfl
        rw [h0, List.length_map, List.length_take] at this
        omega
      have hb := hok.b
      by_cases hil : i < l.length
      · have hga : (iS .i64 l)[(i : Int).toNat]? = some (.int .i64 (l.getD i 0)) := iS_get hil
        have ha := hl.at i
        have hn : intsI ((l.take (i + 1)).map fold) is0 = intI I (fold (l.getD i 0)) := by
          rw [List.take_add_one, List.getElem?_eq_getElem hil, List.map_append]
          have : l.getD i 0 = l[i] := by rw [List.getD_eq_getElem?_getD, List.getElem?_eq_getElem hil]; rfl
          rw [this]
          show intsI (_ ++ [fold l[i]]) is0 = _
          rw [intsI_snoc, hI]
        generalize l.getD i 0 = a at *
        have hfold := fun H => fold_c a ha H
        have hu := fold_lt ha
        generalize fold a = u at *
        have hlen64 := fun H => len64_c u (by simpa using hu) H
        have hlb := lenB_le hu
        have hsm := hcd.symbol hok.es.cs (by omega) (k := I.b) (s := lenB u) (by omega) (by omega)
        have hcd2 := hcd.sym (k := I.b) (s := lenB u) (by omega) (by omega)
        have hok2 := hok.es.sym I.b (s := lenB u) (by omega)
        have hL2 : (symE 65 I.E I.b (lenB u)).σ.L ≤ I.E.σ.L + 2 := stp_L hok.es.cs (hok.es.st I.b (s := lenB u) (by omega))
        have hgp : (psL P 65)[(I.b : Int).toNat]? = some (.ptr (P I.b) 0 0) := psL_get (by omega)
        have hfin : intI I u = ⟨⟨(symE 65 I.E I.b (lenB u)).M, bitsE u (lenB u - 1) (symE 65 I.E I.b (lenB u)).σ⟩, lenB u⟩ := rfl
        generalize symE 65 I.E I.b (lenB u) = E2 at *
        obtain ⟨C, hC⟩ : ∃ C, C = lenB u := ⟨_, rfl⟩
        rw [← hC] at hlb hfin hlen64 hsm hcd2
        (repeat' ((conv => whnf); first | refine Then.mk ?_ | left | refine OpsA.cons ?_ | refine OpsA.nil ?_ | refine AWq.seq ?_ | refine AWq.region ?_ | refine AWq.cond ?_ | refine AWq.block ?_ | refine AWq.skip ?_ | refine AWq.scope ?_ | refine AWq.label ?_ | refine AWq.ret ?_ | refine AWq.exit ?_ | refine AWq.loop ?_ | refine AWq.rangeFunc ?_ | refine DrawA.consD ?_ | refine DrawA.nil ?_ | refine DrawL.consD ?_ | refine DrawL.nil ?_ | refine DrawF.consD ?_ | refine DrawF.nil ?_ | refine AWq.draw (by decide +kernel) ?_ | (refine ACall.to (hfold _) ?_) | (refine ACall.to (hlen64 _) ?_) | (refine ACall.to (hsm) ?_) | (apply Exists.intro; apply And.intro; exact hfold _) | (apply Exists.intro; apply And.intro; exact hlen64 _) | (apply Exists.intro; apply And.intro; exact hsm) | (apply Exists.intro; apply Exists.intro; apply And.intro; exact hfold _) | (apply Exists.intro; apply Exists.intro; apply And.intro; exact hlen64 _) | (apply Exists.intro; apply Exists.intro; apply And.intro; exact hsm) | (refine Both.mk ?_ ?_ <;> intro hc <;> (first | exact Bool.noConfusion hc | exact absurd (by with_reducible rfl) hc | exact (hc : False).elim | exact absurd (by assumption) hc | exact absurd hc (by assumption) | (exfalso; omega) | exact absurd hc (by decide) | skip)) | (intro c hc; (try (simp only [AH.none_iff] at hc; repeat (have hn := hc.1; replace hc := hc.2))); (first | (have hc2 := Eq.trans hc (by with_reducible assumption); clear hc; subst hc2) | (refine i64_k hc ?_ ?_ ?_ ; omega; omega; (clear hc; intro hc; subst hc)) | (refine u64_k hc ?_ ?_ ?_ ; omega; omega; (clear hc; intro hc; subst hc)) | (refine u8_k hc ?_ ?_ ?_ ; omega; omega; (clear hc; intro hc; subst hc)) | subst hc | skip)) | (apply Exists.intro; apply And.intro; (focus (repeat (first | assumption | exact AH.set_same _ _ _ | ((first | refine AH.get_ne ?_ ?_ | refine AH.getd_ne ?_ ?_); (first | assumption | omega | exact Ne.symm (by assumption) | exact AH.ne_none (by assumption) (by assumption) | exact AH.none_ne (by assumption) (by assumption) | exact (AH.none_set (by assumption)).1 | exact Ne.symm (AH.none_set (by assumption)).1)))); done)) | (apply Exists.intro; apply And.intro; first | (with_reducible assumption) | ((try simp only [List.getElem?_drop, Nat.mul_one, Nat.add_zero, Nat.zero_add]); first | (with_reducible assumption) | (refine u8s_get ?_; omega) | (refine iS_get ?_; omega) | assumption | rfl | fail)) | (apply And.intro; (first | rfl | (with_reducible assumption) | exact Nat.le_of_ble_eq_true rfl | omega | (exact Int.ofNat_lt.2 (Nat.lt_of_lt_of_eq (by with_reducible assumption) (by decide +kernel))) | assumption | (simp <;> fail) | (simp <;> omega) | (focus (repeat' (first | exact one_u8s _ | exact one_iS _ _ | rfl | apply one_take | apply one_drop | apply one_append)); done) | fail)) | fail)) <;> (try (conv => whnf))
        generalize enG G P Q w r 65 I.E I.b C = G1 at hcd2 ⊢
        refine AWp_loop (σ := AH × Nat × Cs × Int) (12 :: 40 :: 41 :: 42 :: 43 :: 44 :: 45 :: 46 :: 47 :: 48 :: 49 :: 50 :: []) (fun (G, k, τ, j) => [(12, .int .i64 j)]) (fun (G, k, τ, j) => G) (fun (G, k, τ, j) => (j = (k : Int) - 1 ∨ k = 0 ∧ j = -2) ∧ bitsE u k τ = bitsE u (C - 1) E2.σ ∧ CsOk τ ∧ τ.L + 2 * k ≤ 20000000 ∧ k ≤ 63 ∧ CdAt H G P Q w r 65 65 ⟨E2.M, τ⟩) (fun (G, k, τ, j) => k) (G1, C - 1, E2.σ, (C : Int) - 2) rfl ?_ ?_ (HLe.refl _) ?_
        · exact ⟨by omega, rfl, hok2.cs, by omega, by omega, hcd2⟩
        · exact ⟨rfl, trivial⟩
        · rintro ⟨G2, k, τ, j⟩ ⟨k1, k2, k3, k4, k5, k6⟩
          dsimp only at k1 k2 k3 k4 k5 k6 ⊢
          refine AWp.of tt_ok (dok _) rfl ?_
          by_cases hk : k = 0
          · subst hk
            have hj : j < 0 := by omega
            have he2 : intI I u = ⟨⟨E2.M, τ⟩, C⟩ := by rw [hfin, ← k2]; rfl
            rw [he2] at hn
            (repeat' ((conv => whnf); first | refine Then.mk ?_ | left | refine OpsA.cons ?_ | refine OpsA.nil ?_ | refine AWq.seq ?_ | refine AWq.region ?_ | refine AWq.cond ?_ | refine AWq.block ?_ | refine AWq.skip ?_ | refine AWq.scope ?_ | refine AWq.label ?_ | refine AWq.ret ?_ | refine AWq.exit ?_ | refine AWq.loop ?_ | refine AWq.rangeFunc ?_ | refine DrawA.consD ?_ | refine DrawA.nil ?_ | refine DrawL.consD ?_ | refine DrawL.nil ?_ | refine DrawF.consD ?_ | refine DrawF.nil ?_ | refine AWq.draw (by decide +kernel) ?_ | (refine Both.mk ?_ ?_ <;> intro hc <;> (first | exact Bool.noConfusion hc | exact absurd (by with_reducible rfl) hc | exact (hc : False).elim | exact absurd (by assumption) hc | exact absurd hc (by assumption) | (exfalso; omega) | exact absurd hc (by decide) | skip)) | (intro c hc; (try (simp only [AH.none_iff] at hc; repeat (have hn := hc.1; replace hc := hc.2))); (first | (have hc2 := Eq.trans hc (by with_reducible assumption); clear hc; subst hc2) | (refine i64_k hc ?_ ?_ ?_ ; omega; omega; (clear hc; intro hc; subst hc)) | (refine u64_k hc ?_ ?_ ?_ ; omega; omega; (clear hc; intro hc; subst hc)) | (refine u8_k hc ?_ ?_ ?_ ; omega; omega; (clear hc; intro hc; subst hc)) | subst hc | skip)) | (apply Exists.intro; apply And.intro; (focus (repeat (first | assumption | exact AH.set_same _ _ _ | ((first | refine AH.get_ne ?_ ?_ | refine AH.getd_ne ?_ ?_); (first | assumption | omega | exact Ne.symm (by assumption) | exact AH.ne_none (by assumption) (by assumption) | exact AH.none_ne (by assumption) (by assumption) | exact (AH.none_set (by assumption)).1 | exact Ne.symm (AH.none_set (by assumption)).1)))); done)) | (apply Exists.intro; apply And.intro; first | (with_reducible assumption) | ((try simp only [List.getElem?_drop, Nat.mul_one, Nat.add_zero, Nat.zero_add]); first | (with_reducible assumption) | (refine u8s_get ?_; omega) | (refine iS_get ?_; omega) | assumption | rfl | fail)) | (apply And.intro; (first | rfl | (with_reducible assumption) | exact Nat.le_of_ble_eq_true rfl | omega | (exact Int.ofNat_lt.2 (Nat.lt_of_lt_of_eq (by with_reducible assumption) (by decide +kernel))) | assumption | (simp <;> fail) | (simp <;> omega) | (focus (repeat' (first | exact one_u8s _ | exact one_iS _ _ | rfl | apply one_take | apply one_drop | apply one_append)); done) | fail)) | fail)) <;> (try (conv => whnf))
            exact ⟨(G2, i + 1, ⟨⟨E2.M, τ⟩, C⟩), ⟨hil, hn, k6⟩, by show l.length - (i + 1) < l.length - i; omega, ⟨rfl, congrArg (AV.int .i64) (by show (i : Int) + 1 = (i + 1 : Nat); omega), trivial⟩, HLe.refl _⟩
          · obtain ⟨k, rfl⟩ : ∃ d, k = d + 1 := ⟨k - 1, by omega⟩
            obtain rfl : j = (k : Int) := by omega
            have f1 := shr_at u k (by omega)
            have hx : u / 2 ^ k < 18446744073709551616 := Nat.lt_of_le_of_lt (Nat.div_le_self _ _) (by simpa using hu)
            have hst := k_step_c k6.wr k3 (bit_st u k) (show τ.L ≤ _ by omega)
            have k6' := k6.step (bitE τ u k)
            have hok3 := bitE_ok k3 u k
            have hL3 : (bitE τ u k).L ≤ τ.L + 2 := stp_L k3 (bit_st u k)
            have hb2 : bitsE u (k + 1) τ = bitsE u k (bitE τ u k) := rfl
            have hst : ACall Try.prog 49 [.ptr w 0 0, .int .i64 (u / 2 ^ k % 2 : Nat), .int .i64 1, .int .i64 2] G2 (fun y H' => y = .tup [] ∧ H' = wcH G2 w r (bitE τ u k)) := hst
            rw [hb2] at k2
            generalize bitE τ u k = τ2 at *
            generalize u / 2 ^ k = x at *
            have f2 := and_one x hx
            have hx2 : x % 2 < 2 := Nat.mod_lt _ (by decide)
            generalize x % 2 = y at *
            (repeat' ((conv => whnf); first | refine Then.mk ?_ | left | refine OpsA.cons ?_ | refine OpsA.nil ?_ | refine AWq.seq ?_ | refine AWq.region ?_ | refine AWq.cond ?_ | refine AWq.block ?_ | refine AWq.skip ?_ | refine AWq.scope ?_ | refine AWq.label ?_ | refine AWq.ret ?_ | refine AWq.exit ?_ | refine AWq.loop ?_ | refine AWq.rangeFunc ?_ | refine DrawA.consD ?_ | refine DrawA.nil ?_ | refine DrawL.consD ?_ | refine DrawL.nil ?_ | refine DrawF.consD ?_ | refine DrawF.nil ?_ | refine AWq.draw (by decide +kernel) ?_ | (refine ACall.to (hst) ?_) | (apply Exists.intro; apply And.intro; exact hst) | (apply Exists.intro; apply Exists.intro; apply And.intro; exact hst) | (refine Both.mk ?_ ?_ <;> intro hc <;> (first | exact Bool.noConfusion hc | exact absurd (by with_reducible rfl) hc | exact (hc : False).elim | exact absurd (by assumption) hc | exact absurd hc (by assumption) | (exfalso; omega) | exact absurd hc (by decide) | skip)) | (intro c hc; (try (simp only [AH.none_iff] at hc; repeat (have hn := hc.1; replace hc := hc.2))); (first | (have hc2 := Eq.trans hc (by with_reducible assumption); clear hc; subst hc2) | (refine i64_k hc ?_ ?_ ?_ ; omega; omega; (clear hc; intro hc; subst hc)) | (refine u64_k hc ?_ ?_ ?_ ; omega; omega; (clear hc; intro hc; subst hc)) | (refine u8_k hc ?_ ?_ ?_ ; omega; omega; (clear hc; intro hc; subst hc)) | subst hc | skip)) | (apply Exists.intro; apply And.intro; (focus (repeat (first | assumption | exact AH.set_same _ _ _ | ((first | refine AH.get_ne ?_ ?_ | refine AH.getd_ne ?_ ?_); (first | assumption | omega | exact Ne.symm (by assumption) | exact AH.ne_none (by assumption) (by assumption) | exact AH.none_ne (by assumption) (by assumption) | exact (AH.none_set (by assumption)).1 | exact Ne.symm (AH.none_set (by assumption)).1)))); done)) | (apply Exists.intro; apply And.intro; first | (with_reducible assumption) | ((try simp only [List.getElem?_drop, Nat.mul_one, Nat.add_zero, Nat.zero_add]); first | (with_reducible assumption) | (refine u8s_get ?_; omega) | (refine iS_get ?_; omega) | assumption | rfl | fail)) | (apply And.intro; (first | rfl | (with_reducible assumption) | exact Nat.le_of_ble_eq_true rfl | omega | (exact Int.ofNat_lt.2 (Nat.lt_of_lt_of_eq (by with_reducible assumption) (by decide +kernel))) | assumption | (simp <;> fail) | (simp <;> omega) | (focus (repeat' (first | exact one_u8s _ | exact one_iS _ _ | rfl | apply one_take | apply one_drop | apply one_append)); done) | fail)) | fail)) <;> (try (conv => whnf))
            exact ⟨(_, k, τ2, (k : Int) - 1), ⟨.inl rfl, k2, hok3, by dsimp only; omega, by dsimp only; omega, k6'⟩, Nat.lt_succ_self _, ⟨rfl, trivial⟩, HLe.refl _⟩
      · have hie : i = l.length := by omega
        have hcode := code_c (H := G) (σ := I.E.σ) hcd.wr.ne (by omega)
        rw [hcd.wr.eq] at hcode
        rw [hie, List.take_length] at hI
        rw [hI]
        (repeat' ((conv => whnf); first | refine Then.mk ?_ | left | refine OpsA.cons ?_ | refine OpsA.nil ?_ | refine AWq.seq ?_ | refine AWq.region ?_ | refine AWq.cond ?_ | refine AWq.block ?_ | refine AWq.skip ?_ | refine AWq.scope ?_ | refine AWq.label ?_ | refine AWq.ret ?_ | refine AWq.exit ?_ | refine AWq.loop ?_ | refine AWq.rangeFunc ?_ | refine DrawA.consD ?_ | refine DrawA.nil ?_ | refine DrawL.consD ?_ | refine DrawL.nil ?_ | refine DrawF.consD ?_ | refine DrawF.nil ?_ | refine AWq.draw (by decide +kernel) ?_ | (refine ACall.to (hcode) ?_) | (apply Exists.intro; apply And.intro; exact hcode) | (apply Exists.intro; apply Exists.intro; apply And.intro; exact hcode) | (refine Both.mk ?_ ?_ <;> intro hc <;> (first | exact Bool.noConfusion hc | exact absurd (by with_reducible rfl) hc | exact (hc : False).elim | exact absurd (by assumption) hc | exact absurd hc (by assumption) | (exfalso; omega) | exact absurd hc (by decide) | skip)) | (intro c hc; (try (simp only [AH.none_iff] at hc; repeat (have hn := hc.1; replace hc := hc.2))); (first | (have hc2 := Eq.trans hc (by with_reducible assumption); clear hc; subst hc2) | (refine i64_k hc ?_ ?_ ?_ ; omega; omega; (clear hc; intro hc; subst hc)) | (refine u64_k hc ?_ ?_ ?_ ; omega; omega; (clear hc; intro hc; subst hc)) | (refine u8_k hc ?_ ?_ ?_ ; omega; omega; (clear hc; intro hc; subst hc)) | subst hc | skip)) | (apply Exists.intro; apply And.intro; (focus (repeat (first | assumption | exact AH.set_same _ _ _ | ((first | refine AH.get_ne ?_ ?_ | refine AH.getd_ne ?_ ?_); (first | assumption | omega | exact Ne.symm (by assumption) | exact AH.ne_none (by assumption) (by assumption) | exact AH.none_ne (by assumption) (by assumption) | exact (AH.none_set (by assumption)).1 | exact Ne.symm (AH.none_set (by assumption)).1)))); done)) | (apply Exists.intro; apply And.intro; first | (with_reducible assumption) | ((try simp only [List.getElem?_drop, Nat.mul_one, Nat.add_zero, Nat.zero_add]); first | (with_reducible assumption) | (refine u8s_get ?_; omega) | (refine iS_get ?_; omega) | assumption | rfl | fail)) | (apply And.intro; (first | rfl | (with_reducible assumption) | exact Nat.le_of_ble_eq_true rfl | omega | (exact Int.ofNat_lt.2 (Nat.lt_of_lt_of_eq (by with_reducible assumption) (by decide +kernel))) | assumption | (simp <;> fail) | (simp <;> omega) | (focus (repeat' (first | exact one_u8s _ | exact one_iS _ _ | rfl | apply one_take | apply one_drop | apply one_append)); done) | fail)) | fail)) <;> (try (conv => whnf))
        exact ⟨AVle.refl _, HLe.del _ hcd.le hcd.hr⟩
  · have he : intsS l = ([], 4) := if_neg hlim
    rw [he]
    refine ACall_of tt_ok (dok _) Try.func21 rfl (by decide) rfl ?_
    (repeat' ((conv => whnf); first | refine Then.mk ?_ | left | refine OpsA.cons ?_ | refine OpsA.nil ?_ | refine AWq.seq ?_ | refine AWq.region ?_ | refine AWq.cond ?_ | refine AWq.block ?_ | refine AWq.skip ?_ | refine AWq.scope ?_ | refine AWq.label ?_ | refine AWq.ret ?_ | refine AWq.exit ?_ | refine AWq.loop ?_ | refine AWq.rangeFunc ?_ | refine DrawA.consD ?_ | refine DrawA.nil ?_ | refine DrawL.consD ?_ | refine DrawL.nil ?_ | refine DrawF.consD ?_ | refine DrawF.nil ?_ | refine AWq.draw (by decide +kernel) ?_ | (refine Both.mk ?_ ?_ <;> intro hc <;> (first | exact Bool.noConfusion hc | exact absurd (by with_reducible rfl) hc | exact (hc : False).elim | exact absurd (by assumption) hc | exact absurd hc (by assumption) | (exfalso; omega) | exact absurd hc (by decide) | skip)) | (intro c hc; (try (simp only [AH.none_iff] at hc; repeat (have hn := hc.1; replace hc := hc.2))); (first | (have hc2 := Eq.trans hc (by with_reducible assumption); clear hc; subst hc2) | (refine i64_k hc ?_ ?_ ?_ ; omega; omega; (clear hc; intro hc; subst hc)) | (refine u64_k hc ?_ ?_ ?_ ; omega; omega; (clear hc; intro hc; subst hc)) | (refine u8_k hc ?_ ?_ ?_ ; omega; omega; (clear hc; intro hc; subst hc)) | subst hc | skip)) | (apply Exists.intro; apply And.intro; (focus (repeat (first | assumption | exact AH.set_same _ _ _ | ((first | refine AH.get_ne ?_ ?_ | refine AH.getd_ne ?_ ?_); (first | assumption | omega | exact Ne.symm (by assumption) | exact AH.ne_none (by assumption) (by assumption) | exact AH.none_ne (by assumption) (by assumption) | exact (AH.none_set (by assumption)).1 | exact Ne.symm (AH.none_set (by assumption)).1)))); done)) | (apply Exists.intro; apply And.intro; first | (with_reducible assumption) | ((try simp only [List.getElem?_drop, Nat.mul_one, Nat.add_zero, Nat.zero_add]); first | (with_reducible assumption) | (refine u8s_get ?_; omega) | (refine iS_get ?_; omega) | assumption | rfl | fail)) | (apply And.intro; (first | rfl | (with_reducible assumption) | exact Nat.le_of_ble_eq_true rfl | omega | (exact Int.ofNat_lt.2 (Nat.lt_of_lt_of_eq (by with_reducible assumption) (by decide +kernel))) | assumption | (simp <;> fail) | (simp <;> omega) | (focus (repeat' (first | exact one_u8s _ | exact one_iS _ _ | rfl | apply one_take | apply one_drop | apply one_append)); done) | fail)) | fail)) <;> (try (conv => whnf))
    exact ⟨AVle.err, HLe.refl _⟩
end Go.Proofs.Ytgmooalikccbiaa
