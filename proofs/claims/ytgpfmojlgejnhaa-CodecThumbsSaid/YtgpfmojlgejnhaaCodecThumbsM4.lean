/- For the law CodecThumbs, part 4 of 8: the frame of the walk, the walks of the functions, the plain law, the row. No conditions. -/
import Derived.Test.YtgpfmojlgejnhaaCodecThumbsM3
/- The walk of Zigzag. -/
namespace Go.Proofs.Ytgpfmojlgejnhaa
open Go.Fw Go
set_option linter.unusedVariables false
set_option linter.unusedSimpArgs false

theorem zgz_len (S j : Nat) : (zgz S j).length ≤ 4 ^ j := by
  induction j with
  | zero => simp [zgz]
  | succ j ih =>
    have e : 4 ^ (j + 1) = 4 ^ j + 3 * (2 ^ j * 2 ^ j) := by
      rw [Nat.pow_succ, show (4 : Nat) ^ j = 2 ^ j * 2 ^ j by rw [← Nat.mul_pow]]; omega
    show (zgz S j ++ _ ++ _ ++ _).length ≤ _
    simp only [List.length_append, blkZ_len]
    omega

set_option maxRecDepth 8000 in
theorem zig_ok (K : Nat) (hK : K ≤ 4) (H : AH) : ACall Try.prog 62 [.int .i64 (2 ^ K : Nat)] H (fun y H' => y = resV (zgz (2 ^ K) K, 0) ∧ H' = H) := by
  have hS := (pow_side hK).2
  have ss := fun H => sides_c ((2 ^ K : Nat) : Int) (by omega) (by omega) H
  rw [decide_eq_true (pow_side hK).1] at ss
  refine ACall.told ?_
  refine ACall_of tt_ok (dok _) Try.func62 rfl (by decide) rfl ?_
  (repeat' ((conv => whnf); first | left | refine OpsA.cons ?_ | refine OpsA.nil ?_ | refine AWq.seq ?_ | refine AWq.region ?_ | refine AWq.cond ?_ | refine AWq.block ?_ | refine AWq.skip ?_ | refine AWq.ret ?_ | refine AWq.exit ?_ | refine AWq.loop ?_ | (refine Both.mk ?_ ?_ <;> intro hc <;> (first | exact Bool.noConfusion hc | exact absurd hc (by assumption) | (exfalso; omega) | skip)) | (intro c hc; (try (simp only [AH.none_iff] at hc; repeat (have hn := hc.1; replace hc := hc.2))); (first | (refine i64_k hc ?_ ?_ ?_ ; omega; omega; (clear hc; intro hc; subst hc)) | skip)) | (apply Exists.intro; apply And.intro; (first | (focus (repeat (first | (with_reducible assumption) | (with_reducible exact AH.set_same _ _ _) | ((first | refine AH.get_ne ?_ ?_); (first | (with_reducible assumption))))); done))) | (apply Exists.intro; apply And.intro; first | (with_reducible assumption) | ((try simp only [List.getElem?_drop, Nat.mul_one, Nat.add_zero, Nat.zero_add]); first | (with_reducible assumption) | rfl)) | (apply And.intro; (first | rfl | (with_reducible assumption) | exact Nat.le_of_ble_eq_true rfl | omega | (simp <;> fail))) | (refine ACall.to (ss _) ?_))) <;> (try (conv => whnf))
  refine Then.mk ?_
  (repeat' ((conv => whnf); first | left | refine OpsA.cons ?_ | refine OpsA.nil ?_ | refine AWq.seq ?_ | refine AWq.region ?_ | refine AWq.cond ?_ | refine AWq.block ?_ | refine AWq.skip ?_ | refine AWq.ret ?_ | refine AWq.exit ?_ | refine AWq.loop ?_ | (refine Both.mk ?_ ?_ <;> intro hc <;> (first | exact Bool.noConfusion hc | exact absurd hc (by assumption) | (exfalso; omega) | skip)) | (intro c hc; (try (simp only [AH.none_iff] at hc; repeat (have hn := hc.1; replace hc := hc.2))); (first | (refine i64_k hc ?_ ?_ ?_ ; omega; omega; (clear hc; intro hc; subst hc)) | skip)) | (apply Exists.intro; apply And.intro; (first | (focus (repeat (first | (with_reducible assumption) | (with_reducible exact AH.set_same _ _ _) | ((first | refine AH.get_ne ?_ ?_); (first | (with_reducible assumption))))); done))) | (apply Exists.intro; apply And.intro; first | (with_reducible assumption) | ((try simp only [List.getElem?_drop, Nat.mul_one, Nat.add_zero, Nat.zero_add]); first | (with_reducible assumption) | rfl)) | (apply And.intro; (first | rfl | (with_reducible assumption) | exact Nat.le_of_ble_eq_true rfl | omega | (simp <;> fail))) | (refine ACall.to (ss _) ?_))) <;> (try (conv => whnf))
  refine Then.mk ?_
  (repeat' ((conv => whnf); first | left | refine OpsA.cons ?_ | refine OpsA.nil ?_ | refine AWq.seq ?_ | refine AWq.region ?_ | refine AWq.cond ?_ | refine AWq.block ?_ | refine AWq.skip ?_ | refine AWq.ret ?_ | refine AWq.exit ?_ | refine AWq.loop ?_ | (refine Both.mk ?_ ?_ <;> intro hc <;> (first | exact Bool.noConfusion hc | exact absurd hc (by assumption) | (exfalso; omega) | skip)) | (intro c hc; (try (simp only [AH.none_iff] at hc; repeat (have hn := hc.1; replace hc := hc.2))); (first | (refine i64_k hc ?_ ?_ ?_ ; omega; omega; (clear hc; intro hc; subst hc)) | skip)) | (apply Exists.intro; apply And.intro; (first | (focus (repeat (first | (with_reducible assumption) | (with_reducible exact AH.set_same _ _ _) | ((first | refine AH.get_ne ?_ ?_); (first | (with_reducible assumption))))); done))) | (apply Exists.intro; apply And.intro; first | (with_reducible assumption) | ((try simp only [List.getElem?_drop, Nat.mul_one, Nat.add_zero, Nat.zero_add]); first | (with_reducible assumption) | rfl)) | (apply And.intro; (first | rfl | (with_reducible assumption) | exact Nat.le_of_ble_eq_true rfl | omega | (simp <;> fail))) | (refine ACall.to (ss _) ?_))) <;> (try (conv => whnf))
  refine Then.mk ?_
  (repeat' ((conv => whnf); first | refine Then.mk ?_ | refine Or.inr (Or.inl ?_) | refine OpsA.cons ?_ | refine OpsA.nil ?_ | refine AWq.seq ?_ | refine AWq.region ?_ | refine AWq.cond ?_ | refine AWq.block ?_ | refine AWq.skip ?_ | refine AWq.ret ?_ | refine AWq.exit ?_ | refine AWq.loop ?_ | (refine Both.mk ?_ ?_ <;> intro hc <;> (first | exact Bool.noConfusion hc | exact absurd hc (by assumption) | (exfalso; omega) | skip)) | (intro c hc; (try (simp only [AH.none_iff] at hc; repeat (have hn := hc.1; replace hc := hc.2))); (first | (refine i64_k hc ?_ ?_ ?_ ; omega; omega; (clear hc; intro hc; subst hc)) | skip)) | (apply Exists.intro; apply And.intro; (first | (focus (repeat (first | (with_reducible assumption) | (with_reducible exact AH.set_same _ _ _) | ((first | refine AH.get_ne ?_ ?_); (first | (with_reducible assumption))))); done))) | (apply Exists.intro; apply And.intro; first | (with_reducible assumption) | ((try simp only [List.getElem?_drop, Nat.mul_one, Nat.add_zero, Nat.zero_add]); first | (with_reducible assumption) | rfl)) | (apply And.intro; (first | rfl | (with_reducible assumption) | exact Nat.le_of_ble_eq_true rfl | omega | (simp <;> fail))))) <;> (try (conv => whnf))
  have hcc : H c = none := by assumption
  obtain ⟨q, hqq⟩ : ∃ q, q = c := ⟨_, rfl⟩
  rw [← hqq] at hcc ⊢
  clear hqq
  obtain ⟨S, hSS⟩ : ∃ S, S = 2 ^ K := ⟨_, rfl⟩
  rw [← hSS] at hS ⊢
  refine AWp_loop (σ := Nat × Nat) (4 :: 5 :: 7 :: 8 :: 9 :: 14 :: 15 :: 16 :: 17 :: 18 :: 19 :: 20 :: 21 :: 22 :: 23 :: 24 :: 25 :: 26 :: 27 :: 28 :: 29 :: 30 :: 31 :: 32 :: 33 :: 34 :: 35 :: 36 :: 37 :: 38 :: 39 :: 40 :: 41 :: 42 :: 43 :: 44 :: 45 :: 46 :: 47 :: 48 :: 49 :: 50 :: 51 :: 52 :: 53 :: 54 :: 55 :: 56 :: []) (fun (j, v) => [(5, .int .i64 (2 ^ j : Nat)), (4, .sl q v 1 0 (zgz S j).length none)]) (fun (j, v) => AH.set H q (.row (iS .i64 (zgz S j)) v)) (fun (j, v) => j ≤ K) (fun (j, v) => K - j) (0, 0) rfl ?_ ?_ ?_ ?_
  · exact Nat.zero_le _
  · exact ⟨rfl, rfl, trivial⟩
  · exact HLe.refl _
  · rintro ⟨j, v⟩ hj
    dsimp only at hj ⊢
    refine AWp.of tt_ok (dok _) rfl ?_
    by_cases hjK : j < K
    · have hP1 : 1 ≤ 2 ^ j := Nat.one_le_two_pow
      have hPS : 2 ^ (j + 1) ≤ S := by rw [hSS]; exact Nat.pow_le_pow_right (by omega) hjK
      rw [pow_half] at hPS
      have hzl := zgz_len S j
      have h4 : 4 ^ j ≤ 4 ^ 3 := Nat.pow_le_pow_right (by omega) (by omega)
      have hzs : zgz S (j + 1) = zgz S j ++ blkZ S (2 ^ j) (0, 2 ^ j) (2 ^ j) ++ blkZ S (2 ^ j) (2 ^ j, 0) (2 ^ j) ++ blkZ S (2 ^ j) (2 ^ j, 2 ^ j) (2 ^ j) := rfl
      have hpw : ((2 ^ (j + 1) : Nat) : Int) = ((2 ^ j : Nat) : Int) * 2 := by rw [pow_half]; omega
      obtain ⟨P, hP⟩ : ∃ P, P = 2 ^ j := ⟨_, rfl⟩
      rw [← hP] at hP1 hPS hzs hpw ⊢
      obtain ⟨Z, hZ⟩ : ∃ Z, Z = zgz S j := ⟨_, rfl⟩
      rw [← hZ] at hzl hzs ⊢
      (repeat' ((conv => whnf); first | refine Then.mk ?_ | left | refine OpsA.cons ?_ | refine OpsA.nil ?_ | refine AWq.seq ?_ | refine AWq.region ?_ | refine AWq.cond ?_ | refine AWq.block ?_ | refine AWq.skip ?_ | refine AWq.ret ?_ | refine AWq.exit ?_ | refine AWq.loop ?_ | (refine Both.mk ?_ ?_ <;> intro hc <;> (first | exact Bool.noConfusion hc | exact absurd hc (by assumption) | (exfalso; omega) | skip)) | (intro c hc; (try (simp only [AH.none_iff] at hc; repeat (have hn := hc.1; replace hc := hc.2))); (first | (refine i64_k hc ?_ ?_ ?_ ; omega; omega; (clear hc; intro hc; subst hc)) | skip)) | (apply Exists.intro; apply And.intro; (first | (focus (repeat (first | (with_reducible assumption) | (with_reducible exact AH.set_same _ _ _) | ((first | refine AH.get_ne ?_ ?_); (first | (with_reducible assumption))))); done))) | (apply Exists.intro; apply And.intro; first | (with_reducible assumption) | ((try simp only [List.getElem?_drop, Nat.mul_one, Nat.add_zero, Nat.zero_add]); first | (with_reducible assumption) | rfl)) | (apply And.intro; (first | rfl | (with_reducible assumption) | exact Nat.le_of_ble_eq_true rfl | omega | (simp <;> fail))))) <;> (try (conv => whnf))
      have hbl0 := blkZ_len S P P (0, P)
      have hPP : P * P ≤ 64 := Nat.mul_le_mul (show P ≤ 8 by omega) (show P ≤ 8 by omega)
      obtain ⟨Lx, hLx⟩ : ∃ Lx : Nat → List Int, Lx = fun x => if x = 0 then Z else if x = 1 then Z ++ blkZ S P (0, P) P else if x = 2 then Z ++ blkZ S P (0, P) P ++ blkZ S P (P, 0) P else Z ++ blkZ S P (0, P) P ++ blkZ S P (P, 0) P ++ blkZ S P (P, P) P := ⟨_, rfl⟩
      have x0 : Lx 0 = Z := by rw [hLx]; rfl
      have x1 : Lx 1 = Z ++ blkZ S P (0, P) P := by rw [hLx]; rfl
      have x2 : Lx 2 = Z ++ blkZ S P (0, P) P ++ blkZ S P (P, 0) P := by rw [hLx]; rfl
      have x3 : Lx 3 = Z ++ blkZ S P (0, P) P ++ blkZ S P (P, 0) P ++ blkZ S P (P, P) P := by rw [hLx]; rfl
      clear hLx
      refine AWp_loop (σ := Nat × Nat) (4 :: 7 :: 8 :: 9 :: 28 :: 29 :: 30 :: 31 :: 32 :: 33 :: 34 :: 35 :: 36 :: 37 :: 38 :: 39 :: 40 :: 41 :: 42 :: 43 :: 44 :: 45 :: 46 :: 47 :: 48 :: 49 :: 50 :: 51 :: 52 :: 53 :: 54 :: 55 :: 56 :: []) (fun (x, v) => [(28, .int .i64 x), (4, .sl q v 1 0 (Lx x).length none)]) (fun (x, v) => AH.set H q (.row (iS .i64 (Lx x)) v)) (fun (x, v) => x ≤ 3) (fun (x, v) => 3 - x) (0, v) rfl ?_ ?_ ?_ ?_
      · exact Nat.zero_le _
      · exact ⟨rfl, by show AV.sl q v 1 0 Z.length none = AV.sl q v 1 0 (Lx 0).length none; rw [x0], trivial⟩
      · refine HLe.of_eq ?_
        show AH.set H q (.row (iS .i64 (Lx 0)) v) = _
        rw [x0]
      · rintro ⟨x, v⟩ hx
        dsimp only at hx ⊢
        refine AWp.of tt_ok (dok _) rfl ?_
        rcases (show x = 0 ∨ x = 1 ∨ x = 2 ∨ x = 3 by omega) with rfl | rfl | rfl | rfl
        · (repeat' ((conv => whnf); first | refine Then.mk ?_ | left | refine OpsA.cons ?_ | refine OpsA.nil ?_ | refine AWq.seq ?_ | refine AWq.region ?_ | refine AWq.cond ?_ | refine AWq.block ?_ | refine AWq.skip ?_ | refine AWq.ret ?_ | refine AWq.exit ?_ | refine AWq.loop ?_ | (refine Both.mk ?_ ?_ <;> intro hc <;> (first | exact Bool.noConfusion hc | exact absurd hc (by assumption) | (exfalso; omega) | skip)) | (intro c hc; (try (simp only [AH.none_iff] at hc; repeat (have hn := hc.1; replace hc := hc.2))); (first | (refine i64_k hc ?_ ?_ ?_ ; omega; omega; (clear hc; intro hc; subst hc)) | skip)) | (apply Exists.intro; apply And.intro; (first | (focus (repeat (first | (with_reducible assumption) | (with_reducible exact AH.set_same _ _ _) | ((first | refine AH.get_ne ?_ ?_); (first | (with_reducible assumption))))); done))) | (apply Exists.intro; apply And.intro; first | (with_reducible assumption) | ((try simp only [List.getElem?_drop, Nat.mul_one, Nat.add_zero, Nat.zero_add]); first | (with_reducible assumption) | rfl)) | (apply And.intro; (first | rfl | (with_reducible assumption) | exact Nat.le_of_ble_eq_true rfl | omega | (simp <;> fail))))) <;> (try (conv => whnf))
          have hc1 : H c = none := by assumption
          have hcq : c ≠ q := by assumption
          obtain ⟨w, hw⟩ : ∃ w, w = c := ⟨_, rfl⟩
          rw [← hw] at hc1 hcq ⊢
          clear hw
          have hqw : q ≠ w := Ne.symm hcq
          obtain ⟨L, hL⟩ : ∃ L, L = Lx 0 := ⟨_, rfl⟩
          have hLl : L.length ≤ 600 := by rw [hL, x0]; (try simp only [List.length_append, blkZ_len]); omega
          have hres : Lx 1 = L ++ blkZ S P (0, P) P := by rw [hL, x0, x1]
          rw [← hL]
          refine AWp_loop (σ := Nat × Nat) (4 :: 8 :: 9 :: 33 :: 34 :: 35 :: 36 :: 37 :: 38 :: 39 :: 40 :: 41 :: 42 :: 43 :: 44 :: 45 :: 46 :: 47 :: 48 :: 49 :: 50 :: 51 :: 52 :: 53 :: 54 :: 55 :: []) (fun (i, v) => [(33, .int .i64 i), (4, .sl q v 1 0 (L ++ blkZ S P (0, P) i).length none)]) (fun (i, v) => (AH.set H w (.row [.int .i64 0, .int .i64 (P : Int)] 0)).set q (.row (iS .i64 (L ++ blkZ S P (0, P) i)) v)) (fun (i, v) => i ≤ P) (fun (i, v) => P - i) (0, v) rfl ?_ ?_ ?_ ?_
          · exact Nat.zero_le _
          · exact ⟨rfl, by show AV.sl q v 1 0 L.length none = AV.sl q v 1 0 (L ++ blkZ S P (0, P) 0).length none; rw [show blkZ S P (0, P) 0 = [] from rfl, List.append_nil], trivial⟩
          · refine HLe.of_eq ?_
            show (AH.set H w _).set q (.row (iS .i64 (L ++ blkZ S P (0, P) 0)) v) = _
            rw [show blkZ S P (0, P) 0 = [] from rfl, List.append_nil]
            ((funext s; simp only [AH.set, AH.del]; repeat' split) <;> (first | rfl | (exfalso; omega)))
          · rintro ⟨i, v⟩ hi
            dsimp only at hi ⊢
            refine AWp.of tt_ok (dok _) rfl ?_
            by_cases hiP : i < P
            · (repeat' ((conv => whnf); first | refine Then.mk ?_ | left | refine OpsA.cons ?_ | refine OpsA.nil ?_ | refine AWq.seq ?_ | refine AWq.region ?_ | refine AWq.cond ?_ | refine AWq.block ?_ | refine AWq.skip ?_ | refine AWq.ret ?_ | refine AWq.exit ?_ | refine AWq.loop ?_ | (refine Both.mk ?_ ?_ <;> intro hc <;> (first | exact Bool.noConfusion hc | exact absurd hc (by assumption) | (exfalso; omega) | skip)) | (intro c hc; (try (simp only [AH.none_iff] at hc; repeat (have hn := hc.1; replace hc := hc.2))); (first | (refine i64_k hc ?_ ?_ ?_ ; omega; omega; (clear hc; intro hc; subst hc)) | skip)) | (apply Exists.intro; apply And.intro; (first | (focus (repeat (first | (with_reducible assumption) | (with_reducible exact AH.set_same _ _ _) | ((first | refine AH.get_ne ?_ ?_); (first | (with_reducible assumption))))); done))) | (apply Exists.intro; apply And.intro; first | (with_reducible assumption) | ((try simp only [List.getElem?_drop, Nat.mul_one, Nat.add_zero, Nat.zero_add]); first | (with_reducible assumption) | rfl)) | (apply And.intro; (first | rfl | (with_reducible assumption) | exact Nat.le_of_ble_eq_true rfl | omega | (simp <;> fail))))) <;> (try (conv => whnf))
              have hbs := blkZ_succ S P i (0, P)
              have hbl := blkZ_len S P i (0, P)
              have hb2 : i * P ≤ 64 := Nat.mul_le_mul (show i ≤ 8 by omega) (show P ≤ 8 by omega)
              obtain ⟨D, hD⟩ : ∃ D, D = L ++ blkZ S P (0, P) i := ⟨_, rfl⟩
              have hDl : D.length ≤ 700 := by rw [hD, List.length_append]; omega
              have hDn : L ++ blkZ S P (0, P) (i + 1) = D ++ lineZ S P (0, P) i := by rw [hbs, hD, List.append_assoc]
              rw [← hD]
              have m0 : 0 ≤ ((0 : Int) + i) * S := Int.mul_nonneg (by omega) (by omega)
              have m2 : ((0 : Int) + i) * S = (((0 + i) * S : Nat) : Int) := by rw [Int.natCast_mul]; rfl
              have m1 : (0 + i) * S ≤ 256 := Nat.mul_le_mul (show 0 + i ≤ 16 by omega) (show S ≤ 16 by omega)
              refine AWp_loop (σ := Nat × Nat) (4 :: 9 :: 37 :: 38 :: 39 :: 40 :: 41 :: 42 :: 43 :: 44 :: 45 :: 46 :: 47 :: 48 :: 49 :: 50 :: 51 :: 52 :: 53 :: 54 :: []) (fun (k, v) => [(37, .int .i64 k), (4, .sl q v 1 0 (D ++ (List.range k).map (cellZ S (0, P) i)).length none)]) (fun (k, v) => (AH.set H w (.row [.int .i64 0, .int .i64 (P : Int)] 0)).set q (.row (iS .i64 (D ++ (List.range k).map (cellZ S (0, P) i))) v)) (fun (k, v) => k ≤ P) (fun (k, v) => P - k) (0, v) rfl ?_ ?_ ?_ ?_
              · exact Nat.zero_le _
              · exact ⟨rfl, by show AV.sl q v 1 0 D.length none = AV.sl q v 1 0 (D ++ []).length none; rw [List.append_nil], trivial⟩
              · refine HLe.of_eq ?_
                show (AH.set H w _).set q (.row (iS .i64 (D ++ [])) v) = _
                rw [List.append_nil]
              · rintro ⟨k, v⟩ hk
                dsimp only at hk ⊢
                refine AWp.of tt_ok (dok _) rfl ?_
                have hEl : (D ++ (List.range k).map (cellZ S (0, P) i)).length ≤ 800 := by simp; omega
                by_cases hkP : k < P
                · have hls := lineZ_succ S k (0, P) i
                  obtain ⟨E, hE⟩ : ∃ E, E = D ++ (List.range k).map (cellZ S (0, P) i) := ⟨_, rfl⟩
                  have hEn : D ++ (List.range (k + 1)).map (cellZ S (0, P) i) = E ++ [cellZ S (0, P) i k] := by rw [hls, hE, List.append_assoc]
                  rw [← hE] at hEl ⊢
                  have hcell : cellZ S (0, P) i k = ((0 : Int) + i) * S + (P : Int) + k := by rw [m2]; show (((0 + i) * S + P + k : Nat) : Int) = _; generalize (0 + i) * S = W; omega
                  (repeat' ((conv => whnf); first | refine Then.mk ?_ | left | refine OpsA.cons ?_ | refine OpsA.nil ?_ | refine AWq.seq ?_ | refine AWq.region ?_ | refine AWq.cond ?_ | refine AWq.block ?_ | refine AWq.skip ?_ | refine AWq.ret ?_ | refine AWq.exit ?_ | refine AWq.loop ?_ | (refine Both.mk ?_ ?_ <;> intro hc <;> (first | exact Bool.noConfusion hc | exact absurd hc (by assumption) | (exfalso; omega) | skip)) | (intro c hc; (try (simp only [AH.none_iff] at hc; repeat (have hn := hc.1; replace hc := hc.2))); (first | (refine i64_k hc ?_ ?_ ?_ ; omega; omega; (clear hc; intro hc; subst hc)) | skip)) | (apply Exists.intro; apply And.intro; (first | (focus (repeat (first | (with_reducible assumption) | (with_reducible exact AH.set_same _ _ _) | ((first | refine AH.get_ne ?_ ?_); (first | (with_reducible assumption))))); done))) | (apply Exists.intro; apply And.intro; first | (with_reducible assumption) | ((try simp only [List.getElem?_drop, Nat.mul_one, Nat.add_zero, Nat.zero_add]); first | (with_reducible assumption) | rfl)) | (apply And.intro; (first | rfl | (with_reducible assumption) | exact Nat.le_of_ble_eq_true rfl | omega | (simp <;> fail))))) <;> (try (conv => whnf))
                  refine ⟨(k + 1, v + 1), by show k + 1 ≤ P; omega, by show P - (k + 1) < P - k; omega, ⟨congrArg (AV.int .i64) (by omega), ?_, trivial⟩, HLe.of_eq ?_⟩
                  · show AV.sl q (v + 1) 1 0 (E.length + 1) none = AV.sl q (v + 1) 1 0 (D ++ (List.range (k + 1)).map (cellZ S (0, P) i)).length none
                    rw [hEn, List.length_append]; rfl
                  · show (AH.set H w _).set q (.row (iS .i64 (D ++ (List.range (k + 1)).map (cellZ S (0, P) i))) (v + 1)) = _
                    rw [hEn, ← iS_snoc, hcell]
                    exact (AH.set_set _ _ _ _).symm
                · have hkE : k = P := by omega
                  (repeat' ((conv => whnf); first | refine Then.mk ?_ | left | refine OpsA.cons ?_ | refine OpsA.nil ?_ | refine AWq.seq ?_ | refine AWq.region ?_ | refine AWq.cond ?_ | refine AWq.block ?_ | refine AWq.skip ?_ | refine AWq.ret ?_ | refine AWq.exit ?_ | refine AWq.loop ?_ | (refine Both.mk ?_ ?_ <;> intro hc <;> (first | exact Bool.noConfusion hc | exact absurd hc (by assumption) | (exfalso; omega) | skip)) | (intro c hc; (try (simp only [AH.none_iff] at hc; repeat (have hn := hc.1; replace hc := hc.2))); (first | (refine i64_k hc ?_ ?_ ?_ ; omega; omega; (clear hc; intro hc; subst hc)) | skip)) | (apply Exists.intro; apply And.intro; (first | (focus (repeat (first | (with_reducible assumption) | (with_reducible exact AH.set_same _ _ _) | ((first | refine AH.get_ne ?_ ?_); (first | (with_reducible assumption))))); done))) | (apply Exists.intro; apply And.intro; first | (with_reducible assumption) | ((try simp only [List.getElem?_drop, Nat.mul_one, Nat.add_zero, Nat.zero_add]); first | (with_reducible assumption) | rfl)) | (apply And.intro; (first | rfl | (with_reducible assumption) | exact Nat.le_of_ble_eq_true rfl | omega | (simp <;> fail))))) <;> (try (conv => whnf))
                  have hfin : D ++ (List.range k).map (cellZ S (0, P) i) = L ++ blkZ S P (0, P) (i + 1) := by rw [hDn, hkE]; rfl
                  refine ⟨(i + 1, v), by show i + 1 ≤ P; omega, by show P - (i + 1) < P - i; omega, ⟨congrArg (AV.int .i64) (by omega), ?_, trivial⟩, HLe.of_eq ?_⟩
                  · rw [← hfin]; rfl
                  · show (AH.set H w _).set q (.row (iS .i64 (L ++ blkZ S P (0, P) (i + 1))) v) = _
                    rw [← hfin]
            · have hiE : i = P := by omega
              (repeat' ((conv => whnf); first | refine Then.mk ?_ | left | refine OpsA.cons ?_ | refine OpsA.nil ?_ | refine AWq.seq ?_ | refine AWq.region ?_ | refine AWq.cond ?_ | refine AWq.block ?_ | refine AWq.skip ?_ | refine AWq.ret ?_ | refine AWq.exit ?_ | refine AWq.loop ?_ | (refine Both.mk ?_ ?_ <;> intro hc <;> (first | exact Bool.noConfusion hc | exact absurd hc (by assumption) | (exfalso; omega) | skip)) | (intro c hc; (try (simp only [AH.none_iff] at hc; repeat (have hn := hc.1; replace hc := hc.2))); (first | (refine i64_k hc ?_ ?_ ?_ ; omega; omega; (clear hc; intro hc; subst hc)) | skip)) | (apply Exists.intro; apply And.intro; (first | (focus (repeat (first | (with_reducible assumption) | (with_reducible exact AH.set_same _ _ _) | ((first | refine AH.get_ne ?_ ?_); (first | (with_reducible assumption))))); done))) | (apply Exists.intro; apply And.intro; first | (with_reducible assumption) | ((try simp only [List.getElem?_drop, Nat.mul_one, Nat.add_zero, Nat.zero_add]); first | (with_reducible assumption) | rfl)) | (apply And.intro; (first | rfl | (with_reducible assumption) | exact Nat.le_of_ble_eq_true rfl | omega | (simp <;> fail))))) <;> (try (conv => whnf))
              refine ⟨(1, v), by show 1 ≤ 3; omega, by show 3 - 1 < 3 - 0; omega, ⟨rfl, ?_, trivial⟩, ?_⟩
              · show AV.sl q v 1 0 (L ++ blkZ S P (0, P) i).length none = AV.sl q v 1 0 (Lx 1).length none
                rw [hres, hiE]
              · show HLe (AH.set H q (.row (iS .i64 (Lx 1)) v)) _
                rw [hres, hiE]
                exact HLe.set (HLe.fresh _ hc1) _ _
        · (repeat' ((conv => whnf); first | refine Then.mk ?_ | left | refine OpsA.cons ?_ | refine OpsA.nil ?_ | refine AWq.seq ?_ | refine AWq.region ?_ | refine AWq.cond ?_ | refine AWq.block ?_ | refine AWq.skip ?_ | refine AWq.ret ?_ | refine AWq.exit ?_ | refine AWq.loop ?_ | (refine Both.mk ?_ ?_ <;> intro hc <;> (first | exact Bool.noConfusion hc | exact absurd hc (by assumption) | (exfalso; omega) | skip)) | (intro c hc; (try (simp only [AH.none_iff] at hc; repeat (have hn := hc.1; replace hc := hc.2))); (first | (refine i64_k hc ?_ ?_ ?_ ; omega; omega; (clear hc; intro hc; subst hc)) | skip)) | (apply Exists.intro; apply And.intro; (first | (focus (repeat (first | (with_reducible assumption) | (with_reducible exact AH.set_same _ _ _) | ((first | refine AH.get_ne ?_ ?_); (first | (with_reducible assumption))))); done))) | (apply Exists.intro; apply And.intro; first | (with_reducible assumption) | ((try simp only [List.getElem?_drop, Nat.mul_one, Nat.add_zero, Nat.zero_add]); first | (with_reducible assumption) | rfl)) | (apply And.intro; (first | rfl | (with_reducible assumption) | exact Nat.le_of_ble_eq_true rfl | omega | (simp <;> fail))))) <;> (try (conv => whnf))
          have hc1 : H c = none := by assumption
          have hcq : c ≠ q := by assumption
          obtain ⟨w, hw⟩ : ∃ w, w = c := ⟨_, rfl⟩
          rw [← hw] at hc1 hcq ⊢
          clear hw
          have hqw : q ≠ w := Ne.symm hcq
          obtain ⟨L, hL⟩ : ∃ L, L = Lx 1 := ⟨_, rfl⟩
          have hLl : L.length ≤ 600 := by rw [hL, x1]; (try simp only [List.length_append, blkZ_len]); omega
          have hres : Lx 2 = L ++ blkZ S P (P, 0) P := by rw [hL, x1, x2]
          rw [← hL]
          refine AWp_loop (σ := Nat × Nat) (4 :: 8 :: 9 :: 33 :: 34 :: 35 :: 36 :: 37 :: 38 :: 39 :: 40 :: 41 :: 42 :: 43 :: 44 :: 45 :: 46 :: 47 :: 48 :: 49 :: 50 :: 51 :: 52 :: 53 :: 54 :: 55 :: []) (fun (i, v) => [(33, .int .i64 i), (4, .sl q v 1 0 (L ++ blkZ S P (P, 0) i).length none)]) (fun (i, v) => (AH.set H w (.row [.int .i64 (P : Int), .int .i64 0] 0)).set q (.row (iS .i64 (L ++ blkZ S P (P, 0) i)) v)) (fun (i, v) => i ≤ P) (fun (i, v) => P - i) (0, v) rfl ?_ ?_ ?_ ?_
          · exact Nat.zero_le _
          · exact ⟨rfl, by show AV.sl q v 1 0 L.length none = AV.sl q v 1 0 (L ++ blkZ S P (P, 0) 0).length none; rw [show blkZ S P (P, 0) 0 = [] from rfl, List.append_nil], trivial⟩
          · refine HLe.of_eq ?_
            show (AH.set H w _).set q (.row (iS .i64 (L ++ blkZ S P (P, 0) 0)) v) = _
            rw [show blkZ S P (P, 0) 0 = [] from rfl, List.append_nil]
            ((funext s; simp only [AH.set, AH.del]; repeat' split) <;> (first | rfl | (exfalso; omega)))
          · rintro ⟨i, v⟩ hi
            dsimp only at hi ⊢
            refine AWp.of tt_ok (dok _) rfl ?_
            by_cases hiP : i < P
            · (repeat' ((conv => whnf); first | refine Then.mk ?_ | left | refine OpsA.cons ?_ | refine OpsA.nil ?_ | refine AWq.seq ?_ | refine AWq.region ?_ | refine AWq.cond ?_ | refine AWq.block ?_ | refine AWq.skip ?_ | refine AWq.ret ?_ | refine AWq.exit ?_ | refine AWq.loop ?_ | (refine Both.mk ?_ ?_ <;> intro hc <;> (first | exact Bool.noConfusion hc | exact absurd hc (by assumption) | (exfalso; omega) | skip)) | (intro c hc; (try (simp only [AH.none_iff] at hc; repeat (have hn := hc.1; replace hc := hc.2))); (first | (refine i64_k hc ?_ ?_ ?_ ; omega; omega; (clear hc; intro hc; subst hc)) | skip)) | (apply Exists.intro; apply And.intro; (first | (focus (repeat (first | (with_reducible assumption) | (with_reducible exact AH.set_same _ _ _) | ((first | refine AH.get_ne ?_ ?_); (first | (with_reducible assumption))))); done))) | (apply Exists.intro; apply And.intro; first | (with_reducible assumption) | ((try simp only [List.getElem?_drop, Nat.mul_one, Nat.add_zero, Nat.zero_add]); first | (with_reducible assumption) | rfl)) | (apply And.intro; (first | rfl | (with_reducible assumption) | exact Nat.le_of_ble_eq_true rfl | omega | (simp <;> fail))))) <;> (try (conv => whnf))
              have hbs := blkZ_succ S P i (P, 0)
              have hbl := blkZ_len S P i (P, 0)
              have hb2 : i * P ≤ 64 := Nat.mul_le_mul (show i ≤ 8 by omega) (show P ≤ 8 by omega)
              obtain ⟨D, hD⟩ : ∃ D, D = L ++ blkZ S P (P, 0) i := ⟨_, rfl⟩
              have hDl : D.length ≤ 700 := by rw [hD, List.length_append]; omega
              have hDn : L ++ blkZ S P (P, 0) (i + 1) = D ++ lineZ S P (P, 0) i := by rw [hbs, hD, List.append_assoc]
              rw [← hD]
              have m0 : 0 ≤ (((P : Int) : Int) + i) * S := Int.mul_nonneg (by omega) (by omega)
              have m2 : (((P : Int) : Int) + i) * S = (((P + i) * S : Nat) : Int) := by rw [Int.natCast_mul]; rfl
              have m1 : (P + i) * S ≤ 256 := Nat.mul_le_mul (show P + i ≤ 16 by omega) (show S ≤ 16 by omega)
              refine AWp_loop (σ := Nat × Nat) (4 :: 9 :: 37 :: 38 :: 39 :: 40 :: 41 :: 42 :: 43 :: 44 :: 45 :: 46 :: 47 :: 48 :: 49 :: 50 :: 51 :: 52 :: 53 :: 54 :: []) (fun (k, v) => [(37, .int .i64 k), (4, .sl q v 1 0 (D ++ (List.range k).map (cellZ S (P, 0) i)).length none)]) (fun (k, v) => (AH.set H w (.row [.int .i64 (P : Int), .int .i64 0] 0)).set q (.row (iS .i64 (D ++ (List.range k).map (cellZ S (P, 0) i))) v)) (fun (k, v) => k ≤ P) (fun (k, v) => P - k) (0, v) rfl ?_ ?_ ?_ ?_
              · exact Nat.zero_le _
              · exact ⟨rfl, by show AV.sl q v 1 0 D.length none = AV.sl q v 1 0 (D ++ []).length none; rw [List.append_nil], trivial⟩
              · refine HLe.of_eq ?_
                show (AH.set H w _).set q (.row (iS .i64 (D ++ [])) v) = _
                rw [List.append_nil]
              · rintro ⟨k, v⟩ hk
                dsimp only at hk ⊢
                refine AWp.of tt_ok (dok _) rfl ?_
                have hEl : (D ++ (List.range k).map (cellZ S (P, 0) i)).length ≤ 800 := by simp; omega
                by_cases hkP : k < P
                · have hls := lineZ_succ S k (P, 0) i
                  obtain ⟨E, hE⟩ : ∃ E, E = D ++ (List.range k).map (cellZ S (P, 0) i) := ⟨_, rfl⟩
                  have hEn : D ++ (List.range (k + 1)).map (cellZ S (P, 0) i) = E ++ [cellZ S (P, 0) i k] := by rw [hls, hE, List.append_assoc]
                  rw [← hE] at hEl ⊢
                  have hcell : cellZ S (P, 0) i k = (((P : Int) : Int) + i) * S + 0 + k := by rw [m2]; show (((P + i) * S + 0 + k : Nat) : Int) = _; generalize (P + i) * S = W; omega
                  (repeat' ((conv => whnf); first | refine Then.mk ?_ | left | refine OpsA.cons ?_ | refine OpsA.nil ?_ | refine AWq.seq ?_ | refine AWq.region ?_ | refine AWq.cond ?_ | refine AWq.block ?_ | refine AWq.skip ?_ | refine AWq.ret ?_ | refine AWq.exit ?_ | refine AWq.loop ?_ | (refine Both.mk ?_ ?_ <;> intro hc <;> (first | exact Bool.noConfusion hc | exact absurd hc (by assumption) | (exfalso; omega) | skip)) | (intro c hc; (try (simp only [AH.none_iff] at hc; repeat (have hn := hc.1; replace hc := hc.2))); (first | (refine i64_k hc ?_ ?_ ?_ ; omega; omega; (clear hc; intro hc; subst hc)) | skip)) | (apply Exists.intro; apply And.intro; (first | (focus (repeat (first | (with_reducible assumption) | (with_reducible exact AH.set_same _ _ _) | ((first | refine AH.get_ne ?_ ?_); (first | (with_reducible assumption))))); done))) | (apply Exists.intro; apply And.intro; first | (with_reducible assumption) | ((try simp only [List.getElem?_drop, Nat.mul_one, Nat.add_zero, Nat.zero_add]); first | (with_reducible assumption) | rfl)) | (apply And.intro; (first | rfl | (with_reducible assumption) | exact Nat.le_of_ble_eq_true rfl | omega | (simp <;> fail))))) <;> (try (conv => whnf))
                  refine ⟨(k + 1, v + 1), by show k + 1 ≤ P; omega, by show P - (k + 1) < P - k; omega, ⟨congrArg (AV.int .i64) (by omega), ?_, trivial⟩, HLe.of_eq ?_⟩
                  · show AV.sl q (v + 1) 1 0 (E.length + 1) none = AV.sl q (v + 1) 1 0 (D ++ (List.range (k + 1)).map (cellZ S (P, 0) i)).length none
                    rw [hEn, List.length_append]; rfl
                  · show (AH.set H w _).set q (.row (iS .i64 (D ++ (List.range (k + 1)).map (cellZ S (P, 0) i))) (v + 1)) = _
                    rw [hEn, ← iS_snoc, hcell]
                    exact (AH.set_set _ _ _ _).symm
                · have hkE : k = P := by omega
                  (repeat' ((conv => whnf); first | refine Then.mk ?_ | left | refine OpsA.cons ?_ | refine OpsA.nil ?_ | refine AWq.seq ?_ | refine AWq.region ?_ | refine AWq.cond ?_ | refine AWq.block ?_ | refine AWq.skip ?_ | refine AWq.ret ?_ | refine AWq.exit ?_ | refine AWq.loop ?_ | (refine Both.mk ?_ ?_ <;> intro hc <;> (first | exact Bool.noConfusion hc | exact absurd hc (by assumption) | (exfalso; omega) | skip)) | (intro c hc; (try (simp only [AH.none_iff] at hc; repeat (have hn := hc.1; replace hc := hc.2))); (first | (refine i64_k hc ?_ ?_ ?_ ; omega; omega; (clear hc; intro hc; subst hc)) | skip)) | (apply Exists.intro; apply And.intro; (first | (focus (repeat (first | (with_reducible assumption) | (with_reducible exact AH.set_same _ _ _) | ((first | refine AH.get_ne ?_ ?_); (first | (with_reducible assumption))))); done))) | (apply Exists.intro; apply And.intro; first | (with_reducible assumption) | ((try simp only [List.getElem?_drop, Nat.mul_one, Nat.add_zero, Nat.zero_add]); first | (with_reducible assumption) | rfl)) | (apply And.intro; (first | rfl | (with_reducible assumption) | exact Nat.le_of_ble_eq_true rfl | omega | (simp <;> fail))))) <;> (try (conv => whnf))
                  have hfin : D ++ (List.range k).map (cellZ S (P, 0) i) = L ++ blkZ S P (P, 0) (i + 1) := by rw [hDn, hkE]; rfl
                  refine ⟨(i + 1, v), by show i + 1 ≤ P; omega, by show P - (i + 1) < P - i; omega, ⟨congrArg (AV.int .i64) (by omega), ?_, trivial⟩, HLe.of_eq ?_⟩
                  · rw [← hfin]; rfl
                  · show (AH.set H w _).set q (.row (iS .i64 (L ++ blkZ S P (P, 0) (i + 1))) v) = _
                    rw [← hfin]
            · have hiE : i = P := by omega
              (repeat' ((conv => whnf); first | refine Then.mk ?_ | left | refine OpsA.cons ?_ | refine OpsA.nil ?_ | refine AWq.seq ?_ | refine AWq.region ?_ | refine AWq.cond ?_ | refine AWq.block ?_ | refine AWq.skip ?_ | refine AWq.ret ?_ | refine AWq.exit ?_ | refine AWq.loop ?_ | (refine Both.mk ?_ ?_ <;> intro hc <;> (first | exact Bool.noConfusion hc | exact absurd hc (by assumption) | (exfalso; omega) | skip)) | (intro c hc; (try (simp only [AH.none_iff] at hc; repeat (have hn := hc.1; replace hc := hc.2))); (first | (refine i64_k hc ?_ ?_ ?_ ; omega; omega; (clear hc; intro hc; subst hc)) | skip)) | (apply Exists.intro; apply And.intro; (first | (focus (repeat (first | (with_reducible assumption) | (with_reducible exact AH.set_same _ _ _) | ((first | refine AH.get_ne ?_ ?_); (first | (with_reducible assumption))))); done))) | (apply Exists.intro; apply And.intro; first | (with_reducible assumption) | ((try simp only [List.getElem?_drop, Nat.mul_one, Nat.add_zero, Nat.zero_add]); first | (with_reducible assumption) | rfl)) | (apply And.intro; (first | rfl | (with_reducible assumption) | exact Nat.le_of_ble_eq_true rfl | omega | (simp <;> fail))))) <;> (try (conv => whnf))
              refine ⟨(2, v), by show 2 ≤ 3; omega, by show 3 - 2 < 3 - 1; omega, ⟨rfl, ?_, trivial⟩, ?_⟩
              · show AV.sl q v 1 0 (L ++ blkZ S P (P, 0) i).length none = AV.sl q v 1 0 (Lx 2).length none
                rw [hres, hiE]
              · show HLe (AH.set H q (.row (iS .i64 (Lx 2)) v)) _
                rw [hres, hiE]
                exact HLe.set (HLe.fresh _ hc1) _ _
        · (repeat' ((conv => whnf); first | refine Then.mk ?_ | left | refine OpsA.cons ?_ | refine OpsA.nil ?_ | refine AWq.seq ?_ | refine AWq.region ?_ | refine AWq.cond ?_ | refine AWq.block ?_ | refine AWq.skip ?_ | refine AWq.ret ?_ | refine AWq.exit ?_ | refine AWq.loop ?_ | (refine Both.mk ?_ ?_ <;> intro hc <;> (first | exact Bool.noConfusion hc | exact absurd hc (by assumption) | (exfalso; omega) | skip)) | (intro c hc; (try (simp only [AH.none_iff] at hc; repeat (have hn := hc.1; replace hc := hc.2))); (first | (refine i64_k hc ?_ ?_ ?_ ; omega; omega; (clear hc; intro hc; subst hc)) | skip)) | (apply Exists.intro; apply And.intro; (first | (focus (repeat (first | (with_reducible assumption) | (with_reducible exact AH.set_same _ _ _) | ((first | refine AH.get_ne ?_ ?_); (first | (with_reducible assumption))))); done))) | (apply Exists.intro; apply And.intro; first | (with_reducible assumption) | ((try simp only [List.getElem?_drop, Nat.mul_one, Nat.add_zero, Nat.zero_add]); first | (with_reducible assumption) | rfl)) | (apply And.intro; (first | rfl | (with_reducible assumption) | exact Nat.le_of_ble_eq_true rfl | omega | (simp <;> fail))))) <;> (try (conv => whnf))
          have hc1 : H c = none := by assumption
          have hcq : c ≠ q := by assumption
          obtain ⟨w, hw⟩ : ∃ w, w = c := ⟨_, rfl⟩
          rw [← hw] at hc1 hcq ⊢
          clear hw
          have hqw : q ≠ w := Ne.symm hcq
          obtain ⟨L, hL⟩ : ∃ L, L = Lx 2 := ⟨_, rfl⟩
          have hLl : L.length ≤ 600 := by rw [hL, x2]; (try simp only [List.length_append, blkZ_len]); omega
          have hres : Lx 3 = L ++ blkZ S P (P, P) P := by rw [hL, x2, x3]
          rw [← hL]
          refine AWp_loop (σ := Nat × Nat) (4 :: 8 :: 9 :: 33 :: 34 :: 35 :: 36 :: 37 :: 38 :: 39 :: 40 :: 41 :: 42 :: 43 :: 44 :: 45 :: 46 :: 47 :: 48 :: 49 :: 50 :: 51 :: 52 :: 53 :: 54 :: 55 :: []) (fun (i, v) => [(33, .int .i64 i), (4, .sl q v 1 0 (L ++ blkZ S P (P, P) i).length none)]) (fun (i, v) => (AH.set H w (.row [.int .i64 (P : Int), .int .i64 (P : Int)] 0)).set q (.row (iS .i64 (L ++ blkZ S P (P, P) i)) v)) (fun (i, v) => i ≤ P) (fun (i, v) => P - i) (0, v) rfl ?_ ?_ ?_ ?_
          · exact Nat.zero_le _
          · exact ⟨rfl, by show AV.sl q v 1 0 L.length none = AV.sl q v 1 0 (L ++ blkZ S P (P, P) 0).length none; rw [show blkZ S P (P, P) 0 = [] from rfl, List.append_nil], trivial⟩
          · refine HLe.of_eq ?_
            show (AH.set H w _).set q (.row (iS .i64 (L ++ blkZ S P (P, P) 0)) v) = _
            rw [show blkZ S P (P, P) 0 = [] from rfl, List.append_nil]
            ((funext s; simp only [AH.set, AH.del]; repeat' split) <;> (first | rfl | (exfalso; omega)))
          · rintro ⟨i, v⟩ hi
            dsimp only at hi ⊢
            refine AWp.of tt_ok (dok _) rfl ?_
            by_cases hiP : i < P
            · (repeat' ((conv => whnf); first | refine Then.mk ?_ | left | refine OpsA.cons ?_ | refine OpsA.nil ?_ | refine AWq.seq ?_ | refine AWq.region ?_ | refine AWq.cond ?_ | refine AWq.block ?_ | refine AWq.skip ?_ | refine AWq.ret ?_ | refine AWq.exit ?_ | refine AWq.loop ?_ | (refine Both.mk ?_ ?_ <;> intro hc <;> (first | exact Bool.noConfusion hc | exact absurd hc (by assumption) | (exfalso; omega) | skip)) | (intro c hc; (try (simp only [AH.none_iff] at hc; repeat (have hn := hc.1; replace hc := hc.2))); (first | (refine i64_k hc ?_ ?_ ?_ ; omega; omega; (clear hc; intro hc; subst hc)) | skip)) | (apply Exists.intro; apply And.intro; (first | (focus (repeat (first | (with_reducible assumption) | (with_reducible exact AH.set_same _ _ _) | ((first | refine AH.get_ne ?_ ?_); (first | (with_reducible assumption))))); done))) | (apply Exists.intro; apply And.intro; first | (with_reducible assumption) | ((try simp only [List.getElem?_drop, Nat.mul_one, Nat.add_zero, Nat.zero_add]); first | (with_reducible assumption) | rfl)) | (apply And.intro; (first | rfl | (with_reducible assumption) | exact Nat.le_of_ble_eq_true rfl | omega | (simp <;> fail))))) <;> (try (conv => whnf))
              have hbs := blkZ_succ S P i (P, P)
              have hbl := blkZ_len S P i (P, P)
              have hb2 : i * P ≤ 64 := Nat.mul_le_mul (show i ≤ 8 by omega) (show P ≤ 8 by omega)
              obtain ⟨D, hD⟩ : ∃ D, D = L ++ blkZ S P (P, P) i := ⟨_, rfl⟩
              have hDl : D.length ≤ 700 := by rw [hD, List.length_append]; omega
              have hDn : L ++ blkZ S P (P, P) (i + 1) = D ++ lineZ S P (P, P) i := by rw [hbs, hD, List.append_assoc]
              rw [← hD]
              have m0 : 0 ≤ (((P : Int) : Int) + i) * S := Int.mul_nonneg (by omega) (by omega)
              have m2 : (((P : Int) : Int) + i) * S = (((P + i) * S : Nat) : Int) := by rw [Int.natCast_mul]; rfl
              have m1 : (P + i) * S ≤ 256 := Nat.mul_le_mul (show P + i ≤ 16 by omega) (show S ≤ 16 by omega)
              refine AWp_loop (σ := Nat × Nat) (4 :: 9 :: 37 :: 38 :: 39 :: 40 :: 41 :: 42 :: 43 :: 44 :: 45 :: 46 :: 47 :: 48 :: 49 :: 50 :: 51 :: 52 :: 53 :: 54 :: []) (fun (k, v) => [(37, .int .i64 k), (4, .sl q v 1 0 (D ++ (List.range k).map (cellZ S (P, P) i)).length none)]) (fun (k, v) => (AH.set H w (.row [.int .i64 (P : Int), .int .i64 (P : Int)] 0)).set q (.row (iS .i64 (D ++ (List.range k).map (cellZ S (P, P) i))) v)) (fun (k, v) => k ≤ P) (fun (k, v) => P - k) (0, v) rfl ?_ ?_ ?_ ?_
              · exact Nat.zero_le _
              · exact ⟨rfl, by show AV.sl q v 1 0 D.length none = AV.sl q v 1 0 (D ++ []).length none; rw [List.append_nil], trivial⟩
              · refine HLe.of_eq ?_
                show (AH.set H w _).set q (.row (iS .i64 (D ++ [])) v) = _
                rw [List.append_nil]
              · rintro ⟨k, v⟩ hk
                dsimp only at hk ⊢
                refine AWp.of tt_ok (dok _) rfl ?_
                have hEl : (D ++ (List.range k).map (cellZ S (P, P) i)).length ≤ 800 := by simp; omega
                by_cases hkP : k < P
                · have hls := lineZ_succ S k (P, P) i
                  obtain ⟨E, hE⟩ : ∃ E, E = D ++ (List.range k).map (cellZ S (P, P) i) := ⟨_, rfl⟩
                  have hEn : D ++ (List.range (k + 1)).map (cellZ S (P, P) i) = E ++ [cellZ S (P, P) i k] := by rw [hls, hE, List.append_assoc]
                  rw [← hE] at hEl ⊢
                  have hcell : cellZ S (P, P) i k = (((P : Int) : Int) + i) * S + (P : Int) + k := by rw [m2]; show (((P + i) * S + P + k : Nat) : Int) = _; generalize (P + i) * S = W; omega
                  (repeat' ((conv => whnf); first | refine Then.mk ?_ | left | refine OpsA.cons ?_ | refine OpsA.nil ?_ | refine AWq.seq ?_ | refine AWq.region ?_ | refine AWq.cond ?_ | refine AWq.block ?_ | refine AWq.skip ?_ | refine AWq.ret ?_ | refine AWq.exit ?_ | refine AWq.loop ?_ | (refine Both.mk ?_ ?_ <;> intro hc <;> (first | exact Bool.noConfusion hc | exact absurd hc (by assumption) | (exfalso; omega) | skip)) | (intro c hc; (try (simp only [AH.none_iff] at hc; repeat (have hn := hc.1; replace hc := hc.2))); (first | (refine i64_k hc ?_ ?_ ?_ ; omega; omega; (clear hc; intro hc; subst hc)) | skip)) | (apply Exists.intro; apply And.intro; (first | (focus (repeat (first | (with_reducible assumption) | (with_reducible exact AH.set_same _ _ _) | ((first | refine AH.get_ne ?_ ?_); (first | (with_reducible assumption))))); done))) | (apply Exists.intro; apply And.intro; first | (with_reducible assumption) | ((try simp only [List.getElem?_drop, Nat.mul_one, Nat.add_zero, Nat.zero_add]); first | (with_reducible assumption) | rfl)) | (apply And.intro; (first | rfl | (with_reducible assumption) | exact Nat.le_of_ble_eq_true rfl | omega | (simp <;> fail))))) <;> (try (conv => whnf))
                  refine ⟨(k + 1, v + 1), by show k + 1 ≤ P; omega, by show P - (k + 1) < P - k; omega, ⟨congrArg (AV.int .i64) (by omega), ?_, trivial⟩, HLe.of_eq ?_⟩
                  · show AV.sl q (v + 1) 1 0 (E.length + 1) none = AV.sl q (v + 1) 1 0 (D ++ (List.range (k + 1)).map (cellZ S (P, P) i)).length none
                    rw [hEn, List.length_append]; rfl
                  · show (AH.set H w _).set q (.row (iS .i64 (D ++ (List.range (k + 1)).map (cellZ S (P, P) i))) (v + 1)) = _
                    rw [hEn, ← iS_snoc, hcell]
                    exact (AH.set_set _ _ _ _).symm
                · have hkE : k = P := by omega
                  (repeat' ((conv => whnf); first | refine Then.mk ?_ | left | refine OpsA.cons ?_ | refine OpsA.nil ?_ | refine AWq.seq ?_ | refine AWq.region ?_ | refine AWq.cond ?_ | refine AWq.block ?_ | refine AWq.skip ?_ | refine AWq.ret ?_ | refine AWq.exit ?_ | refine AWq.loop ?_ | (refine Both.mk ?_ ?_ <;> intro hc <;> (first | exact Bool.noConfusion hc | exact absurd hc (by assumption) | (exfalso; omega) | skip)) | (intro c hc; (try (simp only [AH.none_iff] at hc; repeat (have hn := hc.1; replace hc := hc.2))); (first | (refine i64_k hc ?_ ?_ ?_ ; omega; omega; (clear hc; intro hc; subst hc)) | skip)) | (apply Exists.intro; apply And.intro; (first | (focus (repeat (first | (with_reducible assumption) | (with_reducible exact AH.set_same _ _ _) | ((first | refine AH.get_ne ?_ ?_); (first | (with_reducible assumption))))); done))) | (apply Exists.intro; apply And.intro; first | (with_reducible assumption) | ((try simp only [List.getElem?_drop, Nat.mul_one, Nat.add_zero, Nat.zero_add]); first | (with_reducible assumption) | rfl)) | (apply And.intro; (first | rfl | (with_reducible assumption) | exact Nat.le_of_ble_eq_true rfl | omega | (simp <;> fail))))) <;> (try (conv => whnf))
                  have hfin : D ++ (List.range k).map (cellZ S (P, P) i) = L ++ blkZ S P (P, P) (i + 1) := by rw [hDn, hkE]; rfl
                  refine ⟨(i + 1, v), by show i + 1 ≤ P; omega, by show P - (i + 1) < P - i; omega, ⟨congrArg (AV.int .i64) (by omega), ?_, trivial⟩, HLe.of_eq ?_⟩
                  · rw [← hfin]; rfl
                  · show (AH.set H w _).set q (.row (iS .i64 (L ++ blkZ S P (P, P) (i + 1))) v) = _
                    rw [← hfin]
            · have hiE : i = P := by omega
              (repeat' ((conv => whnf); first | refine Then.mk ?_ | left | refine OpsA.cons ?_ | refine OpsA.nil ?_ | refine AWq.seq ?_ | refine AWq.region ?_ | refine AWq.cond ?_ | refine AWq.block ?_ | refine AWq.skip ?_ | refine AWq.ret ?_ | refine AWq.exit ?_ | refine AWq.loop ?_ | (refine Both.mk ?_ ?_ <;> intro hc <;> (first | exact Bool.noConfusion hc | exact absurd hc (by assumption) | (exfalso; omega) | skip)) | (intro c hc; (try (simp only [AH.none_iff] at hc; repeat (have hn := hc.1; replace hc := hc.2))); (first | (refine i64_k hc ?_ ?_ ?_ ; omega; omega; (clear hc; intro hc; subst hc)) | skip)) | (apply Exists.intro; apply And.intro; (first | (focus (repeat (first | (with_reducible assumption) | (with_reducible exact AH.set_same _ _ _) | ((first | refine AH.get_ne ?_ ?_); (first | (with_reducible assumption))))); done))) | (apply Exists.intro; apply And.intro; first | (with_reducible assumption) | ((try simp only [List.getElem?_drop, Nat.mul_one, Nat.add_zero, Nat.zero_add]); first | (with_reducible assumption) | rfl)) | (apply And.intro; (first | rfl | (with_reducible assumption) | exact Nat.le_of_ble_eq_true rfl | omega | (simp <;> fail))))) <;> (try (conv => whnf))
              refine ⟨(3, v), by show 3 ≤ 3; omega, by show 3 - 3 < 3 - 2; omega, ⟨rfl, ?_, trivial⟩, ?_⟩
              · show AV.sl q v 1 0 (L ++ blkZ S P (P, P) i).length none = AV.sl q v 1 0 (Lx 3).length none
                rw [hres, hiE]
              · show HLe (AH.set H q (.row (iS .i64 (Lx 3)) v)) _
                rw [hres, hiE]
                exact HLe.set (HLe.fresh _ hc1) _ _
        · (repeat' ((conv => whnf); first | refine Then.mk ?_ | left | refine OpsA.cons ?_ | refine OpsA.nil ?_ | refine AWq.seq ?_ | refine AWq.region ?_ | refine AWq.cond ?_ | refine AWq.block ?_ | refine AWq.skip ?_ | refine AWq.ret ?_ | refine AWq.exit ?_ | refine AWq.loop ?_ | (refine Both.mk ?_ ?_ <;> intro hc <;> (first | exact Bool.noConfusion hc | exact absurd hc (by assumption) | (exfalso; omega) | skip)) | (intro c hc; (try (simp only [AH.none_iff] at hc; repeat (have hn := hc.1; replace hc := hc.2))); (first | (refine i64_k hc ?_ ?_ ?_ ; omega; omega; (clear hc; intro hc; subst hc)) | skip)) | (apply Exists.intro; apply And.intro; (first | (focus (repeat (first | (with_reducible assumption) | (with_reducible exact AH.set_same _ _ _) | ((first | refine AH.get_ne ?_ ?_); (first | (with_reducible assumption))))); done))) | (apply Exists.intro; apply And.intro; first | (with_reducible assumption) | ((try simp only [List.getElem?_drop, Nat.mul_one, Nat.add_zero, Nat.zero_add]); first | (with_reducible assumption) | rfl)) | (apply And.intro; (first | rfl | (with_reducible assumption) | exact Nat.le_of_ble_eq_true rfl | omega | (simp <;> fail))))) <;> (try (conv => whnf))
          have hE3 : Lx 3 = zgz S (j + 1) := by rw [x3, hzs]
          refine ⟨(j + 1, v), by show j + 1 ≤ K; omega, by show K - (j + 1) < K - j; omega, ⟨congrArg (AV.int .i64) hpw.symm, ?_, trivial⟩, HLe.of_eq ?_⟩
          · rw [hE3]; rfl
          · show AH.set H q (.row (iS .i64 (zgz S (j + 1))) v) = _
            rw [hE3]
    · have he : j = K := by omega
      subst he
      have hgt : ¬ ((2 ^ j : Nat) : Int) < (S : Int) := by rw [← hSS]; omega
      (repeat' ((conv => whnf); first | left | refine OpsA.cons ?_ | refine OpsA.nil ?_ | refine AWq.seq ?_ | refine AWq.region ?_ | refine AWq.cond ?_ | refine AWq.block ?_ | refine AWq.skip ?_ | refine AWq.ret ?_ | refine AWq.exit ?_ | refine AWq.loop ?_ | (refine Both.mk ?_ ?_ <;> intro hc <;> (first | exact Bool.noConfusion hc | exact absurd hc (by assumption) | (exfalso; omega) | skip)) | (intro c hc; (try (simp only [AH.none_iff] at hc; repeat (have hn := hc.1; replace hc := hc.2))); (first | (refine i64_k hc ?_ ?_ ?_ ; omega; omega; (clear hc; intro hc; subst hc)) | skip)) | (apply Exists.intro; apply And.intro; (first | (focus (repeat (first | (with_reducible assumption) | (with_reducible exact AH.set_same _ _ _) | ((first | refine AH.get_ne ?_ ?_); (first | (with_reducible assumption))))); done))) | (apply Exists.intro; apply And.intro; first | (with_reducible assumption) | ((try simp only [List.getElem?_drop, Nat.mul_one, Nat.add_zero, Nat.zero_add]); first | (with_reducible assumption) | rfl)) | (apply And.intro; (first | rfl | (with_reducible assumption) | exact Nat.le_of_ble_eq_true rfl | omega | (simp <;> fail))))) <;> (try (conv => whnf))
      refine Then.mk ?_
      (repeat' ((conv => whnf); first | left | refine OpsA.cons ?_ | refine OpsA.nil ?_ | refine AWq.seq ?_ | refine AWq.region ?_ | refine AWq.cond ?_ | refine AWq.block ?_ | refine AWq.skip ?_ | refine AWq.ret ?_ | refine AWq.exit ?_ | refine AWq.loop ?_ | (refine Both.mk ?_ ?_ <;> intro hc <;> (first | exact Bool.noConfusion hc | exact absurd hc (by assumption) | (exfalso; omega) | skip)) | (intro c hc; (try (simp only [AH.none_iff] at hc; repeat (have hn := hc.1; replace hc := hc.2))); (first | (refine i64_k hc ?_ ?_ ?_ ; omega; omega; (clear hc; intro hc; subst hc)) | skip)) | (apply Exists.intro; apply And.intro; (first | (focus (repeat (first | (with_reducible assumption) | (with_reducible exact AH.set_same _ _ _) | ((first | refine AH.get_ne ?_ ?_); (first | (with_reducible assumption))))); done))) | (apply Exists.intro; apply And.intro; first | (with_reducible assumption) | ((try simp only [List.getElem?_drop, Nat.mul_one, Nat.add_zero, Nat.zero_add]); first | (with_reducible assumption) | rfl)) | (apply And.intro; (first | rfl | (with_reducible assumption) | exact Nat.le_of_ble_eq_true rfl | omega | (simp <;> fail))))) <;> (try (conv => whnf))
      refine Then.mk ?_
      (repeat' ((conv => whnf); first | left | refine OpsA.cons ?_ | refine OpsA.nil ?_ | refine AWq.seq ?_ | refine AWq.region ?_ | refine AWq.cond ?_ | refine AWq.block ?_ | refine AWq.skip ?_ | refine AWq.ret ?_ | refine AWq.exit ?_ | refine AWq.loop ?_ | (refine Both.mk ?_ ?_ <;> intro hc <;> (first | exact Bool.noConfusion hc | exact absurd hc (by assumption) | (exfalso; omega) | skip)) | (intro c hc; (try (simp only [AH.none_iff] at hc; repeat (have hn := hc.1; replace hc := hc.2))); (first | (refine i64_k hc ?_ ?_ ?_ ; omega; omega; (clear hc; intro hc; subst hc)) | skip)) | (apply Exists.intro; apply And.intro; (first | (focus (repeat (first | (with_reducible assumption) | (with_reducible exact AH.set_same _ _ _) | ((first | refine AH.get_ne ?_ ?_); (first | (with_reducible assumption))))); done))) | (apply Exists.intro; apply And.intro; first | (with_reducible assumption) | ((try simp only [List.getElem?_drop, Nat.mul_one, Nat.add_zero, Nat.zero_add]); first | (with_reducible assumption) | rfl)) | (apply And.intro; (first | rfl | (with_reducible assumption) | exact Nat.le_of_ble_eq_true rfl | omega | (simp <;> fail))))) <;> (try (conv => whnf))
      refine Then.mk (AWq.in ?_)
      refine AWp_freeze1 (es := 1) (n := (zgz S j).length) (lim := none) (cells := iS .i64 (zgz S j)) 2 rfl rfl (AH.set_same _ _ _) (by simp) ?_
      refine AWp.of tt_ok (dok _) rfl ?_
      (repeat' ((conv => whnf); first | refine Then.mk ?_ | refine OpsA.cons ?_ | refine OpsA.nil ?_ | refine AWq.seq ?_ | refine AWq.region ?_ | refine AWq.cond ?_ | refine AWq.block ?_ | refine AWq.skip ?_ | refine AWq.ret ?_ | refine AWq.exit ?_ | refine AWq.loop ?_ | (refine Both.mk ?_ ?_ <;> intro hc <;> (first | exact Bool.noConfusion hc | exact absurd hc (by assumption) | (exfalso; omega) | skip)) | (intro c hc; (try (simp only [AH.none_iff] at hc; repeat (have hn := hc.1; replace hc := hc.2))); (first | (refine i64_k hc ?_ ?_ ?_ ; omega; omega; (clear hc; intro hc; subst hc)) | skip)) | (apply Exists.intro; apply And.intro; (first | (focus (repeat (first | (with_reducible assumption) | (with_reducible exact AH.set_same _ _ _) | ((first | refine AH.get_ne ?_ ?_); (first | (with_reducible assumption))))); done))) | (apply Exists.intro; apply And.intro; first | (with_reducible assumption) | ((try simp only [List.getElem?_drop, Nat.mul_one, Nat.add_zero, Nat.zero_add]); first | (with_reducible assumption) | rfl)) | (apply And.intro; (first | rfl | (with_reducible assumption) | exact Nat.le_of_ble_eq_true rfl | omega | (simp <;> fail))))) <;> (try (conv => whnf))
      exact ⟨_, H, AVle.refl _, HLe.del _ (HLe.fresh _ hcc) hcc, rfl, rfl⟩
open Go.Fw Go

def plc (c : Nat → Nat) : Nat → Nat
  | 0 => 0
  | k + 1 => plc c k + c k

theorem plc_le {c : Nat → Nat} {a b : Nat} (h : a ≤ b) : plc c a ≤ plc c b := by
  induction b with
  | zero => rw [Nat.le_zero.1 h]; exact Nat.le_refl _
  | succ b ih =>
    by_cases e : a = b + 1
    · rw [e]; exact Nat.le_refl _
    · have := ih (by omega)
      show plc c a ≤ plc c b + c b
      omega
theorem plc_one {c : Nat → Nat} {s n : Nat} (h : s < n) : plc c s + c s ≤ plc c n := plc_le (c := c) (a := s + 1) h
theorem plc_add {c : Nat → Nat} {s a : Nat} : ∀ {n : Nat}, plc (fun k => if k = s then c k + a else c k) n = plc c n + (if s < n then a else 0)
  | 0 => by simp [plc]
  | n + 1 => by
    unfold plc
    rw [plc_add (n := n)]
    by_cases h1 : n = s
    · subst h1; simp; omega
    · by_cases h2 : s < n
      · rw [if_pos h2, if_neg h1, if_pos (show s < n + 1 by omega)]; omega
      · rw [if_neg h2, if_neg h1, if_neg (show ¬ s < n + 1 by omega)]; omega
theorem plc_half {c : Nat → Nat} : ∀ {n : Nat}, 2 * plc (fun k => (c k + 1) / 2) n ≤ plc c n + n
  | 0 => by simp [plc]
  | n + 1 => by
    unfold plc
    have := plc_half (c := c) (n := n)
    omega

def upM (c : Nat → Nat) (s : Nat) : Nat → Nat := fun k => if k = s then c k + 32 else c k
def seeM (n : Nat) (c : Nat → Nat) (s : Nat) : Nat → Nat := if 32768 < plc (upM c s) n then fun k => (upM c s k + 1) / 2 else upM c s

structure MdOk (n : Nat) (c : Nat → Nat) : Prop where
  hn : n ≤ 1024
  pos : ∀ k, k < n → 1 ≤ c k
  sum : plc c n ≤ 32768
theorem MdOk.le {n : Nat} {c : Nat → Nat} (h : MdOk n c) {k : Nat} (hk : k < n) : c k ≤ 32768 := by
  have := plc_one (c := c) hk; have := h.sum; omega
theorem MdOk.tot {n : Nat} {c : Nat → Nat} (h : MdOk n c) {s : Nat} (hs : s < n) : 1 ≤ plc c n := by
  have := plc_one (c := c) hs; have := h.pos s hs; omega
theorem plc_ones : ∀ n, plc (fun _ => 1) n = n
  | 0 => rfl
  | n + 1 => by unfold plc; rw [plc_ones n]
theorem MdOk.new {n : Nat} (h : n ≤ 1024) : MdOk n fun _ => 1 := ⟨h, fun _ _ => Nat.le_refl _, by rw [plc_ones]; omega⟩
theorem MdOk.see {n : Nat} {c : Nat → Nat} (h : MdOk n c) {s : Nat} (hs : s < n) : MdOk n (seeM n c s) := by
  have hu : plc (upM c s) n = plc c n + 32 := by
    have := plc_add (c := c) (s := s) (a := 32) (n := n)
    rw [if_pos hs] at this
    exact this
  have hp : ∀ k, k < n → 1 ≤ upM c s k := fun k hk => by
    have := h.pos k hk
    unfold upM; split <;> omega
  have := h.sum; have := h.hn
  unfold seeM
  split
  · refine ⟨h.hn, fun k hk => ?_, ?_⟩
    · have := hp k hk
      show 1 ≤ (upM c s k + 1) / 2
      omega
    · have := plc_half (c := upM c s) (n := n)
      omega
  · exact ⟨h.hn, hp, by omega⟩

structure Cs where
  V : Nat
  W : Nat
  L : Nat
structure CsOk (σ : Cs) : Prop where
  lo : 16777216 ≤ σ.W
  hi : σ.W ≤ 4294967296
  room : σ.V + σ.W ≤ 4294967296 * 256 ^ σ.L

def nrw (σ : Cs) (p c t : Nat) : Cs := ⟨σ.V + σ.W / t * p, σ.W / t * c, σ.L⟩
def shf : Nat → Cs → Cs
  | 0, σ => σ
  | f + 1, σ => if σ.W < 16777216 then shf f ⟨σ.V * 256, σ.W * 256, σ.L + 1⟩ else σ
def stp (σ : Cs) (p c t : Nat) : Cs := shf 3 (nrw σ p c t)
def cs0 : Cs := ⟨0, 4294967296, 0⟩
theorem cs0_ok : CsOk cs0 := ⟨by decide, by decide, by decide⟩

theorem shf_done {σ : Cs} (h : 16777216 ≤ σ.W) : ∀ f, shf f σ = σ
  | 0 => rfl
  | f + 1 => by unfold shf; rw [if_neg (by omega)]
theorem shf_ex : ∀ (f : Nat) (σ : Cs), 16777216 ≤ σ.W * 256 ^ f → σ.W ≤ 4294967296 → ∃ d, d ≤ f ∧ shf f σ = ⟨σ.V * 256 ^ d, σ.W * 256 ^ d, σ.L + d⟩ ∧ 16777216 ≤ σ.W * 256 ^ d ∧ σ.W * 256 ^ d ≤ 4294967296
  | 0, σ, h, h2 => ⟨0, Nat.le_refl _, by simp [shf], by simpa using h, by simpa using h2⟩
  | f + 1, σ, h, h2 => by
    unfold shf
    by_cases hw : σ.W < 16777216
    · rw [if_pos hw]
      obtain ⟨d, hd, he, h3, h4⟩ := shf_ex f ⟨σ.V * 256, σ.W * 256, σ.L + 1⟩ (by show _ ≤ σ.W * 256 * 256 ^ f; rw [Nat.mul_assoc, Nat.mul_comm 256, ← Nat.pow_succ]; exact h) (by show σ.W * 256 ≤ _; omega)
      have e : ∀ x : Nat, x * 256 * 256 ^ d = x * 256 ^ (d + 1) := fun x => by rw [Nat.mul_assoc, Nat.mul_comm 256, ← Nat.pow_succ]
      refine ⟨d + 1, by omega, ?_, ?_, ?_⟩
      · rw [he]
        show Cs.mk (σ.V * 256 * 256 ^ d) (σ.W * 256 * 256 ^ d) (σ.L + 1 + d) = _
        rw [e, e, show σ.L + 1 + d = σ.L + (d + 1) by omega]
      · rw [← e]; exact h3
      · rw [← e]; exact h4
    · rw [if_neg hw]
      exact ⟨0, by omega, by simp, by simp; omega, by simpa using h2⟩

structure StOk (p c t : Nat) : Prop where
  c1 : 1 ≤ c
  pc : p + c ≤ t
  t1 : t ≤ 32768

theorem nrw_r {σ : Cs} (h : CsOk σ) {t : Nat} (h1 : 1 ≤ t) (h2 : t ≤ 32768) : 512 ≤ σ.W / t ∧ σ.W / t * t ≤ σ.W ∧ σ.W / t ≤ 4294967296 := by
  refine ⟨?_, Nat.div_mul_le_self _ _, Nat.le_trans (Nat.div_le_self _ _) h.hi⟩
  rw [Nat.le_div_iff_mul_le (by omega)]
  have := h.lo; omega
theorem nrw_ok {σ : Cs} (h : CsOk σ) {p c t : Nat} (hs : StOk p c t) : 512 ≤ (nrw σ p c t).W ∧ (nrw σ p c t).W ≤ σ.W ∧ (nrw σ p c t).V + (nrw σ p c t).W ≤ σ.V + σ.W ∧ σ.W / t * p ≤ σ.W := by
  obtain ⟨h1, h2, h3⟩ := nrw_r h (t := t) (by have := hs.c1; have := hs.pc; omega) hs.t1
  have a1 : σ.W / t * p + σ.W / t * c ≤ σ.W / t * t := by rw [← Nat.mul_add]; exact Nat.mul_le_mul_left _ hs.pc
  have a2 : σ.W / t ≤ σ.W / t * c := Nat.le_mul_of_pos_right _ hs.c1
  show 512 ≤ σ.W / t * c ∧ σ.W / t * c ≤ σ.W ∧ σ.V + σ.W / t * p + σ.W / t * c ≤ _ ∧ _
  omega
theorem stp_ex {σ : Cs} (h : CsOk σ) {p c t : Nat} (hs : StOk p c t) : ∃ d, d ≤ 2 ∧ stp σ p c t = ⟨(σ.V + σ.W / t * p) * 256 ^ d, σ.W / t * c * 256 ^ d, σ.L + d⟩ ∧ CsOk (stp σ p c t) := by
  obtain ⟨h1, h2, h3, h4⟩ := nrw_ok h hs
  obtain ⟨d, hd, he, h5, h6⟩ := shf_ex 3 (nrw σ p c t) (by have : (256 : Nat) ^ 3 = 16777216 := by decide
                                                           rw [this]; omega) (by have := h.hi; omega)
  have hr := h.room
  have hd2 : d ≤ 2 := by
    by_cases e : d = 3
    · subst e
      have : (256 : Nat) ^ 3 = 16777216 := by decide
      rw [this] at h6
      omega
    · omega
  refine ⟨d, hd2, he, ?_⟩
  unfold stp
  rw [he]
  refine ⟨h5, h6, ?_⟩
  show (nrw σ p c t).V * 256 ^ d + (nrw σ p c t).W * 256 ^ d ≤ 4294967296 * 256 ^ (σ.L + d)
  rw [← Nat.add_mul, Nat.pow_add, ← Nat.mul_assoc]
  exact Nat.mul_le_mul_right _ (by omega)
theorem stp_ok {σ : Cs} (h : CsOk σ) {p c t : Nat} (hs : StOk p c t) : CsOk (stp σ p c t) := let ⟨_, _, _, h⟩ := stp_ex h hs; h

def dig : Nat → Nat → List UInt8
  | 0, _ => []
  | L + 1, x => dig L (x / 256) ++ [UInt8.ofNat (x % 256)]
@[simp] theorem dig_len : ∀ (L x : Nat), (dig L x).length = L
  | 0, _ => rfl
  | L + 1, x => by simp [dig, dig_len L]
theorem dig_snoc (L x b : Nat) (h : b < 256) : dig (L + 1) (x * 256 + b) = dig L x ++ [UInt8.ofNat b] := by
  show dig L ((x * 256 + b) / 256) ++ [UInt8.ofNat ((x * 256 + b) % 256)] = _
  rw [show (x * 256 + b) / 256 = x by omega, show (x * 256 + b) % 256 = b by omega]
theorem dig_snoc0 (L x : Nat) : dig (L + 1) (x * 256) = dig L x ++ [0] := by
  show dig L (x * 256 / 256) ++ [UInt8.ofNat (x * 256 % 256)] = _
  rw [Nat.mul_div_cancel _ (by decide), Nat.mul_mod_left]
  rfl
theorem dig_zeros (L x : Nat) : ∀ k, dig (L + k) (x * 256 ^ k) = dig L x ++ List.replicate k 0
  | 0 => by simp
  | k + 1 => by
    rw [← Nat.add_assoc, Nat.pow_succ, ← Nat.mul_assoc]
    rw [dig_snoc0, dig_zeros L x k, List.append_assoc, List.replicate_succ']
theorem dig_getD : ∀ (L x j : Nat), j < L → (dig L x).getD j 0 = UInt8.ofNat (x / 256 ^ (L - 1 - j) % 256)
  | 0, _, _, h => by omega
  | L + 1, x, j, h => by
    unfold dig
    by_cases e : j = L
    · subst e
      rw [List.getD_eq_getElem?_getD, List.getElem?_append_right (by simp)]
      simp
    · rw [List.getD_eq_getElem?_getD, List.getElem?_append_left (by simp; omega), ← List.getD_eq_getElem?_getD, dig_getD L (x / 256) j (by omega), Nat.div_div_eq_div_mul, ← Nat.pow_succ', show L + 1 - 1 - j = (L - 1 - j) + 1 by omega]

def bv (b : List UInt8) : Nat → Nat
  | 0 => 0
  | j + 1 => bv b j * 256 + (b.getD j 0).toNat
theorem bv_dig {L x : Nat} (h : x < 256 ^ L) : ∀ j, j ≤ L → bv (dig L x) j = x / 256 ^ (L - j)
  | 0, _ => by rw [Nat.sub_zero, Nat.div_eq_of_lt h]; rfl
  | j + 1, hj => by
    unfold bv
    rw [bv_dig h j (by omega), dig_getD L x j (by omega)]
    have e : L - j = (L - (j + 1)) + 1 := by omega
    rw [e, Nat.pow_succ, ← Nat.div_div_eq_div_mul, show L - 1 - j = L - (j + 1) by omega]
    generalize x / 256 ^ (L - (j + 1)) = y
    have : (UInt8.ofNat (y % 256)).toNat = y % 256 := by simp
    rw [this]; omega
theorem bv_lt (b : List UInt8) : ∀ j, bv b j < 256 ^ j
  | 0 => Nat.one_pos
  | j + 1 => by
    unfold bv
    have := bv_lt b j
    have h2 : (b.getD j 0).toNat < 256 := (b.getD j 0).toNat_lt
    rw [Nat.pow_succ]; omega
theorem bv_congr {a b : List UInt8} : ∀ j, (∀ i, i < j → a.getD i 0 = b.getD i 0) → bv a j = bv b j
  | 0, _ => rfl
  | j + 1, h => by unfold bv; rw [bv_congr j (fun i hi => h i (by omega)), h j (by omega)]

def trimN (bs : List UInt8) : Nat → Nat
  | 0 => 0
  | n + 1 => if bs.getD n 0 = 0 then trimN bs n else n + 1
theorem trimN_zero (bs : List UInt8) : ∀ n i, trimN bs n ≤ i → i < n → bs.getD i 0 = 0
  | 0, _, _, h => by omega
  | n + 1, i, h1, h2 => by
    unfold trimN at h1
    split at h1
    · rename_i h
      by_cases e : i = n
      · rw [e]; exact h
      · exact trimN_zero bs n i h1 (by omega)
    · omega
def trim (bs : List UInt8) : List UInt8 := bs.take (trimN bs bs.length)
theorem trim_getD (bs : List UInt8) (i : Nat) : (trim bs).getD i 0 = bs.getD i 0 := by
  unfold trim
  rw [List.getD_eq_getElem?_getD, List.getElem?_take]
  by_cases h : i < trimN bs bs.length
  · rw [if_pos h, ← List.getD_eq_getElem?_getD]
  · rw [if_neg h]
    by_cases h2 : i < bs.length
    · exact (trimN_zero bs bs.length i (by omega) h2).symm
    · rw [List.getD_eq_getElem?_getD, List.getElem?_eq_none (by omega)]
def codeS (σ : Cs) : List UInt8 := trim (dig (σ.L + 4) σ.V)
theorem bv_code {σ : Cs} (h : CsOk σ) {j : Nat} (hj : j ≤ σ.L + 4) : bv (codeS σ) j = σ.V / 256 ^ (σ.L + 4 - j) := by
  have hr := h.room; have hl := h.lo
  rw [← bv_dig (L := σ.L + 4) (x := σ.V) (by rw [Nat.pow_add, show (256 : Nat) ^ 4 = 4294967296 by decide]; omega) j hj]
  exact bv_congr j fun i _ => trim_getD _ _

structure Es where
  M : Nat → Nat → Nat
  σ : Cs
def es0 : Es := ⟨fun _ _ => 1, cs0⟩
structure EsOk (n : Nat) (E : Es) : Prop where
  md : ∀ k, MdOk n (E.M k)
  cs : CsOk E.σ
theorem es0_ok {n : Nat} (h : n ≤ 1024) : EsOk n es0 := ⟨fun _ => MdOk.new h, cs0_ok⟩
def symE (n : Nat) (E : Es) (k s : Nat) : Es := ⟨fun j => if j = k then seeM n (E.M k) s else E.M j, stp E.σ (plc (E.M k) s) (E.M k s) (plc (E.M k) n)⟩
theorem EsOk.st {n : Nat} {E : Es} (h : EsOk n E) (k : Nat) {s : Nat} (hs : s < n) : StOk (plc (E.M k) s) (E.M k s) (plc (E.M k) n) :=
  ⟨(h.md k).pos s hs, plc_one hs, (h.md k).sum⟩
theorem EsOk.sym {n : Nat} {E : Es} (h : EsOk n E) (k : Nat) {s : Nat} (hs : s < n) : EsOk n (symE n E k s) := by
  refine ⟨fun j => ?_, stp_ok h.cs (h.st k hs)⟩
  show MdOk n (if j = k then seeM n (E.M k) s else E.M j)
  split
  · exact (h.md k).see hs
  · exact h.md j

structure Lies (σ τ : Cs) : Prop where
  len : σ.L ≤ τ.L
  lo : σ.V * 256 ^ (τ.L - σ.L) ≤ τ.V
  hi : τ.V < (σ.V + σ.W) * 256 ^ (τ.L - σ.L)
theorem Lies.refl {σ : Cs} (h : CsOk σ) : Lies σ σ := ⟨Nat.le_refl _, by simp, by have := h.lo; simp; omega⟩
theorem Lies.step {σ τ : Cs} (h : CsOk σ) {p c t : Nat} (hs : StOk p c t) (hl : Lies (stp σ p c t) τ) :
    Lies σ τ ∧ (σ.V + σ.W / t * p) * 256 ^ (τ.L - σ.L) ≤ τ.V ∧ τ.V < (σ.V + σ.W / t * p + σ.W / t * c) * 256 ^ (τ.L - σ.L) := by
  obtain ⟨d, hd, he, _⟩ := stp_ex h hs
  obtain ⟨_, _, h3, _⟩ := nrw_ok h hs
  have h3 : σ.V + σ.W / t * p + σ.W / t * c ≤ σ.V + σ.W := h3
  obtain ⟨l1, l2, l3⟩ := hl
  rw [he] at l1 l2 l3
  have l1 : σ.L + d ≤ τ.L := l1
  have l2 : (σ.V + σ.W / t * p) * 256 ^ d * 256 ^ (τ.L - (σ.L + d)) ≤ τ.V := l2
  have l3 : τ.V < ((σ.V + σ.W / t * p) * 256 ^ d + σ.W / t * c * 256 ^ d) * 256 ^ (τ.L - (σ.L + d)) := l3
  have e : 256 ^ d * 256 ^ (τ.L - (σ.L + d)) = 256 ^ (τ.L - σ.L) := by rw [← Nat.pow_add]; congr 1; omega
  rw [Nat.mul_assoc, e] at l2
  rw [← Nat.add_mul, Nat.mul_assoc, e] at l3
  refine ⟨⟨by omega, Nat.le_trans (Nat.mul_le_mul_right _ (by omega)) l2, Nat.lt_of_lt_of_le l3 (Nat.mul_le_mul_right _ h3)⟩, l2, l3⟩

def k_lowR (b : List UInt8) (σ : Cs) : Nat := bv b (σ.L + 4) - σ.V
theorem Lies.low {σ τ : Cs} (ht : CsOk τ) (hl : Lies σ τ) : σ.V ≤ bv (codeS τ) (σ.L + 4) ∧ bv (codeS τ) (σ.L + 4) = τ.V / 256 ^ (τ.L - σ.L) := by
  have h1 := hl.len
  rw [bv_code ht (by omega), show τ.L + 4 - (σ.L + 4) = τ.L - σ.L by omega]
  exact ⟨(Nat.le_div_iff_mul_le (Nat.pow_pos (by decide))).2 hl.lo, rfl⟩
theorem Lies.at {σ τ : Cs} (h : CsOk σ) (ht : CsOk τ) {p c t : Nat} (hs : StOk p c t) (hl : Lies (stp σ p c t) τ) :
    p ≤ k_lowR (codeS τ) σ / (σ.W / t) ∧ k_lowR (codeS τ) σ / (σ.W / t) < p + c := by
  obtain ⟨h1, h2, h3⟩ := Lies.step h hs hl
  obtain ⟨h4, h5⟩ := Lies.low ht h1
  obtain ⟨r1, _, _⟩ := nrw_r h (t := t) (by have := hs.c1; have := hs.pc; omega) hs.t1
  have hp : 0 < 256 ^ (τ.L - σ.L) := Nat.pow_pos (by decide)
  have h2 := (Nat.le_div_iff_mul_le hp).2 h2
  have h3 := (Nat.div_lt_iff_lt_mul hp).2 h3
  unfold k_lowR
  rw [h5]
  generalize τ.V / 256 ^ (τ.L - σ.L) = x at *
  constructor
  · rw [Nat.le_div_iff_mul_le (by omega), Nat.mul_comm]; omega
  · rw [Nat.div_lt_iff_lt_mul (by omega), Nat.mul_comm, Nat.mul_add]; omega
open Go.Fw Go

def inN (x : Int) (n : Nat) : Prop := 0 ≤ x ∧ x < n
instance (x : Int) (n : Nat) : Decidable (inN x n) := inferInstanceAs (Decidable (_ ∧ _))

def SizesP (n many : Int) : Prop := 1 ≤ n ∧ n ≤ 1024 ∧ 1 ≤ many ∧ many ≤ 256
instance (n many : Int) : Decidable (SizesP n many) := inferInstanceAs (Decidable (_ ∧ _))

def fnd (c : Nat → Nat) (x n : Nat) : Nat := ((List.range n).find? fun s => decide (x < plc c (s + 1))).getD 0
theorem fnd_ok {c : Nat → Nat} {x n : Nat} (h : x < plc c n) : fnd c x n < n ∧ plc c (fnd c x n) ≤ x ∧ x < plc c (fnd c x n + 1) := by
  have hn : 0 < n := by
    cases n with
    | zero => simp [plc] at h
    | succ n => omega
  unfold fnd
  cases hf : (List.range n).find? fun s => decide (x < plc c (s + 1)) with
  | none =>
    rw [List.find?_eq_none] at hf
    have := hf (n - 1) (by simp; omega)
    rw [show n - 1 + 1 = n by omega] at this
    simp at this; omega
  | some s =>
    have h1 := List.find?_some hf
    have h2 := List.mem_of_find?_eq_some hf
    simp at h1 h2
    refine ⟨h2, ?_, h1⟩
    show plc c s ≤ x
    by_cases e : s = 0
    · rw [e]; exact Nat.zero_le _
    · rw [List.find?_eq_some_iff_append] at hf
      obtain ⟨_, xs, ys, hab, hlt⟩ := hf
      have hl : xs.length = s := by
        have := congrArg (fun l => l[xs.length]?) hab
        simp at this
        rw [List.getElem?_eq_some_iff] at this
        obtain ⟨hx, hy⟩ := this
        simpa using hy
      have hm : s - 1 ∈ xs := by
        have h3 : (List.range n)[s - 1]? = xs[s - 1]? := by rw [hab, List.getElem?_append_left (by omega)]
        rw [List.getElem?_range (by omega)] at h3
        exact List.mem_of_getElem? h3.symm
      have := hlt (s - 1) hm
      rw [show s - 1 + 1 = s by omega] at this
      simp at this; exact this
theorem fnd_eq {c : Nat → Nat} {x n s : Nat} (hs : s < n) (h1 : plc c s ≤ x) (h2 : x < plc c (s + 1)) : fnd c x n = s := by
  obtain ⟨a, b, d⟩ := fnd_ok (c := c) (x := x) (n := n) (Nat.lt_of_lt_of_le h2 (plc_le (c := c) (a := s + 1) hs))
  generalize fnd c x n = t at *
  by_cases e : t < s
  · have := plc_le (c := c) (a := t + 1) (b := s) e; omega
  · by_cases e2 : s < t
    · have := plc_le (c := c) (a := s + 1) (b := t) e2; omega
    · omega

def atR (b : List UInt8) (σ : Cs) (t : Nat) : Nat := k_lowR b σ / (σ.W / t)
def decSym (n : Nat) (b : List UInt8) (E : Es) (k : Nat) : Option (Nat × Es) :=
  if atR b E.σ (plc (E.M k) n) < plc (E.M k) n then
    some (fnd (E.M k) (atR b E.σ (plc (E.M k) n)) n, symE n E k (fnd (E.M k) (atR b E.σ (plc (E.M k) n)) n))
  else none

structure RdOk (b : List UInt8) (σ : Cs) : Prop where
  le : σ.V ≤ bv b (σ.L + 4)
  lt : bv b (σ.L + 4) < σ.V + σ.W
theorem rd0_ok (b : List UInt8) : RdOk b cs0 := by
  refine ⟨Nat.zero_le _, ?_⟩
  have := bv_lt b 4
  rw [show (256 : Nat) ^ 4 = 4294967296 by decide] at this
  show bv b 4 < 0 + 4294967296
  omega
theorem bv_more (b : List UInt8) (j : Nat) : ∀ d, bv b j * 256 ^ d ≤ bv b (j + d) ∧ bv b (j + d) < (bv b j + 1) * 256 ^ d
  | 0 => by simp
  | d + 1 => by
    obtain ⟨h1, h2⟩ := bv_more b j d
    have h3 : (b.getD (j + d) 0).toNat < 256 := (b.getD (j + d) 0).toNat_lt
    have e : ∀ x, x * 256 ^ (d + 1) = x * 256 ^ d * 256 := fun x => by rw [Nat.pow_succ, Nat.mul_assoc]
    have e2 : bv b (j + (d + 1)) = bv b (j + d) * 256 + (b.getD (j + d) 0).toNat := rfl
    rw [e, e, e2]
    omega
theorem RdOk.low {b : List UInt8} {σ : Cs} (h : RdOk b σ) : k_lowR b σ < σ.W := by
  have := h.le; have := h.lt
  unfold k_lowR; omega
theorem RdOk.step {b : List UInt8} {σ : Cs} (h : RdOk b σ) (hc : CsOk σ) {p c t : Nat} (hs : StOk p c t) (h1 : p ≤ atR b σ t) (h2 : atR b σ t < p + c) : RdOk b (stp σ p c t) ∧ σ.W / t * p ≤ k_lowR b σ ∧ k_lowR b σ < σ.W / t * p + σ.W / t * c := by
  obtain ⟨d, hd, he, _⟩ := stp_ex hc hs
  obtain ⟨r1, _, _⟩ := nrw_r hc (t := t) (by have := hs.c1; have := hs.pc; omega) hs.t1
  unfold atR at h1 h2
  rw [Nat.le_div_iff_mul_le (by omega), Nat.mul_comm] at h1
  rw [Nat.div_lt_iff_lt_mul (by omega), Nat.mul_comm, Nat.mul_add] at h2
  refine ⟨?_, h1, h2⟩
  rw [he]
  have hle := h.le
  unfold k_lowR at h1 h2
  have a1 : σ.V + σ.W / t * p ≤ bv b (σ.L + 4) := by omega
  have a2 : bv b (σ.L + 4) + 1 ≤ σ.V + σ.W / t * p + σ.W / t * c := by omega
  obtain ⟨m1, m2⟩ := bv_more b (σ.L + 4) d
  refine ⟨?_, ?_⟩
  · show (σ.V + σ.W / t * p) * 256 ^ d ≤ bv b (σ.L + d + 4)
    rw [show σ.L + d + 4 = σ.L + 4 + d by omega]
    exact Nat.le_trans (Nat.mul_le_mul_right _ a1) m1
  · show bv b (σ.L + d + 4) < (σ.V + σ.W / t * p) * 256 ^ d + σ.W / t * c * 256 ^ d
    rw [show σ.L + d + 4 = σ.L + 4 + d by omega, ← Nat.add_mul]
    exact Nat.lt_of_lt_of_le m2 (Nat.mul_le_mul_right _ a2)
theorem decSym_ok {n : Nat} {b : List UInt8} {E : Es} (h : EsOk n E) (hr : RdOk b E.σ) {k s : Nat} {E' : Es} (hd : decSym n b E k = some (s, E')) : s < n ∧ E' = symE n E k s ∧ RdOk b E'.σ := by
  unfold decSym at hd
  split at hd
  · rename_i hlt
    obtain ⟨f1, f2, f3⟩ := fnd_ok hlt
    have he := Option.some.inj hd
    have e1 := congrArg Prod.fst he
    have e2 := congrArg Prod.snd he
    dsimp only at e1 e2
    rw [e1] at f1 f2 f3 e2
    refine ⟨f1, e2.symm, ?_⟩
    rw [← e2]
    exact (hr.step h.cs (h.st k f1) f2 f3).1
  · cases hd

def ctxs (ctx : Nat → List Int → Int) (sy : List Int) : List Int := (List.range sy.length).map fun i => ctx i (sy.take i)
@[simp] theorem ctxs_len (ctx : Nat → List Int → Int) (sy : List Int) : (ctxs ctx sy).length = sy.length := by simp [ctxs]
open Go.Fw Go

def lenB (u : Nat) : Nat := if u = 0 then 0 else Nat.log2 u + 1
theorem lenB_le {u : Nat} (h : u < 2 ^ 64) : lenB u ≤ 64 := by
  unfold lenB
  split
  · omega
  · rename_i h0
    have := (Nat.log2_lt h0).2 h
    omega
theorem lenB_lt (u : Nat) : u < 2 ^ lenB u := by
  unfold lenB
  split
  · rename_i h; rw [h]; decide
  · exact Nat.lt_log2_self
theorem lenB_top {u : Nat} (h : u ≠ 0) : 2 ^ (lenB u - 1) ≤ u := by
  unfold lenB
  rw [if_neg h]
  exact Nat.log2_self_le h

def fold (x : Int) : Nat := if 0 ≤ x then (2 * x).toNat else (-2 * x - 1).toNat
def unfold' (u : Nat) : Int := if u % 2 = 0 then ((u / 2 : Nat) : Int) else -((u / 2 : Nat) : Int) - 1
theorem unfold_fold (x : Int) : unfold' (fold x) = x := by
  unfold unfold' fold
  split <;> split <;> omega
theorem fold_unfold (u : Nat) : fold (unfold' u) = u := by
  unfold unfold' fold
  split <;> split <;> omega
theorem fold_lt {x : Int} (h : -9223372036854775808 ≤ x ∧ x ≤ 9223372036854775807) : fold x < 2 ^ 64 := by
  unfold fold
  have : (2 : Nat) ^ 64 = 18446744073709551616 := by decide
  split <;> omega

def bitE (σ : Cs) (u k : Nat) : Cs := stp σ (u / 2 ^ k % 2) 1 2
def bitsE (u : Nat) : Nat → Cs → Cs
  | 0, σ => σ
  | k + 1, σ => bitsE u k (bitE σ u k)
theorem bit_st (u k : Nat) : StOk (u / 2 ^ k % 2) 1 2 := ⟨by omega, by omega, by omega⟩
theorem bitE_ok {σ : Cs} (h : CsOk σ) (u k : Nat) : CsOk (bitE σ u k) := stp_ok h (bit_st u k)
theorem bitsE_ok (u : Nat) : ∀ (k : Nat) {σ : Cs}, CsOk σ → CsOk (bitsE u k σ)
  | 0, _, h => h
  | k + 1, _, h => bitsE_ok u k (bitE_ok h u k)

structure Is where
  E : Es
  b : Nat
def is0 : Is := ⟨es0, 0⟩
structure IsOk (I : Is) : Prop where
  es : EsOk 65 I.E
  b : I.b ≤ 64
theorem is0_ok : IsOk is0 := ⟨es0_ok (by omega), by decide⟩
def intI (I : Is) (u : Nat) : Is :=
  ⟨⟨(symE 65 I.E I.b (lenB u)).M, bitsE u (lenB u - 1) (symE 65 I.E I.b (lenB u)).σ⟩, lenB u⟩
theorem IsOk.step {I : Is} (h : IsOk I) {u : Nat} (hu : u < 2 ^ 64) : IsOk (intI I u) := by
  have hl := lenB_le hu
  have := h.es.sym I.b (s := lenB u) (by omega)
  exact ⟨⟨this.md, bitsE_ok u _ this.cs⟩, hl⟩
def intsI (us : List Nat) (I : Is) : Is := us.foldl intI I
theorem intsI_ok : ∀ {us : List Nat} {I : Is}, (∀ u ∈ us, u < 2 ^ 64) → IsOk I → IsOk (intsI us I)
  | [], _, _, h => h
  | u :: us, I, hu, h => intsI_ok (us := us) (fun v hv => hu v (by simp [hv])) (h.step (hu u (by simp)))
theorem intsI_snoc (us : List Nat) (u : Nat) (I : Is) : intsI (us ++ [u]) I = intI (intsI us I) u := by
  unfold intsI; rw [List.foldl_append]; rfl

def intsS (l : List Int) : List UInt8 × Int :=
  if l.length ≤ 65536 then (codeS (intsI (l.map fold) is0).E.σ, 0) else ([], 4)

inductive Leads : Cs → Cs → Prop
  | refl {σ : Cs} : Leads σ σ
  | step {σ τ : Cs} {p c t : Nat} (h : StOk p c t) (r : Leads (stp σ p c t) τ) : Leads σ τ
theorem Leads.trans {a b c : Cs} (h : Leads a b) (k : Leads b c) : Leads a c := by
  induction h with
  | refl => exact k
  | step h _ ih => exact .step h (ih k)
theorem Leads.lies {σ τ : Cs} (h : Leads σ τ) (hc : CsOk σ) (ht : CsOk τ) : Lies σ τ := by
  induction h with
  | refl => exact Lies.refl hc
  | step h _ ih => exact (Lies.step hc h (ih (stp_ok hc h) ht)).1
theorem bitsE_leads (u : Nat) : ∀ (k : Nat) (σ : Cs), Leads σ (bitsE u k σ)
  | 0, _ => .refl
  | k + 1, σ => .step (bit_st u k) (bitsE_leads u k _)
theorem intI_leads {I : Is} (h : IsOk I) {u : Nat} (hu : u < 2 ^ 64) : Leads I.E.σ (intI I u).E.σ := by
  have hl := lenB_le hu
  exact .step (h.es.st I.b (s := lenB u) (by omega)) (bitsE_leads u _ _)
theorem intsI_leads : ∀ {us : List Nat} {I : Is}, (∀ u ∈ us, u < 2 ^ 64) → IsOk I → Leads I.E.σ (intsI us I).E.σ
  | [], _, _, _ => .refl
  | u :: us, I, hu, h => (intI_leads h (hu u (by simp))).trans (intsI_leads (us := us) (fun v hv => hu v (by simp [hv])) (h.step (hu u (by simp))))

def rdBits (b : List UInt8) : Nat → Nat × Cs → Option (Nat × Cs)
  | 0, x => some x
  | k + 1, (u, σ) => if atR b σ 2 < 2 then rdBits b k (u * 2 + atR b σ 2, stp σ (atR b σ 2) 1 2) else none
def rdInt (b : List UInt8) (I : Is) : Option (Nat × Is) :=
  match decSym 65 b I.E I.b with
  | none => none
  | some (s, E) => match rdBits b (s - 1) (min s 1, E.σ) with
    | none => none
    | some (u, σ) => some (u, ⟨⟨E.M, σ⟩, s⟩)
def rdSt (b : List UInt8) : Nat → Option (Is × List Int)
  | 0 => some (is0, [])
  | i + 1 => match rdSt b i with
    | none => none
    | some (I, out) => match rdInt b I with
      | none => none
      | some (u, I') => some (I', out ++ [unfold' u])
def readS (b : List UInt8) (count : Int) : List Int × Int :=
  if 0 ≤ count ∧ count ≤ 65536 then
    match rdSt b count.toNat with
    | none => ([], 2)
    | some (_, out) => if (intsS out).1 = b then (out, 0) else ([], 2)
  else ([], 4)

theorem rdBits_ok {b : List UInt8} : ∀ (k : Nat) {u v : Nat} {σ τ : Cs}, CsOk σ → RdOk b σ → rdBits b k (u, σ) = some (v, τ) →
    CsOk τ ∧ RdOk b τ ∧ v / 2 ^ k = u ∧ τ = bitsE v k σ
  | 0, u, v, σ, τ, hc, hr, h => by
    cases h
    exact ⟨hc, hr, by simp, rfl⟩
  | k + 1, u, v, σ, τ, hc, hr, h => by
    unfold rdBits at h
    split at h
    · rename_i hlt
      have hs : StOk (atR b σ 2) 1 2 := ⟨by omega, by omega, by omega⟩
      obtain ⟨h1, h2, h3, h4⟩ := rdBits_ok k (stp_ok hc hs) (hr.step hc hs (Nat.le_refl _) (by omega)).1 h
      refine ⟨h1, h2, ?_, ?_⟩
      · rw [Nat.pow_succ, ← Nat.div_div_eq_div_mul, h3]; omega
      · rw [h4]
        show bitsE v k _ = bitsE v k (stp σ (v / 2 ^ k % 2) 1 2)
        rw [h3, show (u * 2 + atR b σ 2) % 2 = atR b σ 2 by omega]
    · cases h
theorem lenB_of {u s : Nat} (h : u / 2 ^ (s - 1) = min s 1) : lenB u = s := by
  by_cases e : s = 0
  · subst e
    simp at h
    rw [h]; rfl
  · have hs : min s 1 = 1 := by omega
    rw [hs] at h
    have hp : 0 < 2 ^ (s - 1) := Nat.pow_pos (by decide)
    have h1 : 2 ^ (s - 1) ≤ u := by
      have := Nat.div_mul_le_self u (2 ^ (s - 1))
      rw [h] at this; omega
    have h2 : u < 2 ^ s := by
      have : u < (u / 2 ^ (s - 1) + 1) * 2 ^ (s - 1) := by
        rw [Nat.mul_comm]; exact Nat.lt_mul_div_succ u hp
      rw [h] at this
      rw [show s = (s - 1) + 1 by omega, Nat.pow_succ]; omega
    have h0 : u ≠ 0 := by omega
    unfold lenB
    rw [if_neg h0]
    have a1 := (Nat.le_log2 h0).2 h1
    have a2 := (Nat.log2_lt h0).2 h2
    omega
theorem rdInt_ok {b : List UInt8} {I I' : Is} {u : Nat} (h : IsOk I) (hr : RdOk b I.E.σ) (hd : rdInt b I = some (u, I')) : u < 2 ^ 64 ∧ I' = intI I u ∧ RdOk b I'.E.σ := by
  unfold rdInt at hd
  split at hd
  · cases hd
  · rename_i s E hs
    obtain ⟨h1, h2, h3⟩ := decSym_ok h.es hr hs
    have hE := h.es.sym I.b h1
    rw [← h2] at hE
    split at hd
    · cases hd
    · rename_i v σ hb
      have hd := Option.some.inj hd
      have e1 := congrArg Prod.fst hd
      have e2 := congrArg Prod.snd hd
      dsimp only at e1 e2
      subst e1
      obtain ⟨k1, k2, k3, k4⟩ := rdBits_ok (s - 1) hE.cs h3 hb
      have hl := lenB_of k3
      refine ⟨Nat.lt_of_lt_of_le (lenB_lt v) (by rw [hl]; exact Nat.pow_le_pow_right (by decide) (by omega)), ?_, ?_⟩
      · rw [← e2]
        unfold intI
        rw [hl, ← h2, ← k4]
      · rw [← e2]; exact k2
structure RdsOk (b : List UInt8) (i : Nat) (I : Is) (out : List Int) : Prop where
  is : IsOk I
  rd : RdOk b I.E.σ
  len : out.length = i
  run : intsI (out.map fold) is0 = I
  bd : ∀ x ∈ out, -9223372036854775808 ≤ x ∧ x ≤ 9223372036854775807
theorem unfold_bd {u : Nat} (h : u < 2 ^ 64) : -9223372036854775808 ≤ unfold' u ∧ unfold' u ≤ 9223372036854775807 := by
  have : (2 : Nat) ^ 64 = 18446744073709551616 := by decide
  unfold unfold'
  split <;> omega
theorem rdSt_ok {b : List UInt8} : ∀ {i : Nat} {I : Is} {out : List Int}, rdSt b i = some (I, out) → RdsOk b i I out
  | 0, I, out, h => by
    have h := Option.some.inj h
    have e1 := congrArg Prod.fst h
    have e2 := congrArg Prod.snd h
    dsimp only at e1 e2
    subst e1 e2
    exact ⟨is0_ok, rd0_ok b, rfl, rfl, fun x hx => by cases hx⟩
  | i + 1, I, out, h => by
    unfold rdSt at h
    split at h
    · cases h
    · rename_i I0 out0 h0
      have ih := rdSt_ok h0
      split at h
      · cases h
      · rename_i u I' hu
        obtain ⟨k1, k2, k3⟩ := rdInt_ok ih.is ih.rd hu
        have h := Option.some.inj h
        have e1 := congrArg Prod.fst h
        have e2 := congrArg Prod.snd h
        dsimp only at e1 e2
        subst e1 e2
        have hl := ih.len
        refine ⟨by rw [k2]; exact ih.is.step k1, k3, by simp [hl], ?_, ?_⟩
        · rw [List.map_append, List.map_singleton, intsI_snoc, ih.run, fold_unfold, k2]
        · intro x hx
          rcases List.mem_append.1 hx with h | h
          · exact ih.bd x h
          · have : x = unfold' u := by simpa using h
            rw [this]; exact unfold_bd k1

theorem rdBits_enc {τ : Cs} (ht : CsOk τ) (u : Nat) : ∀ (k : Nat) (σ : Cs), CsOk σ → Leads (bitsE u k σ) τ → rdBits (codeS τ) k (u / 2 ^ k, σ) = some (u, bitsE u k σ)
  | 0, σ, _, _ => by simp [rdBits, bitsE]
  | k + 1, σ, hc, hl => by
    have hs := bit_st u k
    have hl2 : Leads (stp σ (u / 2 ^ k % 2) 1 2) τ := (bitsE_leads u k _).trans hl
    obtain ⟨a1, a2⟩ := Lies.at hc ht hs (hl2.lies (stp_ok hc hs) ht)
    have hat : atR (codeS τ) σ 2 = u / 2 ^ k % 2 := by unfold atR; omega
    unfold rdBits bitsE bitE
    rw [hat, if_pos (by omega), show u / 2 ^ (k + 1) * 2 + u / 2 ^ k % 2 = u / 2 ^ k by rw [Nat.pow_succ, ← Nat.div_div_eq_div_mul]; omega]
    exact rdBits_enc ht u k _ (stp_ok hc hs) hl
theorem top_bit {u : Nat} : u / 2 ^ (lenB u - 1) = min (lenB u) 1 := by
  by_cases h : u = 0
  · subst h; rfl
  · have h1 := lenB_top h
    have h2 := lenB_lt u
    have h3 : 1 ≤ lenB u := by unfold lenB; rw [if_neg h]; omega
    rw [show lenB u = (lenB u - 1) + 1 by omega, Nat.pow_succ] at h2
    have hp : 0 < 2 ^ (lenB u - 1) := Nat.pow_pos (by decide)
    have a1 : 1 ≤ u / 2 ^ (lenB u - 1) := (Nat.le_div_iff_mul_le hp).2 (by omega)
    have a2 : u / 2 ^ (lenB u - 1) < 2 := (Nat.div_lt_iff_lt_mul hp).2 (by omega)
    omega
theorem rdInt_enc {τ : Cs} (ht : CsOk τ) {I : Is} (h : IsOk I) {u : Nat} (hu : u < 2 ^ 64) (hl : Leads (intI I u).E.σ τ) : rdInt (codeS τ) I = some (u, intI I u) := by
  have hb := lenB_le hu
  have hs := h.es.st I.b (s := lenB u) (by omega)
  have hE := h.es.sym I.b (s := lenB u) (by omega)
  have hl1 : Leads (symE 65 I.E I.b (lenB u)).σ τ := (bitsE_leads u _ _).trans hl
  obtain ⟨a1, a2⟩ := Lies.at h.es.cs ht hs (hl1.lies hE.cs ht)
  have hf : fnd (I.E.M I.b) (atR (codeS τ) I.E.σ (plc (I.E.M I.b) 65)) 65 = lenB u := fnd_eq (by omega) a1 a2
  have hlt : atR (codeS τ) I.E.σ (plc (I.E.M I.b) 65) < plc (I.E.M I.b) 65 := Nat.lt_of_lt_of_le a2 (plc_one (by omega))
  have hd : decSym 65 (codeS τ) I.E I.b = some (lenB u, symE 65 I.E I.b (lenB u)) := by
    unfold decSym
    rw [if_pos hlt, hf]
  unfold rdInt
  rw [hd]
  dsimp only
  rw [← top_bit, rdBits_enc ht u _ _ hE.cs hl]
  rfl
theorem rdSt_enc {us : List Nat} (hus : ∀ u ∈ us, u < 2 ^ 64) : ∀ (i : Nat), i ≤ us.length → rdSt (codeS (intsI us is0).E.σ) i = some (intsI (us.take i) is0, (us.take i).map unfold')
  | 0, _ => rfl
  | i + 1, hi => by
    have hil : i < us.length := by omega
    have ht : IsOk (intsI us is0) := intsI_ok hus is0_ok
    have htk : us.take (i + 1) = us.take i ++ [us[i]] := by rw [List.take_add_one, List.getElem?_eq_getElem hil]; rfl
    have hI : IsOk (intsI (us.take i) is0) := intsI_ok (fun u hu => hus u (List.mem_of_mem_take hu)) is0_ok
    have hI1 : IsOk (intsI (us.take (i + 1)) is0) := intsI_ok (fun u hu => hus u (List.mem_of_mem_take hu)) is0_ok
    have hall : intsI (us.drop (i + 1)) (intsI (us.take (i + 1)) is0) = intsI us is0 := by
      unfold intsI
      rw [← List.foldl_append, List.take_append_drop]
    have hl : Leads (intsI (us.take (i + 1)) is0).E.σ (intsI us is0).E.σ := by
      rw [← hall]
      exact intsI_leads (fun u hu => hus u (List.mem_of_mem_drop hu)) hI1
    rw [htk, intsI_snoc] at hl
    unfold rdSt
    rw [rdSt_enc hus i (by omega)]
    dsimp only
    rw [rdInt_enc ht.es.cs hI (hus _ (List.getElem_mem hil)) hl, htk, intsI_snoc, List.map_append, List.map_singleton]
theorem read_round {l : List Int} (hl : l.length ≤ 65536) (hb : ∀ x ∈ l, -9223372036854775808 ≤ x ∧ x ≤ 9223372036854775807) : readS (intsS l).1 l.length = (l, 0) := by
  have hus : ∀ u ∈ l.map fold, u < 2 ^ 64 := fun u hu => by
    obtain ⟨x, hx, rfl⟩ := List.mem_map.1 hu
    exact fold_lt (hb x hx)
  have h1 : (intsS l).1 = codeS (intsI (l.map fold) is0).E.σ := by unfold intsS; rw [if_pos hl]
  have h2 := rdSt_enc hus l.length (by simp)
  have h3 : ((l.map fold).take l.length).map unfold' = l := by
    rw [List.take_of_length_le (by simp), List.map_map]
    have : (unfold' ∘ fold) = id := by funext x; exact unfold_fold x
    rw [this]; simp
  unfold readS
  rw [if_pos (by omega), Int.toNat_natCast]
  rw [h1, h2]
  dsimp only
  rw [h3, h1, if_pos rfl]
open Go.Fw Go

set_option maxRecDepth 8000 in
theorem sameints_c (a b : List Int) (ha : a.length ≤ 1000000) (hb : b.length ≤ 1000000) (H : AH) :
    ACall Try.prog 12 [.cs (iS .i64 a) a.length, .cs (iS .i64 b) b.length] H (fun y H' => y = .bool (decide (a = b)) ∧ H' = H) := by
  refine ACall_of tt_ok (dok _) Try.func12 rfl (by decide) rfl ?_
  (repeat' ((conv => whnf); first | refine Then.mk ?_ | refine OpsA.cons ?_ | refine OpsA.nil ?_ | refine AWq.seq ?_ | refine AWq.region ?_ | refine AWq.cond ?_ | refine AWq.block ?_ | refine AWq.skip ?_ | refine AWq.ret ?_ | refine AWq.exit ?_ | refine AWq.loop ?_ | refine DrawA.consD ?_ | refine DrawA.nil ?_ | refine AWq.draw (by decide +kernel) ?_ | (refine Both.mk ?_ ?_ <;> intro hc <;> (first | exact Bool.noConfusion hc | skip)) | (intro c hc; (try (simp only [AH.none_iff] at hc; repeat (have hn := hc.1; replace hc := hc.2))); (first | (refine i64_k hc ?_ ?_ ?_ ; omega; omega; (clear hc; intro hc; subst hc)) | skip)) | (apply Exists.intro; apply And.intro; first | (with_reducible assumption) | ((try simp only [List.getElem?_drop, Nat.mul_one, Nat.add_zero, Nat.zero_add]); first | (with_reducible assumption) | (refine iS_get ?_; omega) | rfl)) | (apply And.intro; (first | rfl | (with_reducible assumption) | omega | (simp <;> omega))))) <;> (try (conv => whnf))
  · rename_i hne
    have : a ≠ b := fun e => hne (by rw [e])
    exact ⟨by rw [decide_eq_false this], rfl⟩
  · rename_i hl
    refine AWp_loop (σ := Nat) (4 :: 5 :: 11 :: 12 :: 13 :: 14 :: 15 :: 16 :: 17 :: 18 :: 19 :: 20 :: 21 :: 22 :: 23 :: 24 :: 25 :: []) (fun j => [(5, .int .i64 j)]) (fun _ => H) (fun j => j ≤ a.length ∧ ∀ i, i < j → a.getD i 0 = b.getD i 0) (fun j => a.length - j) 0 rfl ?_ ?_ ?_ ?_
    · exact ⟨Nat.zero_le _, fun i hi => absurd hi (Nat.not_lt_zero _)⟩
    · exact ⟨rfl, trivial⟩
    · exact HLe.refl _
    · rintro j ⟨hj, hs⟩
      refine AWp.of tt_ok (dok _) rfl ?_
      (repeat' ((conv => whnf); first | refine Then.mk ?_ | refine OpsA.cons ?_ | refine OpsA.nil ?_ | refine AWq.seq ?_ | refine AWq.region ?_ | refine AWq.cond ?_ | refine AWq.block ?_ | refine AWq.skip ?_ | refine AWq.ret ?_ | refine AWq.exit ?_ | refine AWq.loop ?_ | refine DrawA.consD ?_ | refine DrawA.nil ?_ | refine AWq.draw (by decide +kernel) ?_ | (refine Both.mk ?_ ?_ <;> intro hc <;> (first | exact Bool.noConfusion hc | skip)) | (intro c hc; (try (simp only [AH.none_iff] at hc; repeat (have hn := hc.1; replace hc := hc.2))); (first | (refine i64_k hc ?_ ?_ ?_ ; omega; omega; (clear hc; intro hc; subst hc)) | skip)) | (apply Exists.intro; apply And.intro; first | (with_reducible assumption) | ((try simp only [List.getElem?_drop, Nat.mul_one, Nat.add_zero, Nat.zero_add]); first | (with_reducible assumption) | (refine iS_get ?_; omega) | rfl)) | (apply And.intro; (first | rfl | (with_reducible assumption) | omega | (simp <;> omega))))) <;> (try (conv => whnf))
      · rename_i hd
        have : a ≠ b := fun e => hd (by rw [e])
        exact ⟨by rw [decide_eq_false this], rfl⟩
      · rename_i hd
        refine ⟨j + 1, ⟨by omega, fun i hi => ?_⟩, by omega, ⟨congrArg (AV.int .i64) (by omega), trivial⟩, HLe.refl _⟩
        by_cases h : i < j
        · exact hs i h
        · have : i = j := by omega
          rw [this]; simpa using hd
      · have : a = b := by
          apply List.ext_getElem (by omega)
          intro i h1 h2
          have := hs i (by omega)
          simpa [h1, h2] using this
        exact ⟨by rw [decide_eq_true this], rfl⟩

theorem wr_u8s {a : List UInt8} {k : Nat} {v : UInt8} (h : k < a.length) : wrA (u8s a) k [.int .u8 v.toNat] = u8s (a.set k v) := by
  unfold wrA
  rw [List.set_eq_take_append_cons_drop, if_pos h]
  simp [u8s, List.map_take, List.map_drop]

def aro (n : Int) (m : Nat) : Nat := ((if n < 0 then -(n + 1) else n).tmod m).toNat
theorem aro_lt {n : Int} {m : Nat} (hm : 1 ≤ m) : aro n m < m := by
  unfold aro
  have hlt : ∀ x : Int, 0 ≤ x → x.tmod m < m := fun x h => Int.tmod_lt_of_pos _ (by omega)
  have := hlt (if n < 0 then -(n + 1) else n) (by split <;> omega)
  omega

set_option maxRecDepth 8000 in
theorem around_f (n : Int) (h1 : -9223372036854775808 ≤ n) (h2 : n ≤ 9223372036854775807) (m : Nat) (hm : 1 ≤ m) (hm2 : m ≤ 1000000) (H : AH) :
    ACall Try.prog 8 [.int .i64 n, .int .i64 m] H (fun y H' => y = .int .i64 (aro n m) ∧ H' = H) := by
  unfold aro
  by_cases hn : n < 0
  · have hp : 0 ≤ (-(n + 1)).tmod m := Int.tmod_nonneg _ (by omega)
    rw [if_pos hn, Int.toNat_of_nonneg hp]
    refine ACall_of tt_ok (dok _) Try.func8 rfl (by decide) rfl ?_
    (repeat' ((conv => whnf); first | refine Then.mk ?_ | refine OpsA.cons ?_ | refine OpsA.nil ?_ | refine AWq.seq ?_ | refine AWq.region ?_ | refine AWq.cond ?_ | refine AWq.skip ?_ | refine AWq.ret ?_ | (refine Both.mk ?_ ?_ <;> intro hc <;> (first | exact Bool.noConfusion hc | exact absurd (by assumption) hc | exact absurd hc (by assumption) | skip)) | (intro c hc; (try (simp only [AH.none_iff] at hc; repeat (have hn := hc.1; replace hc := hc.2))); (first | (refine i64_k hc ?_ ?_ ?_ ; omega; omega; (clear hc; intro hc; subst hc)) | subst hc | skip)) | (apply And.intro; (first | rfl | omega | (simp <;> fail))))) <;> (try (conv => whnf))
  · have hp : 0 ≤ n.tmod m := Int.tmod_nonneg _ (by omega)
    rw [if_neg hn, Int.toNat_of_nonneg hp]
    refine ACall_of tt_ok (dok _) Try.func8 rfl (by decide) rfl ?_
    (repeat' ((conv => whnf); first | refine Then.mk ?_ | refine OpsA.cons ?_ | refine OpsA.nil ?_ | refine AWq.seq ?_ | refine AWq.region ?_ | refine AWq.cond ?_ | refine AWq.skip ?_ | refine AWq.ret ?_ | (refine Both.mk ?_ ?_ <;> intro hc <;> (first | exact Bool.noConfusion hc | exact absurd (by assumption) hc | exact absurd hc (by assumption) | skip)) | (intro c hc; (try (simp only [AH.none_iff] at hc; repeat (have hn := hc.1; replace hc := hc.2))); (first | (refine i64_k hc ?_ ?_ ?_ ; omega; omega; (clear hc; intro hc; subst hc)) | subst hc | skip)) | (apply And.intro; (first | rfl | omega | (simp <;> fail))))) <;> (try (conv => whnf))

open Go.Fw Go

def pickV (l : List Int) (i : Int) (m : Nat) : Nat := if 0 ≤ i ∧ i < l.length then aro (l.getD i.toNat 0) m else 0
theorem pickV_lt {l : List Int} {i : Int} {m : Nat} (hm : 1 ≤ m) : pickV l i m < m := by
  unfold pickV
  split
  · exact aro_lt hm
  · omega
set_option maxRecDepth 8000 in
theorem pick_f (l : List Int) (hl : ∀ n ∈ l, -9223372036854775808 ≤ n ∧ n ≤ 9223372036854775807) (hll : l.length ≤ 9223372036854775807) (i : Int) (hi : -9223372036854775808 ≤ i ∧ i ≤ 9223372036854775807) (m : Nat) (hm : 1 ≤ m) (hm2 : m ≤ 1000000) (H : AH) :
    ACall Try.prog 29 [.cs (iS .i64 l) l.length, .int .i64 i, .int .i64 m] H (fun y H' => y = .int .i64 (pickV l i m) ∧ H' = H) := by
  unfold pickV
  by_cases h0 : i < 0
  · rw [if_neg (by omega)]
    refine ACall_of tt_ok (dok _) Try.func29 rfl (by decide) rfl ?_
    (repeat' ((conv => whnf); first | refine Then.mk ?_ | refine OpsA.cons ?_ | refine OpsA.nil ?_ | refine AWq.seq ?_ | refine AWq.region ?_ | refine AWq.cond ?_ | refine AWq.skip ?_ | refine AWq.ret ?_ | (refine Both.mk ?_ ?_ <;> intro hc <;> (first | exact Bool.noConfusion hc | exact absurd (by assumption) hc | exact absurd hc (by assumption) | (exfalso; omega) | skip)) | (apply Exists.intro; apply And.intro; first | (with_reducible assumption) | ((try simp only [List.getElem?_drop, Nat.mul_one, Nat.add_zero, Nat.zero_add]); first | (with_reducible assumption) | rfl)) | (apply And.intro; (first | rfl | (with_reducible assumption) | omega)))) <;> (try (conv => whnf))
  · by_cases h1 : i < l.length
    · rw [if_pos (by omega)]
      have hg : (iS .i64 l)[i.toNat]? = some (.int .i64 (l.getD i.toNat 0)) := iS_get (by omega)
      have hb : -9223372036854775808 ≤ l.getD i.toNat 0 ∧ l.getD i.toNat 0 ≤ 9223372036854775807 := by
        have hlt : i.toNat < l.length := by omega
        have : l.getD i.toNat 0 = l[i.toNat] := by rw [List.getD_eq_getElem?_getD, List.getElem?_eq_getElem hlt]; rfl
        rw [this]; exact hl _ (List.getElem_mem hlt)
      generalize l.getD i.toNat 0 = x at *
      have ha := fun H => around_f x hb.1 hb.2 m hm hm2 H
      have hil : (iS .i64 l).length = l.length := by simp
      refine ACall_of tt_ok (dok _) Try.func29 rfl (by decide) rfl ?_
      (repeat' ((conv => whnf); first | refine Then.mk ?_ | refine OpsA.cons ?_ | refine OpsA.nil ?_ | refine AWq.seq ?_ | refine AWq.region ?_ | refine AWq.cond ?_ | refine AWq.skip ?_ | refine AWq.ret ?_ | (refine Both.mk ?_ ?_ <;> intro hc <;> (first | exact Bool.noConfusion hc | exact absurd (by assumption) hc | exact absurd hc (by assumption) | (exfalso; omega) | skip)) | (apply Exists.intro; apply And.intro; first | (with_reducible assumption) | ((try simp only [List.getElem?_drop, Nat.mul_one, Nat.add_zero, Nat.zero_add]); first | (with_reducible assumption) | rfl)) | (apply And.intro; (first | rfl | (with_reducible assumption) | omega)) | (refine ACall.to (ha _) ?_))) <;> (try (conv => whnf))
    · rw [if_neg (by omega)]
      refine ACall_of tt_ok (dok _) Try.func29 rfl (by decide) rfl ?_
      (repeat' ((conv => whnf); first | refine Then.mk ?_ | refine OpsA.cons ?_ | refine OpsA.nil ?_ | refine AWq.seq ?_ | refine AWq.region ?_ | refine AWq.cond ?_ | refine AWq.skip ?_ | refine AWq.ret ?_ | (refine Both.mk ?_ ?_ <;> intro hc <;> (first | exact Bool.noConfusion hc | exact absurd (by assumption) hc | exact absurd hc (by assumption) | (exfalso; omega) | skip)) | (apply Exists.intro; apply And.intro; first | (with_reducible assumption) | ((try simp only [List.getElem?_drop, Nat.mul_one, Nat.add_zero, Nat.zero_add]); first | (with_reducible assumption) | rfl)) | (apply And.intro; (first | rfl | (with_reducible assumption) | omega)))) <;> (try (conv => whnf))

open Go.Fw Go

def fL {α : Type} (f : α → List AV) (l : List α) : List AV := l.flatMap f
section flat
variable {α : Type} {f : α → List AV} {k : Nat} (hk : ∀ a, (f a).length = k)
include hk
theorem fL_len (l : List α) : (fL f l).length = l.length * k := by
  induction l with
  | nil => simp [fL]
  | cons a l ih => simp only [fL, List.flatMap_cons, List.length_append, List.length_cons] at ih ⊢; rw [ih, hk, Nat.succ_mul]; omega
theorem fL_drop (l : List α) : ∀ i, (fL f l).drop (i * k) = fL f (l.drop i) := by
  induction l with
  | nil => intro i; simp [fL]
  | cons a l ih =>
    intro i
    cases i with
    | zero => simp
    | succ i =>
      have h1 : (i + 1) * k = (f a).length + i * k := by rw [hk, Nat.succ_mul]; omega
      have h2 : fL f (a :: l) = f a ++ fL f l := rfl
      rw [h1, h2, List.drop_append, List.drop_of_length_le (by omega), List.nil_append, Nat.add_sub_cancel_left]
      exact ih i
theorem fL_take (l : List α) : ∀ i, (fL f l).take (i * k) = fL f (l.take i) := by
  induction l with
  | nil => intro i; simp [fL]
  | cons a l ih =>
    intro i
    cases i with
    | zero => simp [fL]
    | succ i =>
      have h1 : (i + 1) * k = (f a).length + i * k := by rw [hk, Nat.succ_mul]; omega
      have h2 : fL f (a :: l) = f a ++ fL f l := rfl
      rw [h1, h2, List.take_append, List.take_of_length_le (by omega), Nat.add_sub_cancel_left, ih i]
      rfl
theorem fL_wr {l : List α} {i : Nat} (h : i < l.length) {b : α} : wrA (fL f l) (i * k) (f b) = fL f (l.set i b) := by
  unfold wrA
  rw [fL_take hk, hk, show i * k + k = (i + 1) * k by rw [Nat.succ_mul], fL_drop hk, List.set_eq_take_append_cons_drop, if_pos h]
  unfold fL
  rw [List.flatMap_append, List.flatMap_cons, List.append_assoc]
end flat
theorem fL_rep {α : Type} (f : α → List AV) (a : α) (n : Nat) : (List.replicate n (f a)).flatten = fL f (List.replicate n a) := by
  induction n with
  | zero => rfl
  | succ n ih => rw [List.replicate_succ, List.flatten_cons, ih, List.replicate_succ]; rfl

def fnL {β : Type} (n : Nat) (g : Nat → β) : List β := (List.range n).map g
@[simp] theorem fnL_len {β : Type} (n : Nat) (g : Nat → β) : (fnL n g).length = n := by simp [fnL]
theorem fnL_get {β : Type} {n i : Nat} (g : Nat → β) (h : i < n) : (fnL n g)[i]? = some (g i) := by simp [fnL, h]
theorem fnL_set {β : Type} {n i : Nat} (g : Nat → β) (x : β) : (fnL n g).set i x = fnL n (fun u => if u = i then x else g u) := by
  apply List.ext_getElem?
  intro j
  rw [List.getElem?_set]
  by_cases hj : j < n
  · by_cases e : i = j
    · subst e; simp [fnL, hj]
    · rw [if_neg e, fnL_get _ hj, fnL_get _ hj, if_neg (Ne.symm e)]
  · have e2 : (fnL n g)[j]? = none := List.getElem?_eq_none (by simp; omega)
    have e3 : (fnL n (fun u => if u = i then x else g u))[j]? = none := List.getElem?_eq_none (by simp; omega)
    rw [e2, e3]; split
    · rename_i e; subst e; simp [hj]
    · rfl
theorem fnL_congr {β : Type} {n : Nat} {g k : Nat → β} (h : ∀ i, i < n → g i = k i) : fnL n g = fnL n k := by
  unfold fnL; exact List.map_congr_left fun i hi => h i (by simpa using hi)
theorem fnL_rep {β : Type} (n : Nat) (x : β) : List.replicate n x = fnL n fun _ => x := by
  apply List.ext_getElem?
  intro j
  by_cases hj : j < n
  · rw [fnL_get _ hj]; simp [hj]
  · rw [List.getElem?_eq_none (by simp; omega), List.getElem?_eq_none (by simp; omega)]
theorem fnL_snoc {β : Type} (n : Nat) (g : Nat → β) : fnL (n + 1) g = fnL n g ++ [g n] := by simp [fnL, List.range_succ]

def dL (n : Nat) (d : Nat → Int) : List AV := iS .i64 (fnL n d)
@[simp] theorem dL_len (n : Nat) (d : Nat → Int) : (dL n d).length = n := by simp [dL]
theorem dL_get {n i : Nat} (d : Nat → Int) (h : i < n) : (dL n d)[i]? = some (.int .i64 (d i)) := by
  unfold dL iS; rw [List.getElem?_map, fnL_get d h]; rfl
theorem iS_wr1 {a : List Int} {k : Nat} {v : Int} (h : k < a.length) : wrA (iS .i64 a) k [.int .i64 v] = iS .i64 (a.set k v) := by
  unfold wrA
  rw [List.set_eq_take_append_cons_drop, if_pos h]
  simp [iS, List.map_take, List.map_drop]
theorem dL_zero (n : Nat) : (List.replicate n [AV.int .i64 0]).flatten = dL n fun _ => 0 := by
  have : (List.replicate n [AV.int .i64 0]).flatten = List.replicate n (AV.int .i64 0) := by
    induction n with
    | zero => rfl
    | succ n ih => rw [List.replicate_succ, List.flatten_cons, ih, List.replicate_succ]; rfl
  rw [this]
  unfold dL iS
  rw [← fnL_rep, List.map_replicate]

@[simp] theorem wrA1_len (l : List AV) (k : Nat) (v : AV) : (wrA l k [v]).length = min k l.length + 1 + (l.length - (k + 1)) := by simp [wrA]; omega
theorem take_snoc {α : Type} {l : List α} {i : Nat} {x : α} (h : l[i]? = some x) : l.take (i + 1) = l.take i ++ [x] := by
  rw [List.take_add_one, h]; rfl
theorem getD_mem {l : List Int} {i : Nat} (h : i < l.length) : l.getD i 0 ∈ l := by
  rw [List.getD_eq_getElem?_getD, List.getElem?_eq_getElem h]; exact List.getElem_mem h
open Go.Fw Go

structure ZO (z : List Int) : Prop where
  len : z.length = 256
  bd : ∀ x ∈ z, 0 ≤ x ∧ x < 256
  all : ∀ p : Nat, p < 256 → (p : Int) ∈ z
def zoB (z : List Int) : Bool := z.length == 256 && z.all (fun x => decide (0 ≤ x ∧ x < 256)) && (List.range 256).all fun p => z.contains (p : Int)
theorem zo_of {z : List Int} (h : zoB z = true) : ZO z := by
  unfold zoB at h
  simp only [Bool.and_eq_true, beq_iff_eq, List.all_eq_true, decide_eq_true_eq] at h
  obtain ⟨⟨h1, h2⟩, h4⟩ := h
  refine ⟨h1, h2, fun p hp => ?_⟩
  have := h4 p (by simpa using hp)
  simpa using this
theorem zo_16 : ZO (zgz (2 ^ 4) 4) := zo_of (by decide +kernel)
def coefL (a : List Int) : List Int := toL (2 ^ 4) (fwd 4 (ofL (2 ^ 4) a))
theorem coefL_len (a : List Int) : (coefL a).length = 256 := toL_len _ _
def sortL (Z a : List Int) : List Int := Z.map fun i => (coefL a).getD i.toNat 0
theorem sortL_len {Z : List Int} (hz : ZO Z) (a : List Int) : (sortL Z a).length = 256 := by unfold sortL; rw [List.length_map, hz.len]
theorem sortL_at {Z : List Int} (a : List Int) {k : Nat} (hk : k < Z.length) : (sortL Z a).getD k 0 = (coefL a).getD (Z.getD k 0).toNat 0 := by
  unfold sortL
  rw [List.getD_eq_getElem?_getD, List.getElem?_map, List.getD_eq_getElem?_getD (l := Z), List.getElem?_eq_getElem hk]
  rfl
def bandP (Z a : List Int) : List UInt8 := (intsS (sortL Z a)).1
def scat (Z l : List Int) : Nat → List Int
  | 0 => fnL 256 fun _ => 0
  | k + 1 => (scat Z l k).set (Z.getD k 0).toNat (l.getD k 0)
theorem scat_len (Z l : List Int) : ∀ k, (scat Z l k).length = 256
  | 0 => fnL_len _ _
  | k + 1 => by show ((scat Z l k).set _ _).length = 256; rw [List.length_set, scat_len Z l k]
theorem scat_at {Z : List Int} (hz : ZO Z) (a : List Int) : ∀ k, k ≤ 256 → ∀ p : Nat, p < 256 → (scat Z (sortL Z a) k).getD p 0 = if (p : Int) ∈ Z.take k then (coefL a).getD p 0 else 0
  | 0, _, p, hp => by
    show (fnL 256 fun _ => (0 : Int)).getD p 0 = _
    rw [List.getD_eq_getElem?_getD, fnL_get _ hp, List.take_zero, if_neg (by simp)]; rfl
  | k + 1, hk, p, hp => by
    have hkz : k < Z.length := by rw [hz.len]; omega
    have hm : Z.getD k 0 ∈ Z := getD_mem hkz
    have hb := hz.bd _ hm
    have hl := scat_len Z (sortL Z a) k
    have ht : Z.take (k + 1) = Z.take k ++ [Z.getD k 0] := take_snoc (by rw [List.getD_eq_getElem?_getD, List.getElem?_eq_getElem hkz]; rfl)
    show ((scat Z (sortL Z a) k).set (Z.getD k 0).toNat ((sortL Z a).getD k 0)).getD p 0 = _
    rw [sortL_at a hkz, ht]
    by_cases e : p = (Z.getD k 0).toNat
    · rw [e, List.getD_eq_getElem?_getD, List.getElem?_set_self (by omega), if_pos]
      · rfl
      · rw [Int.toNat_of_nonneg hb.1]; simp
    · rw [List.getD_eq_getElem?_getD, List.getElem?_set_ne (Ne.symm e), ← List.getD_eq_getElem?_getD, scat_at hz a k (by omega) p hp]
      have hne : (p : Int) ≠ Z.getD k 0 := fun h => e (by rw [← h]; rfl)
      by_cases h1 : (p : Int) ∈ Z.take k
      · rw [if_pos h1, if_pos (List.mem_append_left _ h1)]
      · rw [if_neg h1, if_neg]
        intro h2
        rcases List.mem_append.1 h2 with h3 | h3
        · exact h1 h3
        · simp only [List.mem_singleton] at h3; exact hne h3
theorem getD_ext {A B : List Int} (hl : A.length = B.length) (h : ∀ p, p < A.length → A.getD p 0 = B.getD p 0) : A = B := by
  apply List.ext_getElem hl
  intro p h1 h2
  have := h p h1
  rw [List.getD_eq_getElem?_getD, List.getD_eq_getElem?_getD, List.getElem?_eq_getElem h1, List.getElem?_eq_getElem h2] at this
  exact this
theorem scat_end {Z : List Int} (hz : ZO Z) (a : List Int) : scat Z (sortL Z a) 256 = coefL a := by
  refine getD_ext (by rw [scat_len, coefL_len]) fun p hp => ?_
  rw [scat_len] at hp
  rw [scat_at hz a 256 (Nat.le_refl _) p hp, List.take_of_length_le (by rw [hz.len]; omega), if_pos (hz.all p hp)]
structure BOk (a : List Int) : Prop where
  len : a.length = 256
  bd : ∀ x ∈ a, 0 ≤ x ∧ x ≤ 65535
theorem BOk.inA {a : List Int} (h : BOk a) : inB 1099511627776 a = true := by
  rw [inB_iff]
  intro x hx
  have := h.bd x hx
  omega
theorem BOk.inC {a : List Int} (h : BOk a) : inB 4398046511104 (coefL a) = true := by
  have bA := inB_bnd (by omega) h.inA (2 ^ 4)
  exact inB_toL (fwd_bd (B := 1099511627776) (by omega) 4 _ (Nat.le_refl _) (fun r c hr hc => bA r c hr hc) (fun r c hr hc => by have := bA r c hr hc; omega))
theorem coef_back {a : List Int} (h : a.length = 256) : toL (2 ^ 4) (inv 4 (ofL (2 ^ 4) (coefL a))) = a := by
  unfold coefL
  rw [fwd_ofL, inv_fwd, toL_ofL (by rw [h])]
theorem sortL_ok {Z a : List Int} (hz : ZO Z) (h : BOk a) : ∀ x ∈ sortL Z a, -9223372036854775808 ≤ x ∧ x ≤ 9223372036854775807 := fun x hx => by
  unfold sortL at hx
  obtain ⟨i, hi, rfl⟩ := List.mem_map.1 hx
  have hb := hz.bd i hi
  have := (inB_iff ..).1 h.inC _ (getD_mem (l := coefL a) (i := i.toNat) (by rw [coefL_len]; omega))
  omega
open Go.Fw Go

def pushR (R : List (Int × Nat)) (l : Int) : List (Int × Nat) :=
  match R.getLast? with
  | some (x, n) => if x = l then R.dropLast ++ [(x, n + 1)] else R ++ [(l, 1)]
  | none => [(l, 1)]
def runsR (L : List Int) : List (Int × Nat) := L.foldl pushR []
def expR (R : List (Int × Nat)) : List Int := R.flatMap fun p => List.replicate p.2 p.1
def flatR (R : List (Int × Nat)) : List Int := R.flatMap fun p => [p.1, (p.2 : Int)]
theorem flatR_len : ∀ R : List (Int × Nat), (flatR R).length = 2 * R.length
  | [] => rfl
  | p :: R => by
    show (p.1 :: (p.2 : Int) :: flatR R).length = _
    simp only [List.length_cons, flatR_len R]; omega
theorem flatR_app (R S : List (Int × Nat)) : flatR (R ++ S) = flatR R ++ flatR S := List.flatMap_append
theorem expR_app (R S : List (Int × Nat)) : expR (R ++ S) = expR R ++ expR S := List.flatMap_append
theorem runsR_snoc (L : List Int) (l : Int) : runsR (L ++ [l]) = pushR (runsR L) l := by
  unfold runsR; rw [List.foldl_append]; rfl
theorem pushR_nil (l : Int) : pushR [] l = [(l, 1)] := rfl
theorem pushR_same (R : List (Int × Nat)) (x : Int) (n : Nat) : pushR (R ++ [(x, n)]) x = R ++ [(x, n + 1)] := by
  unfold pushR
  rw [List.getLast?_append]
  simp
theorem pushR_new (R : List (Int × Nat)) (x l : Int) (n : Nat) (h : x ≠ l) : pushR (R ++ [(x, n)]) l = R ++ [(x, n)] ++ [(l, 1)] := by
  unfold pushR
  rw [List.getLast?_append]
  simp [h]
theorem list_end {α : Type} (R : List α) : R = [] ∨ ∃ S x, R = S ++ [x] := by
  rcases List.eq_nil_or_concat R with h | ⟨S, x, h⟩
  · exact .inl h
  · exact .inr ⟨S, x, by rw [h, List.concat_eq_append]⟩
theorem expR_push (R : List (Int × Nat)) (l : Int) : expR (pushR R l) = expR R ++ [l] := by
  rcases list_end R with rfl | ⟨S, ⟨x, n⟩, rfl⟩
  · rfl
  · by_cases h : x = l
    · subst h
      rw [pushR_same, expR_app, expR_app, List.append_assoc]
      refine congrArg (expR S ++ ·) ?_
      show List.replicate (n + 1) x ++ [] = (List.replicate n x ++ []) ++ [x]
      rw [List.append_nil, List.append_nil, List.replicate_succ']
    · rw [pushR_new _ _ _ _ h, expR_app]; rfl
theorem expR_runs (L : List Int) : expR (runsR L) = L := by
  have : ∀ (M : List Int) (R : List (Int × Nat)), expR (M.foldl pushR R) = expR R ++ M := by
    intro M
    induction M with
    | nil => intro R; simp
    | cons a M ih => intro R; rw [List.foldl_cons, ih, expR_push, List.append_assoc]; rfl
  rw [runsR, this]; rfl
open Go.Fw Go

theorem pushR_len (R : List (Int × Nat)) (l : Int) : (pushR R l).length ≤ R.length + 1 := by
  rcases list_end R with rfl | ⟨S, ⟨x, n⟩, rfl⟩
  · exact Nat.le_refl _
  · by_cases h : x = l
    · subst h; rw [pushR_same]; simp
    · rw [pushR_new _ _ _ _ h]; simp
theorem runsR_len (L : List Int) : (runsR L).length ≤ L.length := by
  have : ∀ (M : List Int) (R : List (Int × Nat)), (M.foldl pushR R).length ≤ R.length + M.length := by
    intro M
    induction M with
    | nil => intro R; exact Nat.le_refl _
    | cons a M ih => intro R; have := ih (pushR R a); have := pushR_len R a; rw [List.foldl_cons, List.length_cons]; omega
  have := this L []
  rw [List.length_nil, Nat.zero_add] at this
  exact this
theorem runsR_last {L : List Int} {i : Nat} (h0 : 0 < i) (hi : i ≤ L.length) : ∃ S x n, runsR (L.take i) = S ++ [(x, n)] ∧ 0 < n ∧ n ≤ i ∧ x = L.getD (i - 1) 0 := by
  induction i with
  | zero => omega
  | succ i ih =>
    have ht : L.take (i + 1) = L.take i ++ [L.getD i 0] := take_snoc (by rw [List.getD_eq_getElem?_getD, List.getElem?_eq_getElem (by omega)]; rfl)
    rw [ht, runsR_snoc, Nat.add_sub_cancel]
    by_cases e : i = 0
    · subst e; rw [List.take_zero]; exact ⟨[], _, 1, rfl, by omega, by omega, rfl⟩
    · obtain ⟨S, x, n, h1, h2, h3, h4⟩ := ih (by omega) (by omega)
      rw [h1]
      by_cases hx : x = L.getD i 0
      · rw [← hx, pushR_same]; exact ⟨S, x, n + 1, rfl, by omega, by omega, rfl⟩
      · rw [pushR_new _ _ _ _ hx]; exact ⟨S ++ [(x, n)], _, 1, rfl, by omega, by omega, rfl⟩
theorem flatR_snoc (R : List (Int × Nat)) (x : Int) (n : Nat) : flatR (R ++ [(x, n)]) = flatR R ++ [x, (n : Int)] := by rw [flatR_app]; rfl
theorem flat_set (R : List (Int × Nat)) (x : Int) (n m : Nat) : (flatR (R ++ [(x, n)])).set (2 * R.length + 1) m = flatR (R ++ [(x, m)]) := by
  rw [flatR_snoc, flatR_snoc, List.set_append_right _ _ (by rw [flatR_len]; omega), flatR_len, show 2 * R.length + 1 - 2 * R.length = 1 by omega]; rfl
theorem flat_x (R : List (Int × Nat)) (x : Int) (n : Nat) : (flatR (R ++ [(x, n)])).getD (2 * R.length) 0 = x := by
  rw [flatR_snoc, List.getD_eq_getElem?_getD, List.getElem?_append_right (by rw [flatR_len]; omega), flatR_len, Nat.sub_self]; rfl
theorem flat_n (R : List (Int × Nat)) (x : Int) (n : Nat) : (flatR (R ++ [(x, n)])).getD (2 * R.length + 1) 0 = n := by
  rw [flatR_snoc, List.getD_eq_getElem?_getD, List.getElem?_append_right (by rw [flatR_len]; omega), flatR_len, show 2 * R.length + 1 - 2 * R.length = 1 by omega]; rfl
set_option maxRecDepth 8000 in
set_option maxHeartbeats 4000000 in
theorem runs_c (L : List Int) (hL : L.length ≤ 5000) (H : AH) : ACall Try.prog 59 [.cs (iS .i64 L) L.length] H (fun y H' => y = .cs (iS .i64 (flatR (runsR L))) (flatR (runsR L)).length ∧ H' = H) := by
  have hLl : (iS .i64 L).length = L.length := by simp
  refine ACall.cold (es := 1) (by simp) ?_
  refine ACall_of tt_ok (dok _) Try.func59 rfl (by decide) rfl ?_
  (repeat' ((conv => whnf); first | left | refine OpsA.cons ?_ | refine OpsA.nil ?_ | refine AWq.seq ?_ | refine AWq.region ?_ | refine AWq.cond ?_ | refine AWq.block ?_ | refine AWq.skip ?_ | refine AWq.ret ?_ | refine AWq.exit ?_ | refine AWq.loop ?_ | (refine Both.mk ?_ ?_ <;> intro hc <;> (first | exact Bool.noConfusion hc | exact absurd (by with_reducible rfl) hc | exact absurd hc (by assumption) | (exfalso; omega) | skip)) | (intro c hc; (try (simp only [AH.none_iff] at hc; repeat (have hn := hc.1; replace hc := hc.2))); (first | (have hc2 := Eq.trans hc (by with_reducible assumption); clear hc; subst hc2) | (refine i64_k hc ?_ ?_ ?_ ; omega; omega; (clear hc; intro hc; subst hc)) | skip)) | (apply Exists.intro; apply And.intro; (first | (focus (repeat (first | (with_reducible assumption) | (with_reducible exact AH.set_same _ _ _))); done) | (focus (repeat (first | assumption)); done))) | (apply Exists.intro; apply And.intro; first | (with_reducible assumption) | ((try simp only [List.getElem?_drop, Nat.mul_one, Nat.add_zero, Nat.zero_add]); first | (with_reducible assumption) | assumption | rfl)) | (apply And.intro; (first | rfl | (with_reducible assumption) | exact Nat.le_of_ble_eq_true rfl | omega | assumption | (simp <;> omega))))) <;> (try (conv => whnf))
  refine Then.mk ?_
  (repeat' ((conv => whnf); first | left | refine OpsA.cons ?_ | refine OpsA.nil ?_ | refine AWq.seq ?_ | refine AWq.region ?_ | refine AWq.cond ?_ | refine AWq.block ?_ | refine AWq.skip ?_ | refine AWq.ret ?_ | refine AWq.exit ?_ | refine AWq.loop ?_ | (refine Both.mk ?_ ?_ <;> intro hc <;> (first | exact Bool.noConfusion hc | exact absurd (by with_reducible rfl) hc | exact absurd hc (by assumption) | (exfalso; omega) | skip)) | (intro c hc; (try (simp only [AH.none_iff] at hc; repeat (have hn := hc.1; replace hc := hc.2))); (first | (have hc2 := Eq.trans hc (by with_reducible assumption); clear hc; subst hc2) | (refine i64_k hc ?_ ?_ ?_ ; omega; omega; (clear hc; intro hc; subst hc)) | skip)) | (apply Exists.intro; apply And.intro; (first | (focus (repeat (first | (with_reducible assumption) | (with_reducible exact AH.set_same _ _ _))); done) | (focus (repeat (first | assumption)); done))) | (apply Exists.intro; apply And.intro; first | (with_reducible assumption) | ((try simp only [List.getElem?_drop, Nat.mul_one, Nat.add_zero, Nat.zero_add]); first | (with_reducible assumption) | assumption | rfl)) | (apply And.intro; (first | rfl | (with_reducible assumption) | exact Nat.le_of_ble_eq_true rfl | omega | assumption | (simp <;> omega))))) <;> (try (conv => whnf))
  refine Then.mk (AWq.in ?_)
  refine AWp_nilrow1 3 1 rfl rfl fun q hq => ?_
  refine AWp.of tt_ok (dok _) rfl ?_
  (repeat' ((conv => whnf); first | refine Then.mk ?_ | left | refine OpsA.cons ?_ | refine OpsA.nil ?_ | refine AWq.seq ?_ | refine AWq.region ?_ | refine AWq.cond ?_ | refine AWq.block ?_ | refine AWq.skip ?_ | refine AWq.ret ?_ | refine AWq.exit ?_ | refine AWq.loop ?_ | (refine Both.mk ?_ ?_ <;> intro hc <;> (first | exact Bool.noConfusion hc | exact absurd (by with_reducible rfl) hc | exact absurd hc (by assumption) | (exfalso; omega) | skip)) | (intro c hc; (try (simp only [AH.none_iff] at hc; repeat (have hn := hc.1; replace hc := hc.2))); (first | (have hc2 := Eq.trans hc (by with_reducible assumption); clear hc; subst hc2) | (refine i64_k hc ?_ ?_ ?_ ; omega; omega; (clear hc; intro hc; subst hc)) | skip)) | (apply Exists.intro; apply And.intro; (first | (focus (repeat (first | (with_reducible assumption) | (with_reducible exact AH.set_same _ _ _))); done) | (focus (repeat (first | assumption)); done))) | (apply Exists.intro; apply And.intro; first | (with_reducible assumption) | ((try simp only [List.getElem?_drop, Nat.mul_one, Nat.add_zero, Nat.zero_add]); first | (with_reducible assumption) | assumption | rfl)) | (apply And.intro; (first | rfl | (with_reducible assumption) | exact Nat.le_of_ble_eq_true rfl | omega | assumption | (simp <;> omega))))) <;> (try (conv => whnf))
  refine AWp_loop (σ := Nat) (3 :: 4 :: 5 :: 6 :: 9 :: 10 :: 11 :: 12 :: 13 :: 14 :: 15 :: 16 :: 17 :: 18 :: 19 :: 20 :: 21 :: 22 :: 23 :: 24 :: 25 :: 26 :: 27 :: 28 :: 29 :: 30 :: 31 :: 32 :: 33 :: 34 :: 35 :: 36 :: 37 :: 38 :: []) (fun i => [(9, .int .i64 i), (3, .sl q (runsR (L.take i)).length 1 0 (flatR (runsR (L.take i))).length none)]) (fun i => H.set q (.row (iS .i64 (flatR (runsR (L.take i)))) (runsR (L.take i)).length)) (fun i => i ≤ L.length) (fun i => L.length - i) 0 rfl (Nat.zero_le _) ⟨rfl, rfl, trivial⟩ (HLe.refl _) ?_
  intro i hi
  refine AWp.of tt_ok (dok _) rfl ?_
  dsimp only at hi ⊢
  by_cases hit : i < L.length
  · have gl : (iS .i64 L)[(i : Int).toNat]? = some (.int .i64 (L.getD i 0)) := iS_get hit
    have ht : L.take (i + 1) = L.take i ++ [L.getD i 0] := take_snoc (by rw [List.getD_eq_getElem?_getD, List.getElem?_eq_getElem (by omega)]; rfl)
    have hst : runsR (L.take (i + 1)) = pushR (runsR (L.take i)) (L.getD i 0) := by rw [ht, runsR_snoc]
    generalize hX : L.getD i 0 = l at *
    by_cases h0 : i = 0
    · subst h0
      have e0 : runsR (L.take 0) = [] := by rw [List.take_zero]; rfl
      rw [e0] at hst ⊢
      have gq := AH.set_same H q (.row (iS .i64 (flatR [])) 0)
      (repeat' ((conv => whnf); first | refine Then.mk ?_ | left | refine OpsA.cons ?_ | refine OpsA.nil ?_ | refine AWq.seq ?_ | refine AWq.region ?_ | refine AWq.cond ?_ | refine AWq.block ?_ | refine AWq.skip ?_ | refine AWq.ret ?_ | refine AWq.exit ?_ | refine AWq.loop ?_ | (refine Both.mk ?_ ?_ <;> intro hc <;> (first | exact Bool.noConfusion hc | exact absurd (by with_reducible rfl) hc | exact absurd hc (by assumption) | (exfalso; omega) | skip)) | (intro c hc; (try (simp only [AH.none_iff] at hc; repeat (have hn := hc.1; replace hc := hc.2))); (first | (have hc2 := Eq.trans hc (by with_reducible assumption); clear hc; subst hc2) | (refine i64_k hc ?_ ?_ ?_ ; omega; omega; (clear hc; intro hc; subst hc)) | skip)) | (apply Exists.intro; apply And.intro; (first | (focus (repeat (first | (with_reducible assumption) | (with_reducible exact AH.set_same _ _ _))); done) | (focus (repeat (first | assumption)); done))) | (apply Exists.intro; apply And.intro; first | (with_reducible assumption) | ((try simp only [List.getElem?_drop, Nat.mul_one, Nat.add_zero, Nat.zero_add]); first | (with_reducible assumption) | assumption | rfl)) | (apply And.intro; (first | rfl | (with_reducible assumption) | exact Nat.le_of_ble_eq_true rfl | omega | assumption | (simp <;> omega))))) <;> (try (conv => whnf))
      exact ⟨0 + 1, hit, by omega, ⟨rfl, by dsimp only; rw [hst]; rfl, trivial⟩, by rw [hst, AH.set_set]; exact HLe.refl _⟩
    · obtain ⟨S, x, n, h1, h2, h3, h4⟩ := runsR_last (L := L) (show 0 < i by omega) hi
      rw [h1] at hst ⊢
      obtain ⟨m, hm⟩ : ∃ m, m = 2 * S.length := ⟨_, rfl⟩
      have hl : (flatR (S ++ [(x, n)])).length = m + 2 := by rw [flatR_len, List.length_append, List.length_singleton]; omega
      have lR : (iS .i64 (flatR (S ++ [(x, n)]))).length = m + 2 := by rw [iS_length, hl]
      have gx : (iS .i64 (flatR (S ++ [(x, n)])))[((m : Nat) : Int).toNat]? = some (.int .i64 x) := by
        rw [Int.toNat_natCast, iS_get (by rw [hl]; omega), hm, flat_x]
      have gn : (iS .i64 (flatR (S ++ [(x, n)])))[((m + 1 : Nat) : Int).toNat]? = some (.int .i64 n) := by
        rw [Int.toNat_natCast, iS_get (by rw [hl]; omega), hm, flat_n]
      have e1 : IntKind.i64.wrap (((m + 2 : Nat) : Int) - 2) = ((m : Nat) : Int) := by
        have := runsR_len (L.take i)
        rw [h1, List.length_append, List.length_singleton, List.length_take] at this
        rw [IntKind.wrap_i64]; omega
      have e2 : IntKind.i64.wrap (((m + 2 : Nat) : Int) - 1) = ((m + 1 : Nat) : Int) := by
        have := runsR_len (L.take i)
        rw [h1, List.length_append, List.length_singleton, List.length_take] at this
        rw [IntKind.wrap_i64]; omega
      have hSL : S.length ≤ 5000 := by
        have := runsR_len (L.take i)
        rw [h1, List.length_append, List.length_singleton, List.length_take] at this
        omega
      have e3 : IntKind.i64.wrap ((n : Int) + 1) = n + 1 := by rw [IntKind.wrap_i64]; omega
      have hwr : wrA (iS .i64 (flatR (S ++ [(x, n)]))) (0 + ((m + 1 : Nat) : Int).toNat * 1) [.int .i64 ((n : Int) + 1)] = iS .i64 (flatR (S ++ [(x, n + 1)])) := by
        rw [show 0 + ((m + 1 : Nat) : Int).toNat * 1 = m + 1 by omega, iS_wr1 (by rw [hl]; omega), hm, show ((n : Int) + 1) = ((n + 1 : Nat) : Int) by omega, flat_set]
      have hap : iS .i64 (flatR (S ++ [(x, n)])) ++ [.int .i64 l, .int .i64 1] = iS .i64 (flatR (S ++ [(x, n)] ++ [(l, 1)])) := by
        rw [flatR_snoc (S ++ [(x, n)])]; unfold iS; rw [List.map_append]; rfl
      have hsl : (S ++ [(x, n)]).length = S.length + 1 := by simp
      rw [hl, hsl]
      have gq := AH.set_same H q (.row (iS .i64 (flatR (S ++ [(x, n)]))) (S.length + 1))
      generalize hR1 : iS .i64 (flatR (S ++ [(x, n)])) = R1 at *
      by_cases hx : x = l
      · subst hx
        rw [pushR_same] at hst
        (repeat' ((conv => whnf); first | refine Then.mk ?_ | left | refine OpsA.cons ?_ | refine OpsA.nil ?_ | refine AWq.seq ?_ | refine AWq.region ?_ | refine AWq.cond ?_ | refine AWq.block ?_ | refine AWq.skip ?_ | refine AWq.ret ?_ | refine AWq.exit ?_ | refine AWq.loop ?_ | (refine Both.mk ?_ ?_ <;> intro hc <;> (first | exact Bool.noConfusion hc | exact absurd (by with_reducible rfl) hc | exact absurd hc (by assumption) | (exfalso; omega) | skip)) | (intro c hc; (try (simp only [AH.none_iff] at hc; repeat (have hn := hc.1; replace hc := hc.2))); (first | (have hc2 := Eq.trans hc (by with_reducible assumption); clear hc; subst hc2) | (refine i64_k hc ?_ ?_ ?_ ; omega; omega; (clear hc; intro hc; subst hc)) | skip)) | (apply Exists.intro; apply And.intro; (first | (focus (repeat (first | (with_reducible assumption) | (with_reducible exact AH.set_same _ _ _))); done) | (focus (repeat (first | assumption)); done))) | (apply Exists.intro; apply And.intro; first | (with_reducible assumption) | ((try simp only [List.getElem?_drop, Nat.mul_one, Nat.add_zero, Nat.zero_add]); first | (with_reducible assumption) | assumption | rfl)) | (apply And.intro; (first | rfl | (with_reducible assumption) | exact Nat.le_of_ble_eq_true rfl | omega | assumption | (simp <;> omega))))) <;> (try (conv => whnf))
        refine ⟨i + 1, hit, by omega, ⟨congrArg (AV.int .i64) (by omega), ?_, trivial⟩, ?_⟩
        · dsimp only; rw [hst, flatR_len, List.length_append, List.length_singleton]
          exact congrArg (fun z => AV.sl q (S.length + 1) 1 0 z none) (by omega)
        · rw [hst, AH.set_set]
          show HLe _ (AH.set H q (.row (wrA R1 (0 + ((m + 1 : Nat) : Int).toNat * 1) [.int .i64 ((n : Int) + 1)]) (S.length + 1)))
          rw [hwr, List.length_append, List.length_singleton]; exact HLe.refl _
      · rw [pushR_new _ _ _ _ hx] at hst
        (repeat' ((conv => whnf); first | refine Then.mk ?_ | left | refine OpsA.cons ?_ | refine OpsA.nil ?_ | refine AWq.seq ?_ | refine AWq.region ?_ | refine AWq.cond ?_ | refine AWq.block ?_ | refine AWq.skip ?_ | refine AWq.ret ?_ | refine AWq.exit ?_ | refine AWq.loop ?_ | (refine Both.mk ?_ ?_ <;> intro hc <;> (first | exact Bool.noConfusion hc | exact absurd (by with_reducible rfl) hc | exact absurd hc (by assumption) | (exfalso; omega) | skip)) | (intro c hc; (try (simp only [AH.none_iff] at hc; repeat (have hn := hc.1; replace hc := hc.2))); (first | (have hc2 := Eq.trans hc (by with_reducible assumption); clear hc; subst hc2) | (refine i64_k hc ?_ ?_ ?_ ; omega; omega; (clear hc; intro hc; subst hc)) | skip)) | (apply Exists.intro; apply And.intro; (first | (focus (repeat (first | (with_reducible assumption) | (with_reducible exact AH.set_same _ _ _))); done) | (focus (repeat (first | assumption)); done))) | (apply Exists.intro; apply And.intro; first | (with_reducible assumption) | ((try simp only [List.getElem?_drop, Nat.mul_one, Nat.add_zero, Nat.zero_add]); first | (with_reducible assumption) | assumption | rfl)) | (apply And.intro; (first | rfl | (with_reducible assumption) | exact Nat.le_of_ble_eq_true rfl | omega | assumption | (simp <;> omega))))) <;> (try (conv => whnf))
        refine ⟨i + 1, hit, by omega, ⟨congrArg (AV.int .i64) (by omega), ?_, trivial⟩, ?_⟩
        · dsimp only; rw [hst, flatR_len, List.length_append, List.length_singleton, hsl]
          exact congrArg (fun z => AV.sl q (S.length + 2) 1 0 z none) (by omega)
        · rw [hst, AH.set_set, ← hap, List.length_append, List.length_singleton, hsl]; exact HLe.refl _
  · have hie : i = L.length := by omega
    subst hie
    rw [List.take_length]
    (repeat' ((conv => whnf); first | refine Then.mk ?_ | left | refine OpsA.cons ?_ | refine OpsA.nil ?_ | refine AWq.seq ?_ | refine AWq.region ?_ | refine AWq.cond ?_ | refine AWq.block ?_ | refine AWq.skip ?_ | refine AWq.ret ?_ | refine AWq.exit ?_ | refine AWq.loop ?_ | (refine Both.mk ?_ ?_ <;> intro hc <;> (first | exact Bool.noConfusion hc | exact absurd (by with_reducible rfl) hc | exact absurd hc (by assumption) | (exfalso; omega) | skip)) | (intro c hc; (try (simp only [AH.none_iff] at hc; repeat (have hn := hc.1; replace hc := hc.2))); (first | (have hc2 := Eq.trans hc (by with_reducible assumption); clear hc; subst hc2) | (refine i64_k hc ?_ ?_ ?_ ; omega; omega; (clear hc; intro hc; subst hc)) | skip)) | (apply Exists.intro; apply And.intro; (first | (focus (repeat (first | (with_reducible assumption) | (with_reducible exact AH.set_same _ _ _))); done) | (focus (repeat (first | assumption)); done))) | (apply Exists.intro; apply And.intro; first | (with_reducible assumption) | ((try simp only [List.getElem?_drop, Nat.mul_one, Nat.add_zero, Nat.zero_add]); first | (with_reducible assumption) | assumption | rfl)) | (apply And.intro; (first | rfl | (with_reducible assumption) | exact Nat.le_of_ble_eq_true rfl | omega | assumption | (simp <;> omega))))) <;> (try (conv => whnf))
open Go.Fw Go

def encN (n : Nat) : List UInt8 := if h : n < 128 then [UInt8.ofNat n] else UInt8.ofNat (n % 128 + 128) :: encN (n / 128)
termination_by n
decreasing_by omega

theorem encN_lt {n : Nat} (h : n < 128) : encN n = [UInt8.ofNat n] := by rw [encN, dif_pos h]
theorem encN_ge {n : Nat} (h : ¬ n < 128) : encN n = UInt8.ofNat (n % 128 + 128) :: encN (n / 128) := by rw [encN, dif_neg h]

theorem encN_pos (n : Nat) : 0 < (encN n).length := by
  by_cases h : n < 128
  · rw [encN_lt h]; simp
  · rw [encN_ge h]; simp

theorem encN_len : ∀ (f n : Nat), n < 128 ^ (f + 1) → (encN n).length ≤ f + 1
  | 0, n, h => by rw [encN_lt (by simpa using h)]; simp
  | f + 1, n, h => by
    by_cases h' : n < 128
    · rw [encN_lt h']; simp
    · rw [encN_ge h', List.length_cons]
      have : n / 128 < 128 ^ (f + 1) := by
        rw [Nat.div_lt_iff_lt_mul (by omega)]
        rw [← Nat.pow_succ]; exact h
      have := encN_len f _ this
      omega

theorem encN_len10 {n : Nat} (h : n < 2 ^ 64) : (encN n).length ≤ 10 := encN_len 9 n (Nat.lt_of_lt_of_le h (by decide))

def rdN : Nat → Nat → List UInt8 → Except Int (Nat × List UInt8)
  | _, _, [] => .error 3
  | i, acc, c :: r => if (i = 9 ∧ 1 < c.toNat) ∨ (0 < i ∧ c.toNat = 0) then .error 2 else
    if c.toNat < 128 then .ok (acc + c.toNat * 128 ^ i, r) else rdN (i + 1) (acc + (c.toNat % 128) * 128 ^ i) r

theorem u8_ofNat {n : Nat} (h : n < 256) : (UInt8.ofNat n).toNat = n := by rw [UInt8.toNat_ofNat']; omega

theorem rdN_enc : ∀ (n i acc : Nat) (r : List UInt8), i ≤ 9 → n * 128 ^ i < 2 ^ 64 → (0 < i → 0 < n) → rdN i acc (encN n ++ r) = .ok (acc + n * 128 ^ i, r) := by
  intro n
  induction n using Nat.strongRecOn with
  | ind n ih =>
    intro i acc r hi hn h0
    have h9 : i = 9 → n ≤ 1 := by
      intro e; subst e
      rcases Nat.lt_or_ge 1 n with h | h
      · have : 2 * 128 ^ 9 ≤ n * 128 ^ 9 := Nat.mul_le_mul_right _ h
        have : (2 : Nat) * 128 ^ 9 = 2 ^ 64 := by decide
        omega
      · exact h
    by_cases h : n < 128
    · rw [encN_lt h, List.cons_append, List.nil_append, rdN, u8_ofNat (by omega), if_neg (by omega), if_pos h]
    · have h8 : i ≠ 9 := fun e => by have := h9 e; omega
      rw [encN_ge h, List.cons_append, rdN, u8_ofNat (by omega), if_neg (by omega), if_neg (by omega)]
      have hm : n / 128 * 128 ^ (i + 1) ≤ n * 128 ^ i := by
        rw [Nat.pow_succ, Nat.mul_comm (128 ^ i) 128, ← Nat.mul_assoc]
        exact Nat.mul_le_mul_right _ (Nat.div_mul_le_self n 128)
      rw [ih (n / 128) (by omega) (i + 1) _ r (by omega) (by omega) (by omega)]
      congr 2
      rw [Nat.add_assoc]
      congr 1
      rw [show (n % 128 + 128) % 128 = n % 128 by omega, Nat.pow_succ, Nat.mul_comm (128 ^ i) 128, ← Nat.mul_assoc, ← Nat.add_mul]
      congr 1
      omega

theorem rdN_uniq : ∀ (bs : List UInt8) (i acc m : Nat) (r : List UInt8), i ≤ 9 → rdN i acc bs = .ok (m, r) → ∃ n, m = acc + n * 128 ^ i ∧ bs = encN n ++ r ∧ n < 2 ^ (64 - 7 * i) ∧ (0 < i → 0 < n)
  | [], i, acc, m, r, hi, h => by simp [rdN] at h
  | c :: t, i, acc, m, r, hi, h => by
    rw [rdN] at h
    split at h
    · cases h
    · rename_i h1
      split at h
      · rename_i h2
        cases h
        refine ⟨c.toNat, rfl, ?_, ?_, by omega⟩
        · rw [encN_lt h2]; simp
        · by_cases h9 : i = 9
          · subst h9; have : c.toNat ≤ 1 := by omega
            omega
          · have : 2 ^ 7 ≤ 2 ^ (64 - 7 * i) := Nat.pow_le_pow_right (by omega) (by omega)
            omega
      · rename_i h2
        have h9 : i ≠ 9 := by omega
        obtain ⟨n, hm, ht, hn, hp⟩ := rdN_uniq t (i + 1) _ m r (by omega) h
        have hp := hp (by omega)
        have hc := c.toNat_lt
        refine ⟨c.toNat % 128 + 128 * n, ?_, ?_, ?_, by omega⟩
        · rw [hm, Nat.add_assoc, Nat.add_mul]
          congr 2
          rw [Nat.pow_succ, Nat.mul_comm (128 ^ i) 128, ← Nat.mul_assoc, Nat.mul_comm n 128]
        · rw [encN_ge (by omega), show (c.toNat % 128 + 128 * n) / 128 = n by omega, show (c.toNat % 128 + 128 * n) % 128 + 128 = c.toNat by omega, ht]
          simp
        · have e : 2 ^ (64 - 7 * i) = 128 * 2 ^ (64 - 7 * (i + 1)) := by
            rw [show 64 - 7 * i = 7 + (64 - 7 * (i + 1)) by omega, Nat.pow_add]
          omega

def zz (n : Int) : Nat := if n < 0 then (-2 * n - 1).toNat else (2 * n).toNat
def unzz (z : Nat) : Int := if z % 2 = 1 then -((z / 2 : Nat) : Int) - 1 else ((z / 2 : Nat) : Int)
theorem unzz_zz (n : Int) : unzz (zz n) = n := by
  unfold zz unzz
  split <;> split <;> omega
theorem zz_lt {n : Int} (h1 : -9223372036854775808 ≤ n) (h2 : n ≤ 9223372036854775807) : zz n < 2 ^ 64 := by
  unfold zz; split <;> omega
theorem ofInt_u64 {x : Int} (h : 0 ≤ x ∧ x < 18446744073709551616) : (BitVec.ofInt 64 x).toNat = x.toNat := by
  rw [BitVec.toNat_ofInt]; omega

theorem wrap_u64' (x : Int) : IntKind.u64.wrap x = x % 18446744073709551616 := rfl

theorem zz_wire {n : Int} (h1 : -9223372036854775808 ≤ n) (h2 : n ≤ 9223372036854775807) :
    bitsA .xor .u64 (IntKind.u64.wrap (IntKind.u64.wrap n * 2 ^ (min 1 64))) (IntKind.u64.wrap (n.fdiv (2 ^ (min 63 64)))) = (zz n : Int) := by
  have e1 : IntKind.u64.wrap (IntKind.u64.wrap n * 2 ^ (min 1 64)) = (2 * n) % 18446744073709551616 := by
    simp only [wrap_u64', show min 1 64 = 1 by decide, Int.pow_one]
    omega
  rw [e1]
  show IntKind.u64.wrap ((BitVec.ofInt 64 _ ^^^ BitVec.ofInt 64 _).toNat : Int) = _
  by_cases hn : n < 0
  · have e2 : IntKind.u64.wrap (n.fdiv (2 ^ (min 63 64))) = 18446744073709551615 := by
      rw [wrap_u64', show min 63 64 = 63 by decide, Int.fdiv_eq_ediv_of_nonneg _ (by decide)]
      have : n / 2 ^ 63 = -1 := by omega
      rw [this]; decide
    rw [e2, show BitVec.ofInt 64 18446744073709551615 = BitVec.allOnes 64 by decide, BitVec.xor_allOnes, BitVec.toNat_not, ofInt_u64 (by omega), wrap_u64']
    unfold zz
    rw [if_pos hn]
    omega
  · have e2 : IntKind.u64.wrap (n.fdiv (2 ^ (min 63 64))) = 0 := by
      rw [wrap_u64', show min 63 64 = 63 by decide, Int.fdiv_eq_ediv_of_nonneg _ (by decide)]
      have : n / 2 ^ 63 = 0 := by omega
      rw [this]; decide
    rw [e2, show BitVec.ofInt 64 0 = 0#64 by decide, BitVec.xor_zero, ofInt_u64 (by omega), wrap_u64']
    unfold zz
    rw [if_neg hn]
    omega
open Go.Fw Go

set_option maxRecDepth 8000 in
theorem Mul64_c (n : Nat) (h : n ≤ 4294967295) (H : AH) : ACall Try.prog 109 [.int .u64 1, .int .u64 n] H (fun y H' => y = .tup [.int .u64 0, .int .u64 n] ∧ H' = H) := by
  have e0 : (2 : Int) ^ min (Int.toNat 32) IntKind.u64.bits = 4294967296 := by decide
  have e1 : (n : Int).fdiv 4294967296 = 0 := by rw [Int.fdiv_eq_ediv_of_nonneg _ (by omega)]; omega
  have e2 : bitsA .and .u64 (n : Int) 4294967295 = n := by
    show IntKind.u64.wrap ((BitVec.ofInt 64 (n : Int) &&& BitVec.ofInt 64 4294967295).toNat : Int) = _
    have ha : (BitVec.ofInt 64 (n : Int)).toNat = n := by rw [BitVec.toNat_ofInt]; omega
    have hb : (BitVec.ofInt 64 4294967295).toNat = 2 ^ 32 - 1 := by decide
    rw [BitVec.toNat_and, ha, hb, Nat.and_two_pow_sub_one_eq_mod, wrap_u64']
    omega
  have e3 : bitsA .and .u64 1 4294967295 = 1 := by decide
  have e4 : Int.fdiv 1 4294967296 = 0 := by decide
  have e5 : IntKind.u64.wrap (n : Int) = n := by rw [wrap_u64']; omega
  have e6 : bitsA .and .u64 0 4294967295 = 0 := by decide
  have e7 : IntKind.u64.wrap 0 = 0 := by decide
  have e8 : Int.fdiv 0 4294967296 = 0 := by decide
  refine ACall_of tt_ok (dok _) Try.func109 rfl (by decide) rfl ?_
  (repeat' ((conv => whnf); first | refine Then.mk ?_ | refine OpsA.cons ?_ | refine OpsA.nil ?_ | refine AWq.seq ?_ | refine AWq.region ?_ | refine AWq.ret ?_ | (intro c hc; (try (simp only [AH.none_iff] at hc; repeat (have hn := hc.1; replace hc := hc.2))); (first | (have hc2 := Eq.trans hc (by with_reducible assumption); clear hc; subst hc2) | (refine u64_k hc ?_ ?_ ?_ ; omega; omega; (clear hc; intro hc; subst hc)) | subst hc)) | (apply And.intro; (first | rfl | omega)))) <;> (try (conv => whnf))
  refine ⟨?_, rfl⟩
  simp only [e0, e1, e2, e3, e4, e5, e6, e7, e8, Int.zero_mul, Int.one_mul, Int.mul_zero, Int.add_zero]
set_option maxRecDepth 8000 in
theorem Mul_c (n : Nat) (h : n ≤ 4294967295) (H : AH) : ACall Try.prog 95 [.int .u64 1, .int .u64 n] H (fun y H' => y = .tup [.int .u64 0, .int .u64 n] ∧ H' = H) := by
  have hm := fun H => Mul64_c n h H
  refine ACall_of tt_ok (dok _) Try.func95 rfl (by decide) rfl ?_
  (repeat' ((conv => whnf); first | refine Then.mk ?_ | refine OpsA.cons ?_ | refine OpsA.nil ?_ | refine AWq.seq ?_ | refine AWq.region ?_ | refine AWq.cond ?_ | refine AWq.skip ?_ | refine AWq.ret ?_ | (refine Both.mk ?_ ?_ <;> intro hc <;> (first | exact Bool.noConfusion hc | skip)) | (apply And.intro; (first | rfl)) | (refine ACall.to (hm _) ?_))) <;> (try (conv => whnf))

theorem iL_take {n m : Nat} (X : Ln) (h : m ≤ n) : (iL n X).take m = iL m X := by
  apply List.ext_getElem?
  intro i
  rw [List.getElem?_take]
  by_cases hi : i < m
  · rw [if_pos hi, iL_get X (by omega), iL_get X hi]
  · rw [if_neg hi, List.getElem?_eq_none (by rw [iL_len]; omega)]
theorem iL_drop {n m : Nat} (X : Ln) : (iL n X).drop m = iL (n - m) (fun k => X (m + k)) := by
  apply List.ext_getElem?
  intro i
  rw [List.getElem?_drop]
  by_cases hi : m + i < n
  · rw [iL_get X hi, iL_get _ (by omega)]
  · rw [List.getElem?_eq_none (by rw [iL_len]; omega), List.getElem?_eq_none (by rw [iL_len]; omega)]
theorem k_iL_app {n m : Nat} (X Y : Ln) : iL n X ++ iL m Y = iL (n + m) (fun k => if k < n then X k else Y (k - n)) := by
  apply List.ext_getElem?
  intro i
  by_cases hi : i < n
  · rw [List.getElem?_append_left (by rw [iL_len]; exact hi), iL_get _ hi, iL_get _ (by omega), if_pos hi]
  · rw [List.getElem?_append_right (by rw [iL_len]; omega), iL_len]
    by_cases h2 : i < n + m
    · rw [iL_get _ (by omega), iL_get _ h2, if_neg hi]
    · rw [List.getElem?_eq_none (by rw [iL_len]; omega), List.getElem?_eq_none (by rw [iL_len]; omega)]
theorem iL_wrs {n m c : Nat} (X Y : Ln) (h : c + m ≤ n) : wrA (iL n X) c (iL m Y) = iL n (fun k => if c ≤ k ∧ k < c + m then Y (k - c) else X k) := by
  unfold wrA
  rw [iL_take X (by omega), iL_len, iL_drop, k_iL_app, k_iL_app, show c + m + (n - (c + m)) = n by omega]
  refine iL_congr fun k hk => ?_
  by_cases h1 : k < c
  · rw [if_pos (by omega), if_pos h1, if_neg (by omega)]
  · by_cases h2 : k < c + m
    · rw [if_pos h2, if_neg h1, if_pos (by omega)]
    · rw [if_neg h2, if_neg (by omega)]
      congr 1; omega

set_option maxRecDepth 8000 in
theorem Repeat_c (n : Nat) (h1 : 1 ≤ n) (h2 : n ≤ 1000000) (H : AH) :
    ACall Try.prog 72 [.cs (iS .i64 [1]) 1, .int .i64 n] H (fun y H' => ∃ q, H q = none ∧ y = .sl q 0 1 0 n none ∧ H' = H.set q (.row (iL n fun _ => 1) 0)) := by
  have hm := fun H => Mul_c n (by omega) H
  refine ACall_of tt_ok (dok _) Try.func72 rfl (by decide) rfl ?_
  (repeat' ((conv => whnf); first | refine Then.mk ?_ | refine OpsA.cons ?_ | refine OpsA.nil ?_ | refine AWq.seq ?_ | refine AWq.region ?_ | refine AWq.cond ?_ | refine AWq.block ?_ | refine AWq.skip ?_ | refine AWq.ret ?_ | refine AWq.exit ?_ | refine AWq.loop ?_ | refine DrawA.consD ?_ | refine DrawA.nil ?_ | (refine Both.mk ?_ ?_ <;> intro hc <;> (first | exact Bool.noConfusion hc | (exfalso; omega) | skip)) | (intro c hc; (try (simp only [AH.none_iff] at hc; repeat (have hn := hc.1; replace hc := hc.2))); (first | (refine i64_k hc ?_ ?_ ?_ ; omega; omega; (clear hc; intro hc; subst hc)) | (refine u64_k hc ?_ ?_ ?_ ; omega; omega; (clear hc; intro hc; subst hc)) | skip)) | (apply Exists.intro; apply And.intro; (first | (focus (repeat (first | (with_reducible assumption) | (with_reducible exact AH.set_same _ _ _))); done))) | (apply And.intro; (first | rfl | (with_reducible assumption) | omega | (simp <;> fail) | (focus (repeat' (first | (with_reducible assumption) | exact one_iS _ _ | rfl | apply one_take)); done))) | (refine ACall.to (hm _) ?_))) <;> (try (conv => whnf))
  rename_i c hc
  refine AWp_loop (σ := Nat) (8 :: 34 :: 35 :: 36 :: 37 :: 38 :: 39 :: 40 :: 41 :: 42 :: 43 :: 44 :: 45 :: 46 :: []) (fun m => [(8, .int .i64 m)]) (fun m => AH.set H c (.row (iL n fun k => if k < m then 1 else 0) 0)) (fun m => 1 ≤ m ∧ m ≤ n) (fun m => n - m) 1 rfl ?_ ?_ ?_ ?_
  · exact ⟨Nat.le_refl _, h1⟩
  · refine ⟨?_, trivial⟩
    have : Nat.min 1 n = 1 := Nat.min_eq_left h1
    show AV.int .i64 (Nat.min 1 n : Nat) = _
    rw [this]
  · refine HLe.of_eq (Eq.symm ((AH.set_set _ _ _ _).trans (congrArg (fun l => AH.set H c (.row l 0)) ?_)))
    show wrA ((List.replicate n [AV.int .i64 0]).flatten) 0 (List.take (Nat.min 1 n * 1) (iL 1 fun _ => 1)) = _
    rw [show Nat.min 1 n = 1 from Nat.min_eq_left h1, iL_zero, iL_take _ (by omega), iL_wrs _ _ (by omega)]
    refine iL_congr fun k hk => ?_
    by_cases h : k < 1 <;> simp [h]
  · rintro m ⟨hm1, hm2⟩
    refine AWp.of tt_ok (dok _) rfl ?_
    have li := iL_len n (fun k => if k < m then 1 else 0)
    by_cases hmn : m < n
    · (repeat' ((conv => whnf); first | refine AWq.drawM ([45], []) (by decide +kernel) ?_ | refine Then.mk ?_ | refine OpsA.cons ?_ | refine OpsA.nil ?_ | refine AWq.seq ?_ | refine AWq.region ?_ | refine AWq.cond ?_ | refine AWq.block ?_ | refine AWq.skip ?_ | refine AWq.ret ?_ | refine AWq.exit ?_ | refine AWq.loop ?_ | refine DrawA.consD ?_ | refine DrawA.nil ?_ | (refine Both.mk ?_ ?_ <;> intro hc <;> (first | exact Bool.noConfusion hc | (exfalso; omega) | skip)) | (intro c hc; (try (simp only [AH.none_iff] at hc; repeat (have hn := hc.1; replace hc := hc.2))); (first | (refine i64_k hc ?_ ?_ ?_ ; omega; omega; (clear hc; intro hc; subst hc)) | (refine u64_k hc ?_ ?_ ?_ ; omega; omega; (clear hc; intro hc; subst hc)) | skip)) | (apply Exists.intro; apply And.intro; (first | (focus (repeat (first | (with_reducible assumption) | (with_reducible exact AH.set_same _ _ _))); done))) | (apply And.intro; (first | rfl | (with_reducible assumption) | omega | (simp <;> fail) | (focus (repeat' (first | (with_reducible assumption) | exact one_iS _ _ | rfl | apply one_take)); done))) | (refine ACall.to (hm _) ?_))) <;> (try (conv => whnf))
      refine ⟨.int .i64 (min m (n - m) : Nat), AH.set H c (.row (iL n fun k => if k < m + min m (n - m) then 1 else 0) 0), ?_, ?_⟩
      · (repeat' ((conv => whnf); first | refine Then.mk ?_ | refine OpsA.cons ?_ | refine OpsA.nil ?_ | refine AWq.seq ?_ | refine AWq.region ?_ | refine AWq.cond ?_ | refine AWq.block ?_ | refine AWq.skip ?_ | refine AWq.ret ?_ | refine AWq.exit ?_ | refine AWq.loop ?_ | refine DrawA.consD ?_ | refine DrawA.nil ?_ | (refine Both.mk ?_ ?_ <;> intro hc <;> (first | exact Bool.noConfusion hc | (exfalso; omega) | skip)) | (intro c hc; (try (simp only [AH.none_iff] at hc; repeat (have hn := hc.1; replace hc := hc.2))); (first | (refine i64_k hc ?_ ?_ ?_ ; omega; omega; (clear hc; intro hc; subst hc)) | (refine u64_k hc ?_ ?_ ?_ ; omega; omega; (clear hc; intro hc; subst hc)) | skip)) | (apply Exists.intro; apply And.intro; (first | (focus (repeat (first | (with_reducible assumption) | (with_reducible exact AH.set_same _ _ _))); done))) | (apply And.intro; (first | rfl | (with_reducible assumption) | omega | (simp <;> fail) | (focus (repeat' (first | (with_reducible assumption) | exact one_iS _ _ | rfl | apply one_take)); done))))) <;> (try (conv => whnf))
        refine (AH.set_set _ _ _ _).trans (congrArg (fun l => AH.set H c (.row l 0)) ?_)
        have e1 : Nat.min m (n - m) = min m (n - m) := rfl
        rw [Int.toNat_natCast, Int.toNat_natCast, e1, List.drop_zero, Nat.mul_one, Nat.mul_one, iL_take _ hm2, iL_take _ (by omega), Nat.zero_add, iL_wrs _ _ (by omega)]
        refine iL_congr fun k hk => ?_
        split <;> split <;> first | rfl | omega | (split <;> first | rfl | omega)
      · (repeat' ((conv => whnf); first | refine Then.mk ?_ | refine OpsA.cons ?_ | refine OpsA.nil ?_ | refine AWq.seq ?_ | refine AWq.region ?_ | refine AWq.cond ?_ | refine AWq.block ?_ | refine AWq.skip ?_ | refine AWq.ret ?_ | refine AWq.exit ?_ | refine AWq.loop ?_ | refine DrawA.consD ?_ | refine DrawA.nil ?_ | (refine Both.mk ?_ ?_ <;> intro hc <;> (first | exact Bool.noConfusion hc | (exfalso; omega) | skip)) | (intro c hc; (try (simp only [AH.none_iff] at hc; repeat (have hn := hc.1; replace hc := hc.2))); (first | (refine i64_k hc ?_ ?_ ?_ ; omega; omega; (clear hc; intro hc; subst hc)) | (refine u64_k hc ?_ ?_ ?_ ; omega; omega; (clear hc; intro hc; subst hc)) | skip)) | (apply Exists.intro; apply And.intro; (first | (focus (repeat (first | (with_reducible assumption) | (with_reducible exact AH.set_same _ _ _))); done))) | (apply And.intro; (first | rfl | (with_reducible assumption) | omega | (simp <;> fail) | (focus (repeat' (first | (with_reducible assumption) | exact one_iS _ _ | rfl | apply one_take)); done))))) <;> (try (conv => whnf))
        exact ⟨m + min m (n - m), by omega, by omega, ⟨congrArg (AV.int .i64) (by omega), trivial⟩, HLe.refl _⟩
    · have hme : m = n := by omega
      (repeat' ((conv => whnf); first | refine Then.mk ?_ | refine OpsA.cons ?_ | refine OpsA.nil ?_ | refine AWq.seq ?_ | refine AWq.region ?_ | refine AWq.cond ?_ | refine AWq.block ?_ | refine AWq.skip ?_ | refine AWq.ret ?_ | refine AWq.exit ?_ | refine AWq.loop ?_ | refine DrawA.consD ?_ | refine DrawA.nil ?_ | (refine Both.mk ?_ ?_ <;> intro hc <;> (first | exact Bool.noConfusion hc | (exfalso; omega) | skip)) | (intro c hc; (try (simp only [AH.none_iff] at hc; repeat (have hn := hc.1; replace hc := hc.2))); (first | (refine i64_k hc ?_ ?_ ?_ ; omega; omega; (clear hc; intro hc; subst hc)) | (refine u64_k hc ?_ ?_ ?_ ; omega; omega; (clear hc; intro hc; subst hc)) | skip)) | (apply Exists.intro; apply And.intro; (first | (focus (repeat (first | (with_reducible assumption) | (with_reducible exact AH.set_same _ _ _))); done))) | (apply And.intro; (first | rfl | (with_reducible assumption) | omega | (simp <;> fail) | (focus (repeat' (first | (with_reducible assumption) | exact one_iS _ _ | rfl | apply one_take)); done))))) <;> (try (conv => whnf))
      exact congrArg (fun l => AH.set H c (.row l 0)) (iL_congr fun k hk => by rw [if_pos (by omega)])

def mdH (H : AH) (p q n : Nat) (c : Nat → Nat) : AH := (H.set q (.row (iL n fun k => (c k : Int)) 0)).set p (.row [.sl q 0 1 0 n none, .int .i64 (plc c n : Nat)] 0)

set_option maxRecDepth 8000 in
theorem fresh_c (n : Nat) (h1 : 1 ≤ n) (h2 : n ≤ 1000000) (H : AH) :
    ACall Try.prog 103 [.int .i64 n] H (fun y H' => ∃ p q, H p = none ∧ H q = none ∧ p ≠ q ∧ y = .ptr p 0 0 ∧ H' = mdH H p q n fun _ => 1) := by
  refine ACall_of tt_ok (dok _) Try.func103 rfl (by decide) rfl ?_
  (repeat' ((conv => whnf); first | refine Then.mk ?_ | left | refine OpsA.cons ?_ | refine OpsA.nil ?_ | refine AWq.seq ?_ | refine AWq.region ?_ | refine AWq.ret ?_ | (intro c hc; (try (simp only [AH.none_iff] at hc; repeat (have hn := hc.1; replace hc := hc.2))); (first | skip)) | (apply And.intro; (first | rfl)))) <;> (try (conv => whnf))
  refine (Repeat_c n h1 h2 _).mono ?_
  rintro y H' ⟨q, hq, rfl, rfl⟩
  (repeat' ((conv => whnf); first | refine Then.mk ?_ | left | refine OpsA.cons ?_ | refine OpsA.nil ?_ | refine AWq.seq ?_ | refine AWq.region ?_ | refine AWq.ret ?_ | (intro c hc; (try (simp only [AH.none_iff] at hc; repeat (have hn := hc.1; replace hc := hc.2))); (first | skip)) | (apply And.intro; (first | rfl)))) <;> (try (conv => whnf))
  refine ⟨c, q, hc, hq, hn, rfl, ?_⟩
  unfold mdH
  rw [plc_ones]
  rfl
open Go.Fw Go

structure MdAt (H : AH) (p q n : Nat) (c : Nat → Nat) : Prop where
  hp : H p = some (.row [.sl q 0 1 0 n none, .int .i64 (plc c n : Nat)] 0)
  hq : H q = some (.row (iL n fun k => (c k : Int)) 0)
  ne : p ≠ q
  ok : MdOk n c
theorem MdAt.set {H : AH} {p q n : Nat} {c d : Nat → Nat} (h : p ≠ q) (hd : MdOk n d) : MdAt (mdH H p q n d) p q n d := by
  refine ⟨AH.set_same _ _ _, ?_, h, hd⟩
  unfold mdH
  rw [AH.set_ne _ _ (Ne.symm h), AH.set_same]
theorem iL_gi {n i : Nat} (X : Ln) (h : i < n) : (iL n X)[(i : Int).toNat]? = some (.int .i64 (X i)) := iL_get X h

set_option maxRecDepth 8000 in
theorem place_c {H : AH} {p q n : Nat} {c : Nat → Nat} (h : MdAt H p q n c) (s : Nat) (hs : s ≤ n) :
    ACall Try.prog 104 [.ptr p 0 0, .int .i64 s] H (fun y H' => y = .int .i64 (plc c s : Nat) ∧ H' = H) := by
  obtain ⟨hp, hq, hne, hok⟩ := h
  have hn := hok.hn
  obtain ⟨T, hT⟩ : ∃ T : Nat, T = plc c n := ⟨_, rfl⟩
  have hTb : T ≤ 32768 := by rw [hT]; exact hok.sum
  rw [← hT] at hp
  have hcell := fun i (hi : i < n) => iL_gi (fun k => (c k : Int)) hi
  have hlen : (iL n fun k => (c k : Int)).length = n := iL_len _ _
  generalize (iL n fun k => (c k : Int)) = cells at *
  refine ACall_of tt_ok (dok _) Try.func104 rfl (by decide) rfl ?_
  (repeat' ((conv => whnf); first | refine Then.mk ?_ | refine OpsA.cons ?_ | refine OpsA.nil ?_ | refine AWq.seq ?_ | refine AWq.region ?_ | refine AWq.cond ?_ | refine AWq.block ?_ | refine AWq.skip ?_ | refine AWq.ret ?_ | refine AWq.exit ?_ | refine AWq.loop ?_ | (refine Both.mk ?_ ?_ <;> intro hc <;> (first | exact Bool.noConfusion hc | (exfalso; omega) | skip)) | (intro c hc; (try (simp only [AH.none_iff] at hc; repeat (have hn := hc.1; replace hc := hc.2))); (first | (refine i64_k hc ?_ ?_ ?_ ; omega; omega; (clear hc; intro hc; subst hc)) | skip)) | (apply Exists.intro; apply And.intro; (first | (focus (repeat (first | (with_reducible assumption))); done))) | (apply Exists.intro; apply And.intro; first | (with_reducible assumption) | ((try simp only [List.getElem?_drop, Nat.mul_one, Nat.add_zero, Nat.zero_add]); first | (with_reducible assumption) | rfl)) | (apply And.intro; (first | rfl | (with_reducible assumption) | omega)))) <;> (try (conv => whnf))
  refine AWp_loop (σ := Nat) (5 :: 7 :: 15 :: 16 :: 17 :: 18 :: 19 :: 20 :: 21 :: 22 :: []) (fun i => [(15, .int .i64 i), (5, .int .i64 (plc c i : Nat))]) (fun _ => H) (fun i => i ≤ s) (fun i => s - i) 0 rfl ?_ ?_ ?_ ?_
  · exact Nat.zero_le _
  · exact ⟨rfl, rfl, trivial⟩
  · exact HLe.refl _
  · rintro i hi
    dsimp only at hi ⊢
    refine AWp.of tt_ok (dok _) rfl ?_
    have hpl : plc c i ≤ T := by rw [hT]; exact plc_le (by omega)
    by_cases his : i < s
    · have hg := hcell i (by omega)
      have hci := hok.le (show i < n by omega)
      (repeat' ((conv => whnf); first | refine Then.mk ?_ | refine OpsA.cons ?_ | refine OpsA.nil ?_ | refine AWq.seq ?_ | refine AWq.region ?_ | refine AWq.cond ?_ | refine AWq.block ?_ | refine AWq.skip ?_ | refine AWq.ret ?_ | refine AWq.exit ?_ | refine AWq.loop ?_ | (refine Both.mk ?_ ?_ <;> intro hc <;> (first | exact Bool.noConfusion hc | (exfalso; omega) | skip)) | (intro c hc; (try (simp only [AH.none_iff] at hc; repeat (have hn := hc.1; replace hc := hc.2))); (first | (refine i64_k hc ?_ ?_ ?_ ; omega; omega; (clear hc; intro hc; subst hc)) | skip)) | (apply Exists.intro; apply And.intro; (first | (focus (repeat (first | (with_reducible assumption))); done))) | (apply Exists.intro; apply And.intro; first | (with_reducible assumption) | ((try simp only [List.getElem?_drop, Nat.mul_one, Nat.add_zero, Nat.zero_add]); first | (with_reducible assumption) | rfl)) | (apply And.intro; (first | rfl | (with_reducible assumption) | omega)))) <;> (try (conv => whnf))
      exact ⟨i + 1, by omega, by omega, ⟨congrArg (AV.int .i64) (by omega), congrArg (AV.int .i64) (by show ((plc c i : Nat) : Int) + (c i : Int) = ((plc c i + c i : Nat) : Int); omega), trivial⟩, HLe.refl _⟩
    · have hie : i = s := by omega
      subst hie
      (repeat' ((conv => whnf); first | refine Then.mk ?_ | refine OpsA.cons ?_ | refine OpsA.nil ?_ | refine AWq.seq ?_ | refine AWq.region ?_ | refine AWq.cond ?_ | refine AWq.block ?_ | refine AWq.skip ?_ | refine AWq.ret ?_ | refine AWq.exit ?_ | refine AWq.loop ?_ | (refine Both.mk ?_ ?_ <;> intro hc <;> (first | exact Bool.noConfusion hc | (exfalso; omega) | skip)) | (intro c hc; (try (simp only [AH.none_iff] at hc; repeat (have hn := hc.1; replace hc := hc.2))); (first | (refine i64_k hc ?_ ?_ ?_ ; omega; omega; (clear hc; intro hc; subst hc)) | skip)) | (apply Exists.intro; apply And.intro; (first | (focus (repeat (first | (with_reducible assumption))); done))) | (apply Exists.intro; apply And.intro; first | (with_reducible assumption) | ((try simp only [List.getElem?_drop, Nat.mul_one, Nat.add_zero, Nat.zero_add]); first | (with_reducible assumption) | rfl)) | (apply And.intro; (first | rfl | (with_reducible assumption) | omega)))) <;> (try (conv => whnf))

theorem wrA_same' {l : List AV} {k : Nat} (v : AV) (h : k < l.length) : (wrA l k [v])[k]? = some v := by
  unfold wrA
  rw [List.append_assoc, List.getElem?_append_right (by rw [List.length_take]; omega), List.length_take, Nat.min_eq_left (by omega), Nat.sub_self]
  rfl
set_option maxRecDepth 8000 in
theorem see_c {H : AH} {p q n : Nat} {c : Nat → Nat} (h : MdAt H p q n c) (s : Nat) (hs : s < n) :
    ACall Try.prog 105 [.ptr p 0 0, .int .i64 s] H (fun y H' => y = .int .i64 0 ∧ H' = mdH H p q n (seeM n c s)) := by
  obtain ⟨hp, hq, hne, hok⟩ := h
  have hn := hok.hn
  have hu : plc (upM c s) n = plc c n + 32 := by
    have := plc_add (c := c) (s := s) (a := 32) (n := n)
    rw [if_pos hs] at this
    exact this
  have hTb := hok.sum
  have hcs := hok.le hs
  have hpu : ∀ k, k < n → upM c s k ≤ 32800 := fun k hk => by
    have := hok.le hk
    unfold upM; split <;> omega
  obtain ⟨T, hT⟩ : ∃ T : Nat, T = plc c n := ⟨_, rfl⟩
  rw [← hT] at hp hTb hu
  obtain ⟨cells, hce⟩ : ∃ cells, cells = iL n fun k => (c k : Int) := ⟨_, rfl⟩
  have hg : cells[(s : Int).toNat]? = some (.int .i64 (c s)) := by rw [hce]; exact iL_gi (fun k => (c k : Int)) hs
  have hlen : cells.length = n := by rw [hce]; exact iL_len _ _
  have hw : wrA cells (0 + (s : Int).toNat * 1) [.int .i64 ((c s : Int) + 32)] = iL n fun k => (upM c s k : Int) := by
    rw [Nat.zero_add, Nat.mul_one, Int.toNat_natCast, hce, iL_wr _ hs]
    refine iL_congr fun k hk => ?_
    unfold upM
    split
    · rename_i e; rw [e]; omega
    · rfl
  rw [← hce] at hq
  have hqp : q ≠ p := Ne.symm hne
  refine ACall_of tt_ok (dok _) Try.func105 rfl (by decide) rfl ?_
  by_cases hbig : 32768 < T + 32
  · (repeat' ((conv => whnf); first | refine Then.mk ?_ | refine OpsA.cons ?_ | refine OpsA.nil ?_ | refine AWq.seq ?_ | refine AWq.region ?_ | refine AWq.cond ?_ | refine AWq.block ?_ | refine AWq.skip ?_ | refine AWq.ret ?_ | refine AWq.exit ?_ | refine AWq.loop ?_ | refine DrawA.consD ?_ | refine DrawA.nil ?_ | refine AWq.draw (by decide +kernel) ?_ | (refine Both.mk ?_ ?_ <;> intro hc <;> (first | exact Bool.noConfusion hc | (exfalso; omega) | skip)) | (intro c hc; (try (simp only [AH.none_iff] at hc; repeat (have hn := hc.1; replace hc := hc.2))); (first | (refine i64_k hc ?_ ?_ ?_ ; omega; omega; (clear hc; intro hc; subst hc)) | skip)) | (apply Exists.intro; apply And.intro; (first | (focus (repeat (first | (with_reducible assumption) | (with_reducible exact AH.set_same _ _ _) | ((first | refine AH.get_ne ?_ ?_); (first | (with_reducible assumption))))); done))) | (apply Exists.intro; apply And.intro; first | (with_reducible assumption) | ((try simp only [List.getElem?_drop, Nat.mul_one, Nat.add_zero, Nat.zero_add]); first | (with_reducible assumption) | assumption | rfl)) | (apply And.intro; (first | rfl | (with_reducible assumption) | exact Nat.le_of_ble_eq_true rfl | omega | assumption | (simp <;> omega))))) <;> (try (conv => whnf))
    refine AWp_loop (σ := Nat) (5 :: 6 :: 47 :: 48 :: 49 :: 50 :: 51 :: 52 :: 53 :: 54 :: 55 :: 56 :: 57 :: 58 :: 59 :: 60 :: 61 :: 62 :: 63 :: 64 :: 65 :: 66 :: 67 :: 68 :: 69 :: 70 :: 71 :: 72 :: 73 :: 74 :: 75 :: []) (fun i => [(47, .int .i64 i)]) (fun i => (H.set q (.row (iL n fun k => ((if k < i then (upM c s k + 1) / 2 else upM c s k : Nat) : Int)) 0)).set p (.row [.sl q 0 1 0 n none, .int .i64 (plc (fun k => (upM c s k + 1) / 2) i : Nat)] 0)) (fun i => i ≤ n) (fun i => n - i) 0 rfl ?_ ?_ ?_ ?_
    · exact Nat.zero_le _
    · exact ⟨rfl, trivial⟩
    · refine HLe.of_eq ?_
      have e0 : (iL n fun k => ((if k < 0 then (upM c s k + 1) / 2 else upM c s k : Nat) : Int)) = wrA cells (0 + (s : Int).toNat * 1) [.int .i64 ((c s : Int) + 32)] := by
        rw [hw]; exact iL_congr fun k hk => by rw [if_neg (by omega)]
      rw [e0]
      ((funext s; simp only [AH.set, AH.del]; repeat' split) <;> (first | rfl | (exfalso; omega)))
    · rintro i hi
      dsimp only at hi ⊢
      refine AWp.of tt_ok (dok _) rfl ?_
      by_cases hin : i < n
      · have hh : 2 * plc (fun k => (upM c s k + 1) / 2) i ≤ plc (upM c s) i + i := plc_half
        have hh2 : plc (upM c s) i ≤ plc (upM c s) n := plc_le hi
        obtain ⟨hT2, hTT⟩ : ∃ x : Nat, x = plc (fun k => (upM c s k + 1) / 2) i := ⟨_, rfl⟩
        have hui := hpu i hin
        have ht : (((upM c s i : Int) + 1)).tdiv 2 = ((upM c s i + 1) / 2 : Nat) := by
          rw [Int.tdiv_eq_ediv_of_nonneg (by omega)]; omega
        have hx : (upM c s i + 1) / 2 ≤ 16400 := by omega
        obtain ⟨z, hz⟩ : ∃ z, z = iL n fun k => ((if k < i then (upM c s k + 1) / 2 else upM c s k : Nat) : Int) := ⟨_, rfl⟩
        have g1 : z[(i : Int).toNat]? = some (.int .i64 (upM c s i)) := by
          rw [hz]; refine (iL_gi _ hin).trans ?_
          rw [if_neg (by omega)]
        have hzl : z.length = n := by rw [hz]; exact iL_len _ _
        have g2 : (wrA z (i : Int).toNat [.int .i64 (((upM c s i : Int) + 1).tdiv 2)])[(i : Int).toNat]? = some (.int .i64 (((upM c s i : Int) + 1).tdiv 2)) := by
          rw [Int.toNat_natCast]
          exact wrA_same' _ (by omega)
        have w2 : wrA z (0 + (i : Int).toNat * 1) [.int .i64 (((upM c s i : Int) + 1).tdiv 2)] = iL n fun k => ((if k < i + 1 then (upM c s k + 1) / 2 else upM c s k : Nat) : Int) := by
          rw [Nat.zero_add, Nat.mul_one, Int.toNat_natCast, hz, iL_wr _ hin, ht]
          refine iL_congr fun k hk => ?_
          by_cases e : k = i
          · subst e; rw [if_pos rfl, if_pos (by omega)]
          · rw [if_neg e]
            by_cases e2 : k < i
            · rw [if_pos e2, if_pos (by omega)]
            · rw [if_neg e2, if_neg (by omega)]
        have w1 : (plc (fun k => (upM c s k + 1) / 2) i : Int) + ((upM c s i : Int) + 1).tdiv 2 = (plc (fun k => (upM c s k + 1) / 2) (i + 1) : Nat) := by
          rw [ht]
          show _ = ((plc (fun k => (upM c s k + 1) / 2) i + (upM c s i + 1) / 2 : Nat) : Int)
          omega
        rw [← hz]
        (repeat' ((conv => whnf); first | refine Then.mk ?_ | refine OpsA.cons ?_ | refine OpsA.nil ?_ | refine AWq.seq ?_ | refine AWq.region ?_ | refine AWq.cond ?_ | refine AWq.block ?_ | refine AWq.skip ?_ | refine AWq.ret ?_ | refine AWq.exit ?_ | refine AWq.loop ?_ | refine DrawA.consD ?_ | refine DrawA.nil ?_ | refine AWq.draw (by decide +kernel) ?_ | (refine Both.mk ?_ ?_ <;> intro hc <;> (first | exact Bool.noConfusion hc | (exfalso; omega) | skip)) | (intro c hc; (try (simp only [AH.none_iff] at hc; repeat (have hn := hc.1; replace hc := hc.2))); (first | (refine i64_k hc ?_ ?_ ?_ ; omega; omega; (clear hc; intro hc; subst hc)) | skip)) | (apply Exists.intro; apply And.intro; (first | (focus (repeat (first | (with_reducible assumption) | (with_reducible exact AH.set_same _ _ _) | ((first | refine AH.get_ne ?_ ?_); (first | (with_reducible assumption))))); done))) | (apply Exists.intro; apply And.intro; first | (with_reducible assumption) | ((try simp only [List.getElem?_drop, Nat.mul_one, Nat.add_zero, Nat.zero_add]); first | (with_reducible assumption) | assumption | rfl)) | (apply And.intro; (first | rfl | (with_reducible assumption) | exact Nat.le_of_ble_eq_true rfl | omega | assumption | (simp <;> omega))))) <;> (try (conv => whnf))
        refine ⟨i + 1, by omega, by omega, ⟨congrArg (AV.int .i64) (by omega), trivial⟩, HLe.of_eq ?_⟩
        rw [← w2, ← w1]
        ((funext s; simp only [AH.set, AH.del]; repeat' split) <;> (first | rfl | (exfalso; omega)))
      · have hie : i = n := by omega
        subst hie
        (repeat' ((conv => whnf); first | refine Then.mk ?_ | refine OpsA.cons ?_ | refine OpsA.nil ?_ | refine AWq.seq ?_ | refine AWq.region ?_ | refine AWq.cond ?_ | refine AWq.block ?_ | refine AWq.skip ?_ | refine AWq.ret ?_ | refine AWq.exit ?_ | refine AWq.loop ?_ | refine DrawA.consD ?_ | refine DrawA.nil ?_ | refine AWq.draw (by decide +kernel) ?_ | (refine Both.mk ?_ ?_ <;> intro hc <;> (first | exact Bool.noConfusion hc | (exfalso; omega) | skip)) | (intro c hc; (try (simp only [AH.none_iff] at hc; repeat (have hn := hc.1; replace hc := hc.2))); (first | (refine i64_k hc ?_ ?_ ?_ ; omega; omega; (clear hc; intro hc; subst hc)) | skip)) | (apply Exists.intro; apply And.intro; (first | (focus (repeat (first | (with_reducible assumption) | (with_reducible exact AH.set_same _ _ _) | ((first | refine AH.get_ne ?_ ?_); (first | (with_reducible assumption))))); done))) | (apply Exists.intro; apply And.intro; first | (with_reducible assumption) | ((try simp only [List.getElem?_drop, Nat.mul_one, Nat.add_zero, Nat.zero_add]); first | (with_reducible assumption) | assumption | rfl)) | (apply And.intro; (first | rfl | (with_reducible assumption) | exact Nat.le_of_ble_eq_true rfl | omega | assumption | (simp <;> omega))))) <;> (try (conv => whnf))
        have e : seeM i c s = fun k => (upM c s k + 1) / 2 := if_pos (by omega)
        unfold mdH
        rw [e]
        have e2 : (iL i fun k => ((if k < i then (upM c s k + 1) / 2 else upM c s k : Nat) : Int)) = iL i fun k => (((upM c s k + 1) / 2 : Nat) : Int) := iL_congr fun k hk => by rw [if_pos hk]
        rw [e2]
  · (repeat' ((conv => whnf); first | refine Then.mk ?_ | refine OpsA.cons ?_ | refine OpsA.nil ?_ | refine AWq.seq ?_ | refine AWq.region ?_ | refine AWq.cond ?_ | refine AWq.block ?_ | refine AWq.skip ?_ | refine AWq.ret ?_ | refine AWq.exit ?_ | refine AWq.loop ?_ | refine DrawA.consD ?_ | refine DrawA.nil ?_ | refine AWq.draw (by decide +kernel) ?_ | (refine Both.mk ?_ ?_ <;> intro hc <;> (first | exact Bool.noConfusion hc | (exfalso; omega) | skip)) | (intro c hc; (try (simp only [AH.none_iff] at hc; repeat (have hn := hc.1; replace hc := hc.2))); (first | (refine i64_k hc ?_ ?_ ?_ ; omega; omega; (clear hc; intro hc; subst hc)) | skip)) | (apply Exists.intro; apply And.intro; (first | (focus (repeat (first | (with_reducible assumption) | (with_reducible exact AH.set_same _ _ _) | ((first | refine AH.get_ne ?_ ?_); (first | (with_reducible assumption))))); done))) | (apply Exists.intro; apply And.intro; first | (with_reducible assumption) | ((try simp only [List.getElem?_drop, Nat.mul_one, Nat.add_zero, Nat.zero_add]); first | (with_reducible assumption) | assumption | rfl)) | (apply And.intro; (first | rfl | (with_reducible assumption) | exact Nat.le_of_ble_eq_true rfl | omega | assumption | (simp <;> omega))))) <;> (try (conv => whnf))
    show (H.set q (.row (wrA cells (0 + (s : Int).toNat * 1) [.int .i64 ((c s : Int) + 32)]) 0)).set p (.row [.sl q 0 1 0 n none, .int .i64 ((T : Int) + 32)] 0) = _
    have e : seeM n c s = upM c s := if_neg (by omega)
    unfold mdH
    rw [e, hw, hu]
    rfl

open Go.Fw Go

theorem wr64 {r : Nat} (h : r < 18446744073709551616) : IntKind.u64.wrap (r : Int) = r := by rw [wrap_u64']; omega
theorem wrap_u8' (x : Int) : IntKind.u8.wrap x = x % 256 := by show x.emod (2 ^ 8) = _; rfl
set_option maxRecDepth 8000 in
theorem narrow_c {H : AH} {w : Nat} {x : AV} {low W p c t : Nat} (hw : H w = some (.row [.int .u64 low, .int .u64 W, x] 0)) (hs : StOk p c t) (hW : W ≤ 4294967296) :
    ACall Try.prog 106 [.ptr w 0 0, .int .i64 c, .int .i64 t, .int .i64 p] H (fun y H' => y = .int .u64 (W / t * p : Nat) ∧ H' = H.set w (.row [.int .u64 low, .int .u64 (W / t * c : Nat), x] 0)) := by
  obtain ⟨h1, h2, h3⟩ := hs
  have hd : (W : Int).tdiv (t : Int) = (W / t : Nat) := (Int.ofNat_tdiv W t).symm
  have a1 : W / t * p ≤ W := Nat.le_trans (Nat.mul_le_mul_left _ (show p ≤ t by omega)) (Nat.div_mul_le_self _ _)
  have a2 : W / t * c ≤ W := Nat.le_trans (Nat.mul_le_mul_left _ (show c ≤ t by omega)) (Nat.div_mul_le_self _ _)
  have a3 : W / t ≤ W := Nat.div_le_self _ _
  have b1 := Int.natCast_mul (W / t) p
  have b2 := Int.natCast_mul (W / t) c
  have e1 : IntKind.u64.wrap ((W : Int).tdiv (t : Int)) = (W / t : Nat) := by rw [hd]; exact wr64 (by omega)
  have e2 : IntKind.u64.wrap (((W / t : Nat) : Int) * p) = (W / t * p : Nat) := by rw [← b1]; exact wr64 (by omega)
  have e3 : IntKind.u64.wrap (((W / t : Nat) : Int) * c) = (W / t * c : Nat) := by rw [← b2]; exact wr64 (by omega)
  refine ACall_of tt_ok (dok _) Try.func106 rfl (by decide) rfl ?_
  (repeat' ((conv => whnf); first | refine Then.mk ?_ | refine OpsA.cons ?_ | refine OpsA.nil ?_ | refine AWq.seq ?_ | refine AWq.region ?_ | refine AWq.ret ?_ | (intro c hc; (try (simp only [AH.none_iff] at hc; repeat (have hn := hc.1; replace hc := hc.2))); (first | (have hc2 := Eq.trans hc (by with_reducible assumption); clear hc; subst hc2) | (refine u64_k hc ?_ ?_ ?_ ; omega; omega; (clear hc; intro hc; subst hc)))) | (apply Exists.intro; apply And.intro; (first | (focus (repeat (first | (with_reducible assumption))); done))) | (apply Exists.intro; apply And.intro; first | (with_reducible assumption) | ((try simp only [List.getElem?_drop, Nat.mul_one, Nat.add_zero, Nat.zero_add]); first | (with_reducible assumption) | rfl)) | (apply And.intro; (first | rfl | (with_reducible assumption) | exact Nat.le_of_ble_eq_true rfl | omega)))) <;> (try (conv => whnf))
  rfl

def wtH (H : AH) (w r v : Nat) (bs : List UInt8) (low W : Nat) : AH := (H.set r (.row (u8s bs) v)).set w (.row [.int .u64 low, .int .u64 W, .sl r v 1 0 bs.length none] 0)
def wcH (H : AH) (w r : Nat) (σ : Cs) : AH := wtH H w r σ.L (dig σ.L (σ.V / 4294967296)) (σ.V % 4294967296) σ.W

def car (L top k : Nat) : List UInt8 := dig (L - k) (top / 256 ^ k) ++ List.replicate k 0
theorem car_len {L top k : Nat} (h : k ≤ L) : (car L top k).length = L := by simp [car]; omega
theorem car_zero (L top : Nat) : car L top 0 = dig L top := by simp [car]
theorem dig_succ (m y : Nat) : dig (m + 1) y = dig m (y / 256) ++ [UInt8.ofNat (y % 256)] := rfl
theorem car_get {L top k : Nat} (h : k < L) : (u8s (car L top k))[L - 1 - k]? = some (.int .u8 ((top / 256 ^ k % 256 : Nat) : Int)) := by
  have e : L - k = (L - 1 - k) + 1 := by omega
  have hd : (UInt8.ofNat (top / 256 ^ k % 256)).toNat = top / 256 ^ k % 256 := by simp
  unfold car u8s
  rw [e, dig_succ, List.append_assoc, List.getElem?_map, List.getElem?_append_right (by simp), dig_len, Nat.sub_self]
  show some (AV.int .u8 ((UInt8.ofNat (top / 256 ^ k % 256)).toNat : Int)) = _
  rw [hd]
theorem set_mid {α : Type} (a c : List α) (x y : α) : (a ++ [x] ++ c).set a.length y = a ++ [y] ++ c := by
  rw [List.append_assoc, List.set_append_right _ _ (Nat.le_refl _), Nat.sub_self, List.append_assoc]; rfl
theorem car_wr {L top k : Nat} (h : k < L) (y : UInt8) : wrA (u8s (car L top k)) (L - 1 - k) [.int .u8 y.toNat] = u8s (dig (L - 1 - k) (top / 256 ^ (k + 1)) ++ [y] ++ List.replicate k 0) := by
  have e : L - k = (L - 1 - k) + 1 := by omega
  have hl : (dig (L - 1 - k) (top / 256 ^ k / 256)).length = L - 1 - k := dig_len _ _
  rw [wr_u8s (by rw [car_len (by omega)]; omega)]
  congr 1
  unfold car
  rw [e, dig_succ, Nat.pow_succ, ← Nat.div_div_eq_div_mul]
  have := set_mid (dig (L - 1 - k) (top / 256 ^ k / 256)) (List.replicate k 0) (UInt8.ofNat (top / 256 ^ k % 256)) y
  rw [hl] at this
  exact this
theorem car_next {L top k : Nat} (h : k < L) : dig (L - 1 - k) (top / 256 ^ (k + 1)) ++ [0] ++ List.replicate k 0 = car L top (k + 1) := by
  unfold car
  rw [List.append_assoc, show L - (k + 1) = L - 1 - k by omega]
  congr 1
theorem car_end {L top k : Nat} (h : k < L) (h1 : top + 1 = (top / 256 ^ k + 1) * 256 ^ k) (h2 : top / 256 ^ k % 256 ≠ 255) :
    dig (L - 1 - k) (top / 256 ^ (k + 1)) ++ [UInt8.ofNat (top / 256 ^ k % 256 + 1)] ++ List.replicate k 0 = dig L (top + 1) := by
  rw [h1]
  have e : L = (L - 1 - k + 1) + k := by omega
  have := dig_zeros (L - 1 - k + 1) (top / 256 ^ k + 1) k
  rw [← e] at this
  rw [this, Nat.pow_succ, ← Nat.div_div_eq_div_mul, dig_succ]
  have hb : top / 256 ^ k % 256 < 256 := Nat.mod_lt _ (by decide)
  rw [show (top / 256 ^ k + 1) / 256 = top / 256 ^ k / 256 by omega, show (top / 256 ^ k + 1) % 256 = top / 256 ^ k % 256 + 1 by omega]
theorem car_inv {top k : Nat} (h1 : top + 1 = (top / 256 ^ k + 1) * 256 ^ k) (h2 : top / 256 ^ k % 256 = 255) : top + 1 = (top / 256 ^ (k + 1) + 1) * 256 ^ (k + 1) := by
  have e : top / 256 ^ (k + 1) = top / 256 ^ k / 256 := by rw [Nat.pow_succ, Nat.div_div_eq_div_mul]
  have e2 : top / 256 ^ k + 1 = (top / 256 ^ k / 256 + 1) * 256 := by omega
  rw [e, Nat.pow_succ, Nat.mul_comm (256 ^ k) 256, ← Nat.mul_assoc, ← e2]
  exact h1


set_option maxHeartbeats 4000000 in
set_option maxRecDepth 8000 in
theorem wstep_c {H : AH} {w r : Nat} {σ : Cs} {p c t : Nat} (hwr : w ≠ r) (hc : CsOk σ) (hs : StOk p c t) (hL : σ.L ≤ 1000000000000) :
    ACall Try.prog 85 [.ptr w 0 0, .int .i64 p, .int .i64 c, .int .i64 t] (wcH H w r σ) (fun y H' => y = .tup [] ∧ H' = wcH H w r (stp σ p c t)) := by
  obtain ⟨v, hv⟩ : ∃ v, v = σ.L := ⟨_, rfl⟩
  obtain ⟨low, hlow⟩ : ∃ low, low = σ.V % 4294967296 := ⟨_, rfl⟩
  obtain ⟨top, htop⟩ : ∃ top, top = σ.V / 4294967296 := ⟨_, rfl⟩
  have hw : wcH H w r σ w = some (.row [.int .u64 low, .int .u64 σ.W, .sl r v 1 0 (dig σ.L top).length none] 0) := by
    rw [hlow, htop, hv]; exact AH.set_same _ _ _
  have hn := narrow_c hw hs hc.hi
  obtain ⟨k1, k2, k3, k4⟩ := nrw_ok hc hs
  have hi := hc.hi
  have hroom := hc.room
  have k3 : σ.V + σ.W / t * p + σ.W / t * c ≤ σ.V + σ.W := k3
  have k1 : 512 ≤ σ.W / t * c := k1
  have k2 : σ.W / t * c ≤ σ.W := k2
  have hst : stp σ p c t = shf 3 ⟨σ.V + σ.W / t * p, σ.W / t * c, σ.L⟩ := rfl
  rw [hst]
  have hrw : r ≠ w := Ne.symm hwr
  obtain ⟨X, hX⟩ : ∃ X, X = σ.W / t * p := ⟨_, rfl⟩
  obtain ⟨Y, hY⟩ : ∃ Y, Y = σ.W / t * c := ⟨_, rfl⟩
  rw [← hX, ← hY] at k3 ⊢
  rw [← hX] at k4 hn
  rw [← hY] at k1 k2 hn
  have hH : wcH H w r σ = wtH H w r v (dig σ.L top) low σ.W := by rw [hlow, htop, hv]; rfl
  rw [hH] at hw hn ⊢
  clear hst hH
  refine ACall_of tt_ok (dok _) Try.func85 rfl (by decide) rfl ?_
  refine AWq.seq ?_
  refine AWq.drawF mo ([20], [13]) (fun G => ∃ W' x, G w = some (.row [.int .u64 low, W', x] 0)) ⟨_, _, hw⟩ (by decide +kernel) ?_
  (repeat' ((conv => whnf); first | refine Then.mk ?_ | refine OpsA.cons ?_ | refine OpsA.nil ?_ | refine AWq.seq ?_ | refine AWq.region ?_ | refine AWq.cond ?_ | refine AWq.block ?_ | refine AWq.skip ?_ | refine AWq.exit ?_ | refine AWq.loop ?_ | refine DrawA.consD ?_ | refine DrawA.nil ?_ | refine DrawF.consD ?_ | refine DrawF.nil ?_ | refine AWq.draw (by decide +kernel) ?_ | (apply Exists.intro; apply Exists.intro; apply And.intro; exact hn) | (refine Both.mk ?_ ?_ <;> intro hc <;> (first | exact Bool.noConfusion hc | exact absurd hc (by assumption) | (exfalso; omega) | skip)) | (intro c hc; (try (simp only [AH.none_iff] at hc; repeat (have hn := hc.1; replace hc := hc.2))); (first | (have hc2 := Eq.trans hc (by with_reducible assumption); clear hc; subst hc2) | (refine i64_k hc ?_ ?_ ?_ ; omega; omega; (clear hc; intro hc; subst hc)) | (refine u64_k hc ?_ ?_ ?_ ; omega; omega; (clear hc; intro hc; subst hc)) | (refine u8_k hc ?_ ?_ ?_ ; omega; omega; (clear hc; intro hc; subst hc)) | skip)) | (apply Exists.intro; apply And.intro; (first | (focus (repeat (first | (with_reducible assumption) | (with_reducible exact AH.set_same _ _ _) | ((first | refine AH.get_ne ?_ ?_); (first | (with_reducible assumption))))); done) | (focus (repeat (first | exact AH.set_same _ _ _)); done))) | (apply Exists.intro; apply And.intro; first | (with_reducible assumption) | ((try simp only [List.getElem?_drop, Nat.mul_one, Nat.add_zero, Nat.zero_add]); first | (with_reducible assumption) | rfl)) | (apply And.intro; (first | rfl | (with_reducible assumption) | exact Nat.le_of_ble_eq_true rfl | omega | (simp <;> omega))))) <;> (try (conv => whnf))
  refine ⟨.int .u64 low, ?_, ?_, ?_⟩
  · (repeat' ((conv => whnf); first | refine Then.mk ?_ | refine OpsA.cons ?_ | refine OpsA.nil ?_ | refine AWq.seq ?_ | refine AWq.region ?_ | refine AWq.cond ?_ | refine AWq.block ?_ | refine AWq.skip ?_ | refine AWq.exit ?_ | refine AWq.loop ?_ | refine DrawA.consD ?_ | refine DrawA.nil ?_ | refine DrawF.consD ?_ | refine DrawF.nil ?_ | refine AWq.draw (by decide +kernel) ?_ | (refine Both.mk ?_ ?_ <;> intro hc <;> (first | exact Bool.noConfusion hc | exact absurd hc (by assumption) | (exfalso; omega) | skip)) | (intro c hc; (try (simp only [AH.none_iff] at hc; repeat (have hn := hc.1; replace hc := hc.2))); (first | (have hc2 := Eq.trans hc (by with_reducible assumption); clear hc; subst hc2) | (refine i64_k hc ?_ ?_ ?_ ; omega; omega; (clear hc; intro hc; subst hc)) | (refine u64_k hc ?_ ?_ ?_ ; omega; omega; (clear hc; intro hc; subst hc)) | (refine u8_k hc ?_ ?_ ?_ ; omega; omega; (clear hc; intro hc; subst hc)) | skip)) | (apply Exists.intro; apply And.intro; (first | (focus (repeat (first | (with_reducible assumption) | (with_reducible exact AH.set_same _ _ _) | ((first | refine AH.get_ne ?_ ?_); (first | (with_reducible assumption))))); done) | (focus (repeat (first | exact AH.set_same _ _ _)); done))) | (apply Exists.intro; apply And.intro; first | (with_reducible assumption) | ((try simp only [List.getElem?_drop, Nat.mul_one, Nat.add_zero, Nat.zero_add]); first | (with_reducible assumption) | rfl)) | (apply And.intro; (first | rfl | (with_reducible assumption) | exact Nat.le_of_ble_eq_true rfl | omega | (simp <;> omega))))) <;> (try (conv => whnf))
  · intro G hG
    obtain ⟨W', x, hG⟩ : ∃ W' x, G w = some (.row [.int .u64 low, W', x] 0) := hG
    (repeat' ((conv => whnf); first | refine Then.mk ?_ | refine OpsA.cons ?_ | refine OpsA.nil ?_ | refine AWq.seq ?_ | refine AWq.region ?_ | refine AWq.cond ?_ | refine AWq.block ?_ | refine AWq.skip ?_ | refine AWq.exit ?_ | refine AWq.loop ?_ | refine DrawA.consD ?_ | refine DrawA.nil ?_ | refine DrawF.consD ?_ | refine DrawF.nil ?_ | refine AWq.draw (by decide +kernel) ?_ | (refine Both.mk ?_ ?_ <;> intro hc <;> (first | exact Bool.noConfusion hc | exact absurd hc (by assumption) | (exfalso; omega) | skip)) | (intro c hc; (try (simp only [AH.none_iff] at hc; repeat (have hn := hc.1; replace hc := hc.2))); (first | (have hc2 := Eq.trans hc (by with_reducible assumption); clear hc; subst hc2) | (refine i64_k hc ?_ ?_ ?_ ; omega; omega; (clear hc; intro hc; subst hc)) | (refine u64_k hc ?_ ?_ ?_ ; omega; omega; (clear hc; intro hc; subst hc)) | (refine u8_k hc ?_ ?_ ?_ ; omega; omega; (clear hc; intro hc; subst hc)) | skip)) | (apply Exists.intro; apply And.intro; (first | (focus (repeat (first | (with_reducible assumption) | (with_reducible exact AH.set_same _ _ _) | ((first | refine AH.get_ne ?_ ?_); (first | (with_reducible assumption))))); done) | (focus (repeat (first | exact AH.set_same _ _ _)); done))) | (apply Exists.intro; apply And.intro; first | (with_reducible assumption) | ((try simp only [List.getElem?_drop, Nat.mul_one, Nat.add_zero, Nat.zero_add]); first | (with_reducible assumption) | rfl)) | (apply And.intro; (first | rfl | (with_reducible assumption) | exact Nat.le_of_ble_eq_true rfl | omega | (simp <;> omega))))) <;> (try (conv => whnf))
  (repeat' ((conv => whnf); first | refine Then.mk ?_ | refine OpsA.cons ?_ | refine OpsA.nil ?_ | refine AWq.seq ?_ | refine AWq.region ?_ | refine AWq.cond ?_ | refine AWq.block ?_ | refine AWq.skip ?_ | refine AWq.exit ?_ | refine AWq.loop ?_ | refine DrawA.consD ?_ | refine DrawA.nil ?_ | refine DrawF.consD ?_ | refine DrawF.nil ?_ | refine AWq.draw (by decide +kernel) ?_ | (apply Exists.intro; apply Exists.intro; apply And.intro; exact hn) | (refine Both.mk ?_ ?_ <;> intro hc <;> (first | exact Bool.noConfusion hc | exact absurd hc (by assumption) | (exfalso; omega) | skip)) | (intro c hc; (try (simp only [AH.none_iff] at hc; repeat (have hn := hc.1; replace hc := hc.2))); (first | (have hc2 := Eq.trans hc (by with_reducible assumption); clear hc; subst hc2) | (refine i64_k hc ?_ ?_ ?_ ; omega; omega; (clear hc; intro hc; subst hc)) | (refine u64_k hc ?_ ?_ ?_ ; omega; omega; (clear hc; intro hc; subst hc)) | (refine u8_k hc ?_ ?_ ?_ ; omega; omega; (clear hc; intro hc; subst hc)) | skip)) | (apply Exists.intro; apply And.intro; (first | (focus (repeat (first | (with_reducible assumption) | (with_reducible exact AH.set_same _ _ _) | ((first | refine AH.get_ne ?_ ?_); (first | (with_reducible assumption))))); done) | (focus (repeat (first | exact AH.set_same _ _ _)); done))) | (apply Exists.intro; apply And.intro; first | (with_reducible assumption) | ((try simp only [List.getElem?_drop, Nat.mul_one, Nat.add_zero, Nat.zero_add]); first | (with_reducible assumption) | rfl)) | (apply And.intro; (first | rfl | (with_reducible assumption) | exact Nat.le_of_ble_eq_true rfl | omega | (simp <;> omega))))) <;> (try (conv => whnf))
  refine And.intro (show ∃ W' x, _ = _ from ⟨_, _, AH.set_same _ _ _⟩) ?_
  (repeat' ((conv => whnf); first | refine OpsA.cons ?_ | refine OpsA.nil ?_ | refine AWq.seq ?_ | refine AWq.region ?_ | refine AWq.cond ?_ | refine AWq.block ?_ | refine AWq.skip ?_ | refine AWq.exit ?_ | refine AWq.loop ?_ | refine DrawA.consD ?_ | refine DrawA.nil ?_ | refine DrawF.consD ?_ | refine DrawF.nil ?_ | refine AWq.draw (by decide +kernel) ?_ | (refine Both.mk ?_ ?_ <;> intro hc <;> (first | exact Bool.noConfusion hc | exact absurd hc (by assumption) | (exfalso; omega) | skip)) | (intro c hc; (try (simp only [AH.none_iff] at hc; repeat (have hn := hc.1; replace hc := hc.2))); (first | (have hc2 := Eq.trans hc (by with_reducible assumption); clear hc; subst hc2) | (refine i64_k hc ?_ ?_ ?_ ; omega; omega; (clear hc; intro hc; subst hc)) | (refine u64_k hc ?_ ?_ ?_ ; omega; omega; (clear hc; intro hc; subst hc)) | (refine u8_k hc ?_ ?_ ?_ ; omega; omega; (clear hc; intro hc; subst hc)) | skip)) | (apply Exists.intro; apply And.intro; (first | (focus (repeat (first | (with_reducible assumption) | (with_reducible exact AH.set_same _ _ _) | ((first | refine AH.get_ne ?_ ?_); (first | (with_reducible assumption))))); done) | (focus (repeat (first | exact AH.set_same _ _ _)); done))) | (apply Exists.intro; apply And.intro; first | (with_reducible assumption) | ((try simp only [List.getElem?_drop, Nat.mul_one, Nat.add_zero, Nat.zero_add]); first | (with_reducible assumption) | rfl)) | (apply And.intro; (first | rfl | (with_reducible assumption) | exact Nat.le_of_ble_eq_true rfl | omega | (simp <;> omega))))) <;> (try (conv => whnf))
  refine Then.mk (AWq.in ?_)
  refine AWp_cutd (H2 := wtH H w r v (dig σ.L top) (low + X) Y) [(0, .ptr w 0 0)] rfl ⟨rfl, trivial⟩ (fun _ => rfl) (HLe.of_eq ?_) ?_
  · refine Eq.trans ?_ (Eq.symm ((congrArg (fun G => AH.set G w _) (AH.set_set _ _ _ _)).trans (AH.set_set _ _ _ _)))
    exact congrArg (fun z => AH.set _ w (.row [.int .u64 z, .int .u64 Y, .sl r v 1 0 (dig σ.L top).length none] 0)) (Int.natCast_add low X)
  have hlb : low < 4294967296 := by omega
  have htl : 4294967296 ≤ low + X → top + 1 < 256 ^ σ.L := fun h => by
    generalize 256 ^ σ.L = P at hroom ⊢
    omega
  refine AWp.of tt_ok (dok _) rfl ?_
  apply Kept_split
  case main =>
    intro tail
    by_cases hca : 4294967296 ≤ low + X
    · have htl := htl hca
      have hdl := dig_len σ.L top
      (repeat' ((conv => whnf); first | refine Then.mk ?_ | refine OpsA.cons ?_ | refine OpsA.nil ?_ | refine AWq.seq ?_ | refine AWq.region ?_ | refine AWq.cond ?_ | refine AWq.block ?_ | refine AWq.skip ?_ | refine AWq.exit ?_ | refine AWq.loop ?_ | refine DrawA.consD ?_ | refine DrawA.nil ?_ | refine DrawF.consD ?_ | refine DrawF.nil ?_ | refine AWq.draw (by decide +kernel) ?_ | (refine Both.mk ?_ ?_ <;> intro hc <;> (first | exact Bool.noConfusion hc | exact absurd hc (by assumption) | (exfalso; omega) | skip)) | (intro c hc; (try (simp only [AH.none_iff] at hc; repeat (have hn := hc.1; replace hc := hc.2))); (first | (have hc2 := Eq.trans hc (by with_reducible assumption); clear hc; subst hc2) | (refine i64_k hc ?_ ?_ ?_ ; omega; omega; (clear hc; intro hc; subst hc)) | (refine u64_k hc ?_ ?_ ?_ ; omega; omega; (clear hc; intro hc; subst hc)) | (refine u8_k hc ?_ ?_ ?_ ; omega; omega; (clear hc; intro hc; subst hc)) | skip)) | (apply Exists.intro; apply And.intro; (first | (focus (repeat (first | (with_reducible assumption) | (with_reducible exact AH.set_same _ _ _) | ((first | refine AH.get_ne ?_ ?_); (first | (with_reducible assumption))))); done) | (focus (repeat (first | exact AH.set_same _ _ _)); done))) | (apply Exists.intro; apply And.intro; first | (with_reducible assumption) | ((try simp only [List.getElem?_drop, Nat.mul_one, Nat.add_zero, Nat.zero_add]); first | (with_reducible assumption) | rfl)) | (apply And.intro; (first | rfl | (with_reducible assumption) | exact Nat.le_of_ble_eq_true rfl | omega | (simp <;> omega))))) <;> (try (conv => whnf))
      refine AWp_loop (σ := Nat) (8 :: 46 :: 47 :: 48 :: 49 :: 50 :: 51 :: 52 :: 53 :: 54 :: 55 :: 56 :: 57 :: 58 :: 59 :: 60 :: 61 :: []) (fun k => [(8, .int .i64 ((σ.L : Int) - 1 - k))]) (fun k => wtH H w r v (car σ.L top k) (low + X - 4294967296) Y) (fun k => k < σ.L ∧ top + 1 = (top / 256 ^ k + 1) * 256 ^ k) (fun k => σ.L - k) 0 rfl ?_ ?_ ?_ ?_
      · refine ⟨?_, by simp⟩
        by_cases h : σ.L = 0
        · rw [h] at htl; simp at htl
        · omega
      · refine ⟨congrArg (AV.int .i64) ?_, trivial⟩
        omega
      · refine HLe.of_eq ?_
        rw [car_zero]
        refine Eq.trans ?_ (Eq.symm (AH.set_set _ _ _ _))
        exact congrArg (fun z => AH.set _ w (.row [.int .u64 z, .int .u64 Y, .sl r v 1 0 (dig σ.L top).length none] 0)) (by omega)
      · rintro k ⟨hk1, hk2⟩
        refine AWp.of tt_ok (dok _) rfl ?_
        have hll : (car σ.L top k).length = σ.L := car_len (by omega)
        obtain ⟨z, hz⟩ : ∃ z, z = u8s (car σ.L top k) := ⟨_, rfl⟩
        have hzl : z.length = σ.L := by rw [hz]; simp [u8s, hll]
        have hix : ((σ.L : Int) - 1 - k).toNat = σ.L - 1 - k := by omega
        have hg : z[((σ.L : Int) - 1 - k).toNat]? = some (.int .u8 ((top / 256 ^ k % 256 : Nat) : Int)) := by rw [hix, hz]; exact car_get hk1
        have hw1 : wtH H w r v (car σ.L top k) (low + X - 4294967296) Y w = some (.row [.int .u64 ((low + X - 4294967296 : Nat) : Int), .int .u64 Y, .sl r v 1 0 σ.L none] 0) := by
          unfold wtH; rw [hll]; exact AH.set_same _ _ _
        have hr1 : wtH H w r v (car σ.L top k) (low + X - 4294967296) Y r = some (.row z v) := by
          unfold wtH; rw [AH.set_ne _ _ hrw, AH.set_same, hz]
        have hdm : top / 256 ^ k % 256 < 256 := Nat.mod_lt _ (by decide)
        have hset : ∀ bs : List UInt8, bs.length = σ.L → (wtH H w r v (car σ.L top k) (low + X - 4294967296) Y).set r (.row (u8s bs) v) = wtH H w r v bs (low + X - 4294967296) Y := fun bs hb => by
          unfold wtH
          rw [hll, hb, AH.set_comm _ _ _ hwr, AH.set_set]
        by_cases h255 : top / 256 ^ k % 256 = 255
        · rw [h255] at hg
          have hk3 := car_inv hk2 h255
          have hkl : k + 1 < σ.L := by
            by_cases e : k + 1 = σ.L
            · exfalso
              rw [← e] at htl
              exact absurd htl (Nat.not_lt.2 (by rw [hk3]; exact Nat.le_mul_of_pos_left _ (Nat.succ_pos _)))
            · omega
          (repeat' ((conv => whnf); first | refine Then.mk ?_ | refine OpsA.cons ?_ | refine OpsA.nil ?_ | refine AWq.seq ?_ | refine AWq.region ?_ | refine AWq.cond ?_ | refine AWq.block ?_ | refine AWq.skip ?_ | refine AWq.exit ?_ | refine AWq.loop ?_ | refine DrawA.consD ?_ | refine DrawA.nil ?_ | refine DrawF.consD ?_ | refine DrawF.nil ?_ | refine AWq.draw (by decide +kernel) ?_ | (refine Both.mk ?_ ?_ <;> intro hc <;> (first | exact Bool.noConfusion hc | exact absurd hc (by assumption) | (exfalso; omega) | skip)) | (intro c hc; (try (simp only [AH.none_iff] at hc; repeat (have hn := hc.1; replace hc := hc.2))); (first | (have hc2 := Eq.trans hc (by with_reducible assumption); clear hc; subst hc2) | (refine i64_k hc ?_ ?_ ?_ ; omega; omega; (clear hc; intro hc; subst hc)) | (refine u64_k hc ?_ ?_ ?_ ; omega; omega; (clear hc; intro hc; subst hc)) | (refine u8_k hc ?_ ?_ ?_ ; omega; omega; (clear hc; intro hc; subst hc)) | skip)) | (apply Exists.intro; apply And.intro; (first | (focus (repeat (first | (with_reducible assumption) | (with_reducible exact AH.set_same _ _ _) | ((first | refine AH.get_ne ?_ ?_); (first | (with_reducible assumption))))); done) | (focus (repeat (first | exact AH.set_same _ _ _)); done))) | (apply Exists.intro; apply And.intro; first | (with_reducible assumption) | ((try simp only [List.getElem?_drop, Nat.mul_one, Nat.add_zero, Nat.zero_add]); first | (with_reducible assumption) | rfl)) | (apply And.intro; (first | rfl | (with_reducible assumption) | exact Nat.le_of_ble_eq_true rfl | omega | (simp <;> omega))))) <;> (try (conv => whnf))
          refine ⟨k + 1, ⟨hkl, hk3⟩, by show σ.L - (k + 1) < σ.L - k; omega, ⟨congrArg (AV.int .i64) (by omega), trivial⟩, HLe.of_eq ?_⟩
          rw [← hset _ (car_len (by omega)), ← car_next hk1, ← car_wr hk1 0]
          show _ = (wtH H w r v (car σ.L top k) (low + X - 4294967296) Y).set r (.row (wrA z (0 + ((σ.L : Int) - 1 - k).toNat * 1) [.int .u8 0]) v)
          rw [Nat.zero_add, Nat.mul_one, hix, hz]
          rfl
        · have hne : ¬ ((top / 256 ^ k % 256 : Nat) : Int) = 255 := by omega
          (repeat' ((conv => whnf); first | refine OpsA.cons ?_ | refine OpsA.nil ?_ | refine AWq.seq ?_ | refine AWq.region ?_ | refine AWq.cond ?_ | refine AWq.block ?_ | refine AWq.skip ?_ | refine AWq.exit ?_ | refine AWq.loop ?_ | refine DrawA.consD ?_ | refine DrawA.nil ?_ | refine DrawF.consD ?_ | refine DrawF.nil ?_ | refine AWq.draw (by decide +kernel) ?_ | (refine Both.mk ?_ ?_ <;> intro hc <;> (first | exact Bool.noConfusion hc | exact absurd hc (by assumption) | (exfalso; omega) | skip)) | (intro c hc; (try (simp only [AH.none_iff] at hc; repeat (have hn := hc.1; replace hc := hc.2))); (first | (have hc2 := Eq.trans hc (by with_reducible assumption); clear hc; subst hc2) | (refine i64_k hc ?_ ?_ ?_ ; omega; omega; (clear hc; intro hc; subst hc)) | (refine u64_k hc ?_ ?_ ?_ ; omega; omega; (clear hc; intro hc; subst hc)) | (refine u8_k hc ?_ ?_ ?_ ; omega; omega; (clear hc; intro hc; subst hc)) | skip)) | (apply Exists.intro; apply And.intro; (first | (focus (repeat (first | (with_reducible assumption) | (with_reducible exact AH.set_same _ _ _) | ((first | refine AH.get_ne ?_ ?_); (first | (with_reducible assumption))))); done) | (focus (repeat (first | exact AH.set_same _ _ _)); done))) | (apply Exists.intro; apply And.intro; first | (with_reducible assumption) | ((try simp only [List.getElem?_drop, Nat.mul_one, Nat.add_zero, Nat.zero_add]); first | (with_reducible assumption) | rfl)) | (apply And.intro; (first | rfl | (with_reducible assumption) | exact Nat.le_of_ble_eq_true rfl | omega | (simp <;> omega))))) <;> (try (conv => whnf))
          refine Then.mk ?_
          (repeat' ((conv => whnf); first | refine OpsA.cons ?_ | refine OpsA.nil ?_ | refine AWq.seq ?_ | refine AWq.region ?_ | refine AWq.cond ?_ | refine AWq.block ?_ | refine AWq.skip ?_ | refine AWq.exit ?_ | refine AWq.loop ?_ | refine DrawA.consD ?_ | refine DrawA.nil ?_ | refine DrawF.consD ?_ | refine DrawF.nil ?_ | refine AWq.draw (by decide +kernel) ?_ | (refine Both.mk ?_ ?_ <;> intro hc <;> (first | exact Bool.noConfusion hc | exact absurd hc (by assumption) | (exfalso; omega) | skip)) | (intro c hc; (try (simp only [AH.none_iff] at hc; repeat (have hn := hc.1; replace hc := hc.2))); (first | (have hc2 := Eq.trans hc (by with_reducible assumption); clear hc; subst hc2) | (refine i64_k hc ?_ ?_ ?_ ; omega; omega; (clear hc; intro hc; subst hc)) | (refine u64_k hc ?_ ?_ ?_ ; omega; omega; (clear hc; intro hc; subst hc)) | (refine u8_k hc ?_ ?_ ?_ ; omega; omega; (clear hc; intro hc; subst hc)) | skip)) | (apply Exists.intro; apply And.intro; (first | (focus (repeat (first | (with_reducible assumption) | (with_reducible exact AH.set_same _ _ _) | ((first | refine AH.get_ne ?_ ?_); (first | (with_reducible assumption))))); done) | (focus (repeat (first | exact AH.set_same _ _ _)); done))) | (apply Exists.intro; apply And.intro; first | (with_reducible assumption) | ((try simp only [List.getElem?_drop, Nat.mul_one, Nat.add_zero, Nat.zero_add]); first | (with_reducible assumption) | rfl)) | (apply And.intro; (first | rfl | (with_reducible assumption) | exact Nat.le_of_ble_eq_true rfl | omega | (simp <;> omega))))) <;> (try (conv => whnf))
          refine Then.mk ?_
          (repeat' ((conv => whnf); first | refine OpsA.cons ?_ | refine OpsA.nil ?_ | refine AWq.seq ?_ | refine AWq.region ?_ | refine AWq.cond ?_ | refine AWq.block ?_ | refine AWq.skip ?_ | refine AWq.exit ?_ | refine AWq.loop ?_ | refine DrawA.consD ?_ | refine DrawA.nil ?_ | refine DrawF.consD ?_ | refine DrawF.nil ?_ | refine AWq.draw (by decide +kernel) ?_ | (refine Both.mk ?_ ?_ <;> intro hc <;> (first | exact Bool.noConfusion hc | exact absurd hc (by assumption) | (exfalso; omega) | skip)) | (intro c hc; (try (simp only [AH.none_iff] at hc; repeat (have hn := hc.1; replace hc := hc.2))); (first | (have hc2 := Eq.trans hc (by with_reducible assumption); clear hc; subst hc2) | (refine i64_k hc ?_ ?_ ?_ ; omega; omega; (clear hc; intro hc; subst hc)) | (refine u64_k hc ?_ ?_ ?_ ; omega; omega; (clear hc; intro hc; subst hc)) | (refine u8_k hc ?_ ?_ ?_ ; omega; omega; (clear hc; intro hc; subst hc)) | skip)) | (apply Exists.intro; apply And.intro; (first | (focus (repeat (first | (with_reducible assumption) | (with_reducible exact AH.set_same _ _ _) | ((first | refine AH.get_ne ?_ ?_); (first | (with_reducible assumption))))); done) | (focus (repeat (first | exact AH.set_same _ _ _)); done))) | (apply Exists.intro; apply And.intro; first | (with_reducible assumption) | ((try simp only [List.getElem?_drop, Nat.mul_one, Nat.add_zero, Nat.zero_add]); first | (with_reducible assumption) | rfl)) | (apply And.intro; (first | rfl | (with_reducible assumption) | exact Nat.le_of_ble_eq_true rfl | omega | (simp <;> omega))))) <;> (try (conv => whnf))
          refine Then.mk (AWq.in ?_)
          refine AWp_cutd (H2 := wcH H w r ⟨σ.V + X, Y, σ.L⟩) [(0, .ptr w 0 0)] rfl ⟨rfl, trivial⟩ (fun _ => rfl) (HLe.of_eq ?_) ?_
          · have hd8 : (UInt8.ofNat (top / 256 ^ k % 256 + 1)).toNat = top / 256 ^ k % 256 + 1 := by simp; omega
            have e : wcH H w r ⟨σ.V + X, Y, σ.L⟩ = wtH H w r v (dig σ.L (top + 1)) (low + X - 4294967296) Y := by
              unfold wcH
              dsimp only
              rw [hv, show (σ.V + X) / 4294967296 = top + 1 by omega, show (σ.V + X) % 4294967296 = low + X - 4294967296 by omega]
            rw [e, ← hset _ (dig_len _ _), ← car_end hk1 hk2 h255, ← car_wr hk1, hd8]
            show _ = (wtH H w r v (car σ.L top k) (low + X - 4294967296) Y).set r (.row (wrA z (0 + ((σ.L : Int) - 1 - k).toNat * 1) [.int .u8 (((top / 256 ^ k % 256 : Nat) : Int) + 1)]) v)
            rw [Nat.zero_add, Nat.mul_one, hix, hz]
            rfl
          exact tail.out
    · (repeat' ((conv => whnf); first | refine OpsA.cons ?_ | refine OpsA.nil ?_ | refine AWq.seq ?_ | refine AWq.region ?_ | refine AWq.cond ?_ | refine AWq.block ?_ | refine AWq.skip ?_ | refine AWq.exit ?_ | refine AWq.loop ?_ | refine DrawA.consD ?_ | refine DrawA.nil ?_ | refine DrawF.consD ?_ | refine DrawF.nil ?_ | refine AWq.draw (by decide +kernel) ?_ | (refine Both.mk ?_ ?_ <;> intro hc <;> (first | exact Bool.noConfusion hc | exact absurd hc (by assumption) | (exfalso; omega) | skip)) | (intro c hc; (try (simp only [AH.none_iff] at hc; repeat (have hn := hc.1; replace hc := hc.2))); (first | (have hc2 := Eq.trans hc (by with_reducible assumption); clear hc; subst hc2) | (refine i64_k hc ?_ ?_ ?_ ; omega; omega; (clear hc; intro hc; subst hc)) | (refine u64_k hc ?_ ?_ ?_ ; omega; omega; (clear hc; intro hc; subst hc)) | (refine u8_k hc ?_ ?_ ?_ ; omega; omega; (clear hc; intro hc; subst hc)) | skip)) | (apply Exists.intro; apply And.intro; (first | (focus (repeat (first | (with_reducible assumption) | (with_reducible exact AH.set_same _ _ _) | ((first | refine AH.get_ne ?_ ?_); (first | (with_reducible assumption))))); done) | (focus (repeat (first | exact AH.set_same _ _ _)); done))) | (apply Exists.intro; apply And.intro; first | (with_reducible assumption) | ((try simp only [List.getElem?_drop, Nat.mul_one, Nat.add_zero, Nat.zero_add]); first | (with_reducible assumption) | rfl)) | (apply And.intro; (first | rfl | (with_reducible assumption) | exact Nat.le_of_ble_eq_true rfl | omega | (simp <;> omega))))) <;> (try (conv => whnf))
      refine Then.mk ?_
      (repeat' ((conv => whnf); first | refine OpsA.cons ?_ | refine OpsA.nil ?_ | refine AWq.seq ?_ | refine AWq.region ?_ | refine AWq.cond ?_ | refine AWq.block ?_ | refine AWq.skip ?_ | refine AWq.exit ?_ | refine AWq.loop ?_ | refine DrawA.consD ?_ | refine DrawA.nil ?_ | refine DrawF.consD ?_ | refine DrawF.nil ?_ | refine AWq.draw (by decide +kernel) ?_ | (refine Both.mk ?_ ?_ <;> intro hc <;> (first | exact Bool.noConfusion hc | exact absurd hc (by assumption) | (exfalso; omega) | skip)) | (intro c hc; (try (simp only [AH.none_iff] at hc; repeat (have hn := hc.1; replace hc := hc.2))); (first | (have hc2 := Eq.trans hc (by with_reducible assumption); clear hc; subst hc2) | (refine i64_k hc ?_ ?_ ?_ ; omega; omega; (clear hc; intro hc; subst hc)) | (refine u64_k hc ?_ ?_ ?_ ; omega; omega; (clear hc; intro hc; subst hc)) | (refine u8_k hc ?_ ?_ ?_ ; omega; omega; (clear hc; intro hc; subst hc)) | skip)) | (apply Exists.intro; apply And.intro; (first | (focus (repeat (first | (with_reducible assumption) | (with_reducible exact AH.set_same _ _ _) | ((first | refine AH.get_ne ?_ ?_); (first | (with_reducible assumption))))); done) | (focus (repeat (first | exact AH.set_same _ _ _)); done))) | (apply Exists.intro; apply And.intro; first | (with_reducible assumption) | ((try simp only [List.getElem?_drop, Nat.mul_one, Nat.add_zero, Nat.zero_add]); first | (with_reducible assumption) | rfl)) | (apply And.intro; (first | rfl | (with_reducible assumption) | exact Nat.le_of_ble_eq_true rfl | omega | (simp <;> omega))))) <;> (try (conv => whnf))
      refine Then.mk (AWq.in ?_)
      refine AWp_cutd (H2 := wcH H w r ⟨σ.V + X, Y, σ.L⟩) [(0, .ptr w 0 0)] rfl ⟨rfl, trivial⟩ (fun _ => rfl) (HLe.of_eq ?_) ?_
      · unfold wcH
        dsimp only
        rw [hv, show (σ.V + X) / 4294967296 = top by omega, show (σ.V + X) % 4294967296 = low + X by omega]
      exact tail.out
  case tl =>
  have hP : 4294967296 * 256 ^ σ.L = 4294967296 * 256 ^ σ.L := rfl
  refine AWp.of tt_ok (dok _) rfl ?_
  clear hn hw htl hlb hlow htop
  (repeat' ((conv => whnf); first | refine Then.mk ?_ | refine OpsA.cons ?_ | refine OpsA.nil ?_ | refine AWq.seq ?_ | refine AWq.region ?_ | refine AWq.cond ?_ | refine AWq.block ?_ | refine AWq.skip ?_ | refine AWq.exit ?_ | refine AWq.loop ?_ | refine DrawA.consD ?_ | refine DrawA.nil ?_ | refine DrawF.consD ?_ | refine DrawF.nil ?_ | refine AWq.draw (by decide +kernel) ?_ | (refine Both.mk ?_ ?_ <;> intro hc <;> (first | exact Bool.noConfusion hc | exact absurd hc (by assumption) | (exfalso; omega) | skip)) | (intro c hc; (try (simp only [AH.none_iff] at hc; repeat (have hn := hc.1; replace hc := hc.2))); (first | (have hc2 := Eq.trans hc (by with_reducible assumption); clear hc; subst hc2) | (refine i64_k hc ?_ ?_ ?_ ; omega; omega; (clear hc; intro hc; subst hc)) | (refine u64_k hc ?_ ?_ ?_ ; omega; omega; (clear hc; intro hc; subst hc)) | (refine u8_k hc ?_ ?_ ?_ ; omega; omega; (clear hc; intro hc; subst hc)) | skip)) | (apply Exists.intro; apply And.intro; (first | (focus (repeat (first | (with_reducible assumption) | (with_reducible exact AH.set_same _ _ _) | ((first | refine AH.get_ne ?_ ?_); (first | (with_reducible assumption))))); done) | (focus (repeat (first | exact AH.set_same _ _ _)); done))) | (apply Exists.intro; apply And.intro; first | (with_reducible assumption) | ((try simp only [List.getElem?_drop, Nat.mul_one, Nat.add_zero, Nat.zero_add]); first | (with_reducible assumption) | rfl)) | (apply And.intro; (first | rfl | (with_reducible assumption) | exact Nat.le_of_ble_eq_true rfl | omega | (simp <;> omega))))) <;> (try (conv => whnf))
  refine AWp_loop (σ := Nat × Cs) (71 :: 72 :: 73 :: 74 :: 75 :: 76 :: 77 :: 78 :: 79 :: 80 :: 81 :: 82 :: 83 :: 84 :: 85 :: 86 :: 87 :: 88 :: 89 :: 90 :: 91 :: 92 :: 93 :: 94 :: 95 :: 96 :: 97 :: 98 :: 99 :: 100 :: 101 :: 102 :: 103 :: 104 :: 105 :: 106 :: 107 :: 108 :: 109 :: 110 :: 111 :: 112 :: []) (fun (f, τ) => []) (fun (f, τ) => wcH H w r τ) (fun (f, τ) => shf f τ = shf 3 ⟨σ.V + X, Y, σ.L⟩ ∧ 16777216 ≤ τ.W * 256 ^ f ∧ τ.W ≤ 4294967296 ∧ τ.L + f ≤ σ.L + 3) (fun (f, τ) => f) (3, ⟨σ.V + X, Y, σ.L⟩) rfl ?_ ?_ ?_ ?_
  · refine ⟨rfl, ?_, by show Y ≤ _; omega, Nat.le_refl _⟩
    show 16777216 ≤ Y * 256 ^ 3
    rw [show (256 : Nat) ^ 3 = 16777216 by decide]; omega
  · exact trivial
  · exact HLe.refl _
  · rintro ⟨f, τ⟩ ⟨h1, h2, h3, h4⟩
    dsimp only at h1 h2 h3 h4 ⊢
    refine AWp.of tt_ok (dok _) rfl ?_
    obtain ⟨lo, hlo⟩ : ∃ lo, lo = τ.V % 4294967296 := ⟨_, rfl⟩
    obtain ⟨tp, htp⟩ : ∃ tp, tp = τ.V / 4294967296 := ⟨_, rfl⟩
    obtain ⟨v', hv'⟩ : ∃ v', v' = τ.L := ⟨_, rfl⟩
    have hH : wcH H w r τ = wtH H w r v' (dig τ.L tp) lo τ.W := by rw [hlo, htp, hv']; rfl
    rw [hH]
    have hw1 : wtH H w r v' (dig τ.L tp) lo τ.W w = some (.row [.int .u64 lo, .int .u64 τ.W, .sl r v' 1 0 τ.L none] 0) := by
      unfold wtH; rw [dig_len]; exact AH.set_same _ _ _
    have hr1 : wtH H w r v' (dig τ.L tp) lo τ.W r = some (.row (u8s (dig τ.L tp)) v') := by
      unfold wtH; rw [AH.set_ne _ _ hrw, AH.set_same]
    have hll : (u8s (dig τ.L tp)).length = τ.L := by simp [u8s]
    have hlb : lo < 4294967296 := by omega
    by_cases hsm : τ.W < 16777216
    · have hf : f ≠ 0 := fun e => by subst e; simp at h2; omega
      obtain ⟨z, hz⟩ : ∃ z, z = u8s (dig τ.L tp) := ⟨_, rfl⟩
      rw [← hz] at hr1 hll
      obtain ⟨G, hG⟩ : ∃ G, G = wtH H w r v' (dig τ.L tp) lo τ.W := ⟨_, rfl⟩
      rw [← hG] at hw1 hr1 ⊢
      obtain ⟨L, hLe⟩ : ∃ L, L = τ.L := ⟨_, rfl⟩
      rw [← hLe] at hw1 hll h4
      have hLb : L ≤ 2000000000000 := by omega
      have s1 : (lo : Int).fdiv (2 ^ min (Int.toNat 24) IntKind.u64.bits) = (lo / 16777216 : Nat) := by
        rw [show (2 : Int) ^ min (Int.toNat 24) IntKind.u64.bits = 16777216 by decide, Int.fdiv_eq_ediv_of_nonneg _ (by omega)]; omega
      have s2 : IntKind.u8.wrap (lo / 16777216 : Nat) = (lo / 16777216 : Nat) := by rw [wrap_u8']; omega
      have s3 : IntKind.u64.wrap ((lo : Int) * 2 ^ min (Int.toNat 8) IntKind.u64.bits) = (lo * 256 : Nat) := by
        rw [show (2 : Int) ^ min (Int.toNat 8) IntKind.u64.bits = 256 by decide, wrap_u64']; omega
      have s4 : ((lo * 256 : Nat) : Int).tmod 4294967296 = (lo * 256 % 4294967296 : Nat) := by
        rw [Int.tmod_eq_emod_of_nonneg (by omega)]; omega
      have s5 : IntKind.u64.wrap ((τ.W : Int) * 2 ^ min (Int.toNat 8) IntKind.u64.bits) = (τ.W * 256 : Nat) := by
        rw [show (2 : Int) ^ min (Int.toNat 8) IntKind.u64.bits = 256 by decide, wrap_u64']; omega
      have kk := Kept.mk (And.intro h1 (And.intro h2 (And.intro h4 (And.intro hlo (And.intro htp (And.intro hz (And.intro hG (And.intro hLe hv'))))))))
      clear h1 h2 h4 hlo htp hz hG hLe hv' hv hX hY k1 k2 k3 k4 hi hL hP hroom
      (repeat' ((conv => whnf); first | refine Then.mk ?_ | refine OpsA.cons ?_ | refine OpsA.nil ?_ | refine AWq.seq ?_ | refine AWq.region ?_ | refine AWq.cond ?_ | refine AWq.block ?_ | refine AWq.skip ?_ | refine AWq.exit ?_ | refine AWq.loop ?_ | refine DrawA.consD ?_ | refine DrawA.nil ?_ | refine DrawF.consD ?_ | refine DrawF.nil ?_ | refine AWq.draw (by decide +kernel) ?_ | (refine Both.mk ?_ ?_ <;> intro hc <;> (first | exact Bool.noConfusion hc | exact absurd hc (by assumption) | (exfalso; omega) | skip)) | (intro c hc; (try (simp only [AH.none_iff] at hc; repeat (have hn := hc.1; replace hc := hc.2))); (first | (have hc2 := Eq.trans hc (by with_reducible assumption); clear hc; subst hc2) | (refine i64_k hc ?_ ?_ ?_ ; omega; omega; (clear hc; intro hc; subst hc)) | (refine u64_k hc ?_ ?_ ?_ ; omega; omega; (clear hc; intro hc; subst hc)) | (refine u8_k hc ?_ ?_ ?_ ; omega; omega; (clear hc; intro hc; subst hc)) | skip)) | (apply Exists.intro; apply And.intro; (first | (focus (repeat (first | (with_reducible assumption) | (with_reducible exact AH.set_same _ _ _) | ((first | refine AH.get_ne ?_ ?_); (first | (with_reducible assumption))))); done) | (focus (repeat (first | exact AH.set_same _ _ _)); done))) | (apply Exists.intro; apply And.intro; first | (with_reducible assumption) | ((try simp only [List.getElem?_drop, Nat.mul_one, Nat.add_zero, Nat.zero_add]); first | (with_reducible assumption) | rfl)) | (apply And.intro; (first | rfl | (with_reducible assumption) | exact Nat.le_of_ble_eq_true rfl | omega | (simp <;> omega))))) <;> (try (conv => whnf))
      obtain ⟨h1, h2, h4, hlo, htp, hz, hG, hLe, hv'⟩ := kk.out
      have hsf : shf f τ = shf (f - 1) ⟨τ.V * 256, τ.W * 256, τ.L + 1⟩ := by
        obtain ⟨g, rfl⟩ : ∃ g, f = g + 1 := ⟨f - 1, by omega⟩
        exact if_pos hsm
      refine ⟨(f - 1, ⟨τ.V * 256, τ.W * 256, τ.L + 1⟩), ⟨?_, ?_, ?_, ?_⟩, ?_, trivial, HLe.of_eq ?_⟩
      · dsimp only; rw [← hsf]; exact h1
      · show 16777216 ≤ τ.W * 256 * 256 ^ (f - 1)
        rw [Nat.mul_assoc, ← Nat.pow_succ', show (f - 1).succ = f by omega]; exact h2
      · show τ.W * 256 ≤ 4294967296
        omega
      · show τ.L + 1 + (f - 1) ≤ _
        omega
      · show f - 1 < f
        omega
      · have b1 : z ++ [AV.int .u8 ((lo / 16777216 : Nat) : Int)] = u8s (dig (τ.L + 1) (τ.V * 256 / 4294967296)) := by
          rw [show τ.V * 256 / 4294967296 = tp * 256 + lo / 16777216 by omega, dig_snoc _ _ _ (by omega), hz, ← u8s_append]
          have : (UInt8.ofNat (lo / 16777216)).toNat = lo / 16777216 := by simp; omega
          show _ = _ ++ [AV.int .u8 ((UInt8.ofNat (lo / 16777216)).toNat : Int)]
          rw [this]
        show wcH H w r ⟨τ.V * 256, τ.W * 256, τ.L + 1⟩ = (((G.set r (.row (z ++ [AV.int .u8 ((lo / 16777216 : Nat) : Int)]) (v' + 1))).set w (.row [.int .u64 lo, .int .u64 τ.W, .sl r (v' + 1) 1 0 (L + 1) none] 0)).set w (.row [.int .u64 (lo * 256 % 4294967296 : Nat), .int .u64 τ.W, .sl r (v' + 1) 1 0 (L + 1) none] 0)).set w (.row [.int .u64 (lo * 256 % 4294967296 : Nat), .int .u64 (τ.W * 256 : Nat), .sl r (v' + 1) 1 0 (L + 1) none] 0)
        rw [b1, AH.set_set, AH.set_set, hG, hLe, hv']
        unfold wcH wtH
        dsimp only
        rw [AH.set_back _ hrw, AH.set_set, dig_len, show τ.V * 256 % 4294967296 = lo * 256 % 4294967296 by omega]
    · (repeat' ((conv => whnf); first | refine Then.mk ?_ | refine OpsA.cons ?_ | refine OpsA.nil ?_ | refine AWq.seq ?_ | refine AWq.region ?_ | refine AWq.cond ?_ | refine AWq.block ?_ | refine AWq.skip ?_ | refine AWq.exit ?_ | refine AWq.loop ?_ | refine DrawA.consD ?_ | refine DrawA.nil ?_ | refine DrawF.consD ?_ | refine DrawF.nil ?_ | refine AWq.draw (by decide +kernel) ?_ | (refine Both.mk ?_ ?_ <;> intro hc <;> (first | exact Bool.noConfusion hc | exact absurd hc (by assumption) | (exfalso; omega) | skip)) | (intro c hc; (try (simp only [AH.none_iff] at hc; repeat (have hn := hc.1; replace hc := hc.2))); (first | (have hc2 := Eq.trans hc (by with_reducible assumption); clear hc; subst hc2) | (refine i64_k hc ?_ ?_ ?_ ; omega; omega; (clear hc; intro hc; subst hc)) | (refine u64_k hc ?_ ?_ ?_ ; omega; omega; (clear hc; intro hc; subst hc)) | (refine u8_k hc ?_ ?_ ?_ ; omega; omega; (clear hc; intro hc; subst hc)) | skip)) | (apply Exists.intro; apply And.intro; (first | (focus (repeat (first | (with_reducible assumption) | (with_reducible exact AH.set_same _ _ _) | ((first | refine AH.get_ne ?_ ?_); (first | (with_reducible assumption))))); done) | (focus (repeat (first | exact AH.set_same _ _ _)); done))) | (apply Exists.intro; apply And.intro; first | (with_reducible assumption) | ((try simp only [List.getElem?_drop, Nat.mul_one, Nat.add_zero, Nat.zero_add]); first | (with_reducible assumption) | rfl)) | (apply And.intro; (first | rfl | (with_reducible assumption) | exact Nat.le_of_ble_eq_true rfl | omega | (simp <;> omega))))) <;> (try (conv => whnf))
      rw [← hH, ← h1, shf_done (by omega)]
open Go.Fw Go

set_option maxRecDepth 8000 in
theorem writer_c (H : AH) : ACall Try.prog 81 [] H (fun y H' => ∃ w r, H w = none ∧ H r = none ∧ w ≠ r ∧ y = .ptr w 0 0 ∧ H' = wcH H w r cs0) := by
  refine ACall_of tt_ok (dok _) Try.func81 rfl (by decide) rfl ?_
  (repeat' ((conv => whnf); first | left | refine OpsA.cons ?_ | refine OpsA.nil ?_ | refine AWq.seq ?_ | refine AWq.region ?_ | refine AWq.ret ?_ | (intro c hc; (try (simp only [AH.none_iff] at hc; repeat (have hn := hc.1; replace hc := hc.2))); (first | skip)) | (apply And.intro; (first | rfl)))) <;> (try (conv => whnf))
  refine Then.mk ?_
  (repeat' ((conv => whnf); first | left | refine OpsA.cons ?_ | refine OpsA.nil ?_ | refine AWq.seq ?_ | refine AWq.region ?_ | refine AWq.ret ?_ | (intro c hc; (try (simp only [AH.none_iff] at hc; repeat (have hn := hc.1; replace hc := hc.2))); (first | skip)) | (apply And.intro; (first | rfl)))) <;> (try (conv => whnf))
  refine Then.mk (AWq.in ?_)
  refine AWp_nilC 1 [.int .u64 0, .int .u64 4294967296] [] (p := c) (u := 0) (AH.set_same _ _ _) fun r hr hrw => ?_
  have hrH := (AH.none_set hr).2
  refine AWp.of tt_ok (dok _) rfl ?_
  (repeat' ((conv => whnf); first | left | refine OpsA.cons ?_ | refine OpsA.nil ?_ | refine AWq.seq ?_ | refine AWq.region ?_ | refine AWq.ret ?_ | (intro c hc; (try (simp only [AH.none_iff] at hc; repeat (have hn := hc.1; replace hc := hc.2))); (first | skip)) | (apply And.intro; (first | rfl)))) <;> (try (conv => whnf))
  refine ⟨c, r, hc, hrH, Ne.symm hrw, rfl, ?_⟩
  exact (AH.set_back H (Ne.symm hrw) _ _ _).trans (AH.set_comm _ _ _ (Ne.symm hrw))

structure WrAt (H : AH) (w r : Nat) (σ : Cs) : Prop where
  hw : H w = some (.row [.int .u64 (σ.V % 4294967296 : Nat), .int .u64 σ.W, .sl r σ.L 1 0 σ.L none] 0)
  hr : H r = some (.row (u8s (dig σ.L (σ.V / 4294967296))) σ.L)
  ne : w ≠ r
theorem WrAt.eq {H : AH} {w r : Nat} {σ : Cs} (h : WrAt H w r σ) : wcH H w r σ = H := by
  unfold wcH wtH
  rw [AH.set_id h.hr, dig_len]
  exact AH.set_id h.hw
theorem WrAt.set {H : AH} {w r : Nat} {σ : Cs} (h : w ≠ r) : WrAt (wcH H w r σ) w r σ := by
  refine ⟨?_, ?_, h⟩
  · unfold wcH wtH; rw [AH.set_same, dig_len]
  · unfold wcH wtH; rw [AH.set_ne _ _ (Ne.symm h), AH.set_same]
theorem wcH_ne {H : AH} {w r a : Nat} {σ : Cs} (h1 : a ≠ w) (h2 : a ≠ r) : wcH H w r σ a = H a := by
  unfold wcH wtH
  rw [AH.set_ne _ _ h1, AH.set_ne _ _ h2]
theorem mdH_ne {H : AH} {p q n a : Nat} {c : Nat → Nat} (h1 : a ≠ p) (h2 : a ≠ q) : mdH H p q n c a = H a := by
  unfold mdH
  rw [AH.set_ne _ _ h1, AH.set_ne _ _ h2]
theorem MdAt.same {H G : AH} {p q n : Nat} {c : Nat → Nat} (h : MdAt H p q n c) (h1 : G p = H p) (h2 : G q = H q) : MdAt G p q n c :=
  ⟨by rw [h1]; exact h.hp, by rw [h2]; exact h.hq, h.ne, h.ok⟩
theorem WrAt.same {H G : AH} {w r : Nat} {σ : Cs} (h : WrAt H w r σ) (h1 : G w = H w) (h2 : G r = H r) : WrAt G w r σ :=
  ⟨by rw [h1]; exact h.hw, by rw [h2]; exact h.hr, h.ne⟩
theorem k_step_c {G : AH} {w r : Nat} {σ : Cs} {p c t : Nat} (hw : WrAt G w r σ) (hc : CsOk σ) (hs : StOk p c t) (hL : σ.L ≤ 1000000000000) :
    ACall Try.prog 85 [.ptr w 0 0, .int .i64 p, .int .i64 c, .int .i64 t] G (fun y H' => y = .tup [] ∧ H' = wcH G w r (stp σ p c t)) := by
  have := wstep_c (H := G) hw.ne hc hs hL
  rwa [hw.eq] at this

set_option maxRecDepth 8000 in
theorem symbol_c {G : AH} {w r p q n : Nat} {σ : Cs} {c : Nat → Nat} {s : Nat} (hw : WrAt G w r σ) (hm : MdAt G p q n c) (h1 : p ≠ w) (h2 : p ≠ r) (h3 : q ≠ w) (h4 : q ≠ r) (hs : s < n) (hc : CsOk σ) (hL : σ.L ≤ 1000000000000) :
    ACall Try.prog 84 [.ptr w 0 0, .ptr p 0 0, .int .i64 s] G (fun y H' => y = .tup [] ∧ H' = mdH (wcH G w r (stp σ (plc c s) (c s) (plc c n))) p q n (seeM n c s)) := by
  have hp := place_c hm s (by omega)
  have hst : StOk (plc c s) (c s) (plc c n) := ⟨hm.ok.pos s hs, plc_one hs, hm.ok.sum⟩
  have hstep := k_step_c hw hc hst hL
  have hsee := see_c (hm.same (G := wcH G w r (stp σ (plc c s) (c s) (plc c n))) (wcH_ne h1 h2) (wcH_ne h3 h4)) s hs
  have hmp := hm.hp
  have hmq := hm.hq
  have hcell := iL_gi (fun k => (c k : Int)) hs
  have hlen : (iL n fun k => (c k : Int)).length = n := iL_len _ _
  generalize (iL n fun k => (c k : Int)) = cells at *
  have hts := hm.ok.sum
  obtain ⟨T, hT⟩ : ∃ T, T = plc c n := ⟨_, rfl⟩
  obtain ⟨A, hA⟩ : ∃ A, A = plc c s := ⟨_, rfl⟩
  rw [← hT] at hmp hstep hsee hts ⊢
  rw [← hA] at hp hstep hsee ⊢
  refine ACall_of tt_ok (dok _) Try.func84 rfl (by decide) rfl ?_
  (repeat' ((conv => whnf); first | refine AWq.drawM ([21], []) (by decide +kernel) ?_ | refine Then.mk ?_ | refine OpsA.cons ?_ | refine OpsA.nil ?_ | refine AWq.seq ?_ | refine AWq.region ?_ | refine DrawA.consD ?_ | refine DrawA.nil ?_ | (apply Exists.intro; apply And.intro; exact hp) | (apply Exists.intro; apply Exists.intro; apply And.intro; exact hstep) | (apply Exists.intro; apply And.intro; (first | (focus (repeat (first | (with_reducible assumption))); done))) | (apply Exists.intro; apply And.intro; first | (with_reducible assumption) | ((try simp only [List.getElem?_drop, Nat.mul_one, Nat.add_zero, Nat.zero_add]); first | (with_reducible assumption) | rfl)) | (apply And.intro; (first | rfl | (with_reducible assumption) | omega)) | (refine ACall.to (hsee) ?_))) <;> (try (conv => whnf))

set_option maxRecDepth 8000 in
theorem code_c {H : AH} {w r : Nat} {σ : Cs} (hne : w ≠ r) (hL : σ.L ≤ 1000000000000) :
    ACall Try.prog 86 [.ptr w 0 0] (wcH H w r σ) (fun y H' => y = .cs (u8s (codeS σ)) (codeS σ).length ∧ H' = (wcH H w r σ).del r) := by
  have hwa : WrAt (wcH H w r σ) w r σ := WrAt.set hne
  have hw := hwa.hw
  have hr := hwa.hr
  generalize wcH H w r σ = G at *
  obtain ⟨lo, hlo⟩ : ∃ lo, lo = σ.V % 4294967296 := ⟨_, rfl⟩
  rw [← hlo] at hw
  have hlb : lo < 4294967296 := by omega
  obtain ⟨z, hz⟩ : ∃ z, z = u8s (dig σ.L (σ.V / 4294967296)) := ⟨_, rfl⟩
  have hzl : z.length = σ.L := by rw [hz]; simp
  rw [← hz] at hr
  have a1 : (lo : Int).fdiv (2 ^ min (Int.toNat 24) IntKind.u64.bits) = (lo / 16777216 : Nat) := by
    rw [show (2 : Int) ^ min (Int.toNat 24) IntKind.u64.bits = 16777216 by decide, Int.fdiv_eq_ediv_of_nonneg _ (by omega)]; omega
  have a2 : IntKind.u8.wrap (lo / 16777216 : Nat) = (lo / 16777216 : Nat) := by rw [wrap_u8']; omega
  have b1 : (lo : Int).fdiv (2 ^ min (Int.toNat 16) IntKind.u64.bits) = (lo / 65536 : Nat) := by
    rw [show (2 : Int) ^ min (Int.toNat 16) IntKind.u64.bits = 65536 by decide, Int.fdiv_eq_ediv_of_nonneg _ (by omega)]; omega
  have b2 : IntKind.u8.wrap (lo / 65536 : Nat) = (lo / 65536 % 256 : Nat) := by rw [wrap_u8']; omega
  have c1 : (lo : Int).fdiv (2 ^ min (Int.toNat 8) IntKind.u64.bits) = (lo / 256 : Nat) := by
    rw [show (2 : Int) ^ min (Int.toNat 8) IntKind.u64.bits = 256 by decide, Int.fdiv_eq_ediv_of_nonneg _ (by omega)]; omega
  have c2 : IntKind.u8.wrap (lo / 256 : Nat) = (lo / 256 % 256 : Nat) := by rw [wrap_u8']; omega
  have d2 : IntKind.u8.wrap (lo : Nat) = (lo % 256 : Nat) := by rw [wrap_u8']; omega
  have hall : z ++ [AV.int .u8 (lo / 16777216 : Nat), AV.int .u8 (lo / 65536 % 256 : Nat), AV.int .u8 (lo / 256 % 256 : Nat), AV.int .u8 (lo % 256 : Nat)] = u8s (dig (σ.L + 4) σ.V) := by
    have e : σ.V = (((σ.V / 4294967296 * 256 + lo / 16777216) * 256 + lo / 65536 % 256) * 256 + lo / 256 % 256) * 256 + lo % 256 := by omega
    conv => rhs; rw [e]
    rw [show σ.L + 4 = σ.L + 1 + 1 + 1 + 1 from rfl, dig_snoc _ _ _ (by omega), dig_snoc _ _ _ (by omega), dig_snoc _ _ _ (by omega), dig_snoc _ _ _ (by omega), hz]
    have t : ∀ x, x < 256 → (UInt8.ofNat x).toNat = x := fun x h => by simp; omega
    simp only [u8s, List.map_append, List.map_cons, List.map_nil, List.append_assoc]
    rw [t _ (by omega), t _ (by omega), t _ (by omega), t _ (by omega)]
    rfl
  clear hz
  refine ACall_of tt_ok (dok _) Try.func86 rfl (by decide) rfl ?_
  (repeat' ((conv => whnf); first | refine OpsA.cons ?_ | refine OpsA.nil ?_ | refine AWq.seq ?_ | refine AWq.region ?_ | refine AWq.cond ?_ | refine AWq.block ?_ | refine AWq.skip ?_ | refine AWq.ret ?_ | refine AWq.exit ?_ | refine AWq.loop ?_ | refine DrawA.consD ?_ | refine DrawA.nil ?_ | refine AWq.draw (by decide +kernel) ?_ | (refine Both.mk ?_ ?_ <;> intro hc <;> (first | exact Bool.noConfusion hc | exact absurd (by with_reducible rfl) hc | exact absurd hc (by assumption) | (exfalso; omega) | skip)) | (intro c hc; (try (simp only [AH.none_iff] at hc; repeat (have hn := hc.1; replace hc := hc.2))); (first | (have hc2 := Eq.trans hc (by with_reducible assumption); clear hc; subst hc2) | (refine i64_k hc ?_ ?_ ?_ ; omega; omega; (clear hc; intro hc; subst hc)) | skip)) | (apply Exists.intro; apply And.intro; (first | (focus (repeat (first | (with_reducible assumption))); done))) | (apply Exists.intro; apply And.intro; first | (with_reducible assumption) | ((try simp only [List.getElem?_drop, Nat.mul_one, Nat.add_zero, Nat.zero_add]); first | (with_reducible assumption) | rfl)) | (apply And.intro; (first | rfl | (with_reducible assumption) | omega)))) <;> (try (conv => whnf))
  refine Then.mk ?_
  (repeat' ((conv => whnf); first | refine OpsA.cons ?_ | refine OpsA.nil ?_ | refine AWq.seq ?_ | refine AWq.region ?_ | refine AWq.cond ?_ | refine AWq.block ?_ | refine AWq.skip ?_ | refine AWq.ret ?_ | refine AWq.exit ?_ | refine AWq.loop ?_ | refine DrawA.consD ?_ | refine DrawA.nil ?_ | refine AWq.draw (by decide +kernel) ?_ | (refine Both.mk ?_ ?_ <;> intro hc <;> (first | exact Bool.noConfusion hc | exact absurd (by with_reducible rfl) hc | exact absurd hc (by assumption) | (exfalso; omega) | skip)) | (intro c hc; (try (simp only [AH.none_iff] at hc; repeat (have hn := hc.1; replace hc := hc.2))); (first | (have hc2 := Eq.trans hc (by with_reducible assumption); clear hc; subst hc2) | (refine i64_k hc ?_ ?_ ?_ ; omega; omega; (clear hc; intro hc; subst hc)) | skip)) | (apply Exists.intro; apply And.intro; (first | (focus (repeat (first | (with_reducible assumption))); done))) | (apply Exists.intro; apply And.intro; first | (with_reducible assumption) | ((try simp only [List.getElem?_drop, Nat.mul_one, Nat.add_zero, Nat.zero_add]); first | (with_reducible assumption) | rfl)) | (apply And.intro; (first | rfl | (with_reducible assumption) | omega)))) <;> (try (conv => whnf))
  refine Then.mk (AWq.in ?_)
  refine AWp_freeze1 (r := r) (v := σ.L + 1) (es := 1) (n := σ.L + 4) (lim := none) (cells := u8s (dig (σ.L + 4) σ.V)) 3 rfl rfl ?_ (by simp) ?_
  · show AH.set G r (.row (z ++ _) _) r = _
    rw [AH.set_same]
    exact congrArg (fun l => some (AO.row l (σ.L + 1))) hall
  have hG : ∀ o, (AH.set G r o).del r = G.del r := fun o => by
    funext a; simp only [AH.del, AH.set]; split <;> rfl
  rw [hG]
  have hbl : (dig (σ.L + 4) σ.V).length = σ.L + 4 := dig_len _ _
  have hcs : codeS σ = (dig (σ.L + 4) σ.V).take (trimN (dig (σ.L + 4) σ.V) (σ.L + 4)) := by
    unfold codeS trim
    rw [hbl]
  rw [hcs]
  generalize dig (σ.L + 4) σ.V = bs at *
  obtain ⟨L4, hL4⟩ : ∃ L4, L4 = σ.L + 4 := ⟨_, rfl⟩
  rw [← hL4] at hbl ⊢
  have hul : (u8s bs).length = L4 * 1 := by simp [hbl]
  clear hall hcs a1 a2 b1 b2 c1 c2 d2
  refine AWp.of tt_ok (dok _) rfl ?_
  (repeat' ((conv => whnf); first | refine Then.mk ?_ | refine OpsA.cons ?_ | refine OpsA.nil ?_ | refine AWq.seq ?_ | refine AWq.region ?_ | refine AWq.cond ?_ | refine AWq.block ?_ | refine AWq.skip ?_ | refine AWq.ret ?_ | refine AWq.exit ?_ | refine AWq.loop ?_ | refine DrawA.consD ?_ | refine DrawA.nil ?_ | refine AWq.draw (by decide +kernel) ?_ | (refine Both.mk ?_ ?_ <;> intro hc <;> (first | exact Bool.noConfusion hc | exact absurd (by with_reducible rfl) hc | exact absurd hc (by assumption) | (exfalso; omega) | skip)) | (intro c hc; (try (simp only [AH.none_iff] at hc; repeat (have hn := hc.1; replace hc := hc.2))); (first | (have hc2 := Eq.trans hc (by with_reducible assumption); clear hc; subst hc2) | (refine i64_k hc ?_ ?_ ?_ ; omega; omega; (clear hc; intro hc; subst hc)) | skip)) | (apply Exists.intro; apply And.intro; (first | (focus (repeat (first | (with_reducible assumption))); done))) | (apply Exists.intro; apply And.intro; first | (with_reducible assumption) | ((try simp only [List.getElem?_drop, Nat.mul_one, Nat.add_zero, Nat.zero_add]); first | (with_reducible assumption) | rfl)) | (apply And.intro; (first | rfl | (with_reducible assumption) | omega)))) <;> (try (conv => whnf))
  refine AWp_loop (σ := Nat) (4 :: 40 :: 41 :: 42 :: 43 :: 44 :: 45 :: 46 :: 47 :: 48 :: 49 :: 50 :: 51 :: []) (fun n => [(4, .int .i64 n)]) (fun _ => G.del r) (fun n => n ≤ L4 ∧ trimN bs L4 = trimN bs n) (fun n => n) L4 rfl ?_ ?_ ?_ ?_
  · exact ⟨Nat.le_refl _, rfl⟩
  · exact ⟨rfl, trivial⟩
  · exact HLe.refl _
  · rintro n ⟨h1, h2⟩
    refine AWp.of tt_ok (dok _) rfl ?_
    have fin : ∀ m, m ≤ L4 → trimN bs L4 = m → AV.cs (List.take ((m : Int).toNat * 1) (u8s bs)) (m : Int).toNat = AV.cs (u8s (List.take (trimN bs L4) bs)) (List.take (trimN bs L4) bs).length ∧ G.del r = G.del r := fun m hm he => by
      refine ⟨?_, rfl⟩
      rw [he, Int.toNat_natCast, Nat.mul_one, u8s_take, List.length_take, Nat.min_eq_left (by omega)]
    by_cases h0 : n = 0
    · subst h0
      (repeat' ((conv => whnf); first | refine Then.mk ?_ | refine OpsA.cons ?_ | refine OpsA.nil ?_ | refine AWq.seq ?_ | refine AWq.region ?_ | refine AWq.cond ?_ | refine AWq.block ?_ | refine AWq.skip ?_ | refine AWq.ret ?_ | refine AWq.exit ?_ | refine AWq.loop ?_ | refine DrawA.consD ?_ | refine DrawA.nil ?_ | refine AWq.draw (by decide +kernel) ?_ | (refine Both.mk ?_ ?_ <;> intro hc <;> (first | exact Bool.noConfusion hc | exact absurd (by with_reducible rfl) hc | exact absurd hc (by assumption) | (exfalso; omega) | skip)) | (intro c hc; (try (simp only [AH.none_iff] at hc; repeat (have hn := hc.1; replace hc := hc.2))); (first | (have hc2 := Eq.trans hc (by with_reducible assumption); clear hc; subst hc2) | (refine i64_k hc ?_ ?_ ?_ ; omega; omega; (clear hc; intro hc; subst hc)) | skip)) | (apply Exists.intro; apply And.intro; (first | (focus (repeat (first | (with_reducible assumption))); done))) | (apply Exists.intro; apply And.intro; first | (with_reducible assumption) | ((try simp only [List.getElem?_drop, Nat.mul_one, Nat.add_zero, Nat.zero_add]); first | (with_reducible assumption) | rfl)) | (apply And.intro; (first | rfl | (with_reducible assumption) | omega)))) <;> (try (conv => whnf))
      exact fin 0 (by omega) (by rw [h2]; rfl)
    · obtain ⟨k, rfl⟩ : ∃ k, n = k + 1 := ⟨n - 1, by omega⟩
      have hg : (u8s bs)[((k + 1 : Nat) - 1 : Int).toNat]? = some (.int .u8 (bs.getD k 0).toNat) := by
        rw [show ((k + 1 : Nat) - 1 : Int).toNat = k by omega]
        exact u8s_get (by omega)
      have hb := u8_range (bs.getD k 0)
      obtain ⟨b, hbe⟩ : ∃ b, b = bs.getD k 0 := ⟨_, rfl⟩
      have h2' : trimN bs (k + 1) = if b = 0 then trimN bs k else k + 1 := by rw [hbe]; rfl
      rw [← hbe] at hg hb
      obtain ⟨B, hB⟩ : ∃ B : Int, B = (b.toNat : Int) := ⟨_, rfl⟩
      rw [← hB] at hg hb
      by_cases hz : B = 0
      · have hb0 : b = 0 := UInt8.toNat_inj.1 (by show b.toNat = 0; omega)
        rw [if_pos hb0] at h2'
        subst hz
        (repeat' ((conv => whnf); first | refine Then.mk ?_ | refine OpsA.cons ?_ | refine OpsA.nil ?_ | refine AWq.seq ?_ | refine AWq.region ?_ | refine AWq.cond ?_ | refine AWq.block ?_ | refine AWq.skip ?_ | refine AWq.ret ?_ | refine AWq.exit ?_ | refine AWq.loop ?_ | refine DrawA.consD ?_ | refine DrawA.nil ?_ | refine AWq.draw (by decide +kernel) ?_ | (refine Both.mk ?_ ?_ <;> intro hc <;> (first | exact Bool.noConfusion hc | exact absurd (by with_reducible rfl) hc | exact absurd hc (by assumption) | (exfalso; omega) | skip)) | (intro c hc; (try (simp only [AH.none_iff] at hc; repeat (have hn := hc.1; replace hc := hc.2))); (first | (have hc2 := Eq.trans hc (by with_reducible assumption); clear hc; subst hc2) | (refine i64_k hc ?_ ?_ ?_ ; omega; omega; (clear hc; intro hc; subst hc)) | skip)) | (apply Exists.intro; apply And.intro; (first | (focus (repeat (first | (with_reducible assumption))); done))) | (apply Exists.intro; apply And.intro; first | (with_reducible assumption) | ((try simp only [List.getElem?_drop, Nat.mul_one, Nat.add_zero, Nat.zero_add]); first | (with_reducible assumption) | rfl)) | (apply And.intro; (first | rfl | (with_reducible assumption) | omega)))) <;> (try (conv => whnf))
        exact ⟨k, ⟨by omega, by omega⟩, by omega, ⟨congrArg (AV.int .i64) (by omega), trivial⟩, HLe.refl _⟩
      · have hb0 : ¬ b = 0 := fun e => hz (by rw [hB, e]; rfl)
        rw [if_neg hb0] at h2'
        (repeat' ((conv => whnf); first | refine Then.mk ?_ | refine OpsA.cons ?_ | refine OpsA.nil ?_ | refine AWq.seq ?_ | refine AWq.region ?_ | refine AWq.cond ?_ | refine AWq.block ?_ | refine AWq.skip ?_ | refine AWq.ret ?_ | refine AWq.exit ?_ | refine AWq.loop ?_ | refine DrawA.consD ?_ | refine DrawA.nil ?_ | refine AWq.draw (by decide +kernel) ?_ | (refine Both.mk ?_ ?_ <;> intro hc <;> (first | exact Bool.noConfusion hc | exact absurd (by with_reducible rfl) hc | exact absurd hc (by assumption) | (exfalso; omega) | skip)) | (intro c hc; (try (simp only [AH.none_iff] at hc; repeat (have hn := hc.1; replace hc := hc.2))); (first | (have hc2 := Eq.trans hc (by with_reducible assumption); clear hc; subst hc2) | (refine i64_k hc ?_ ?_ ?_ ; omega; omega; (clear hc; intro hc; subst hc)) | skip)) | (apply Exists.intro; apply And.intro; (first | (focus (repeat (first | (with_reducible assumption))); done))) | (apply Exists.intro; apply And.intro; first | (with_reducible assumption) | ((try simp only [List.getElem?_drop, Nat.mul_one, Nat.add_zero, Nat.zero_add]); first | (with_reducible assumption) | rfl)) | (apply And.intro; (first | rfl | (with_reducible assumption) | omega)))) <;> (try (conv => whnf))
        exact fin (k + 1) (by omega) (by omega)
open Go.Fw Go

structure Mods (G : AH) (P Q : Nat → Nat) (m n : Nat) (M : Nat → Nat → Nat) : Prop where
  md : ∀ k, k < m → MdAt G (P k) (Q k) n (M k)
  pp : ∀ j k, j < m → k < m → j ≠ k → P j ≠ P k
  qq : ∀ j k, j < m → k < m → j ≠ k → Q j ≠ Q k
  pq : ∀ j k, j < m → k < m → P j ≠ Q k
theorem Mods.same {G G' : AH} {P Q : Nat → Nat} {m n : Nat} {M : Nat → Nat → Nat} (h : Mods G P Q m n M) (hs : ∀ k, k < m → G' (P k) = G (P k) ∧ G' (Q k) = G (Q k)) : Mods G' P Q m n M :=
  ⟨fun k hk => (h.md k hk).same (hs k hk).1 (hs k hk).2, h.pp, h.qq, h.pq⟩
theorem Mods.set {G : AH} {P Q : Nat → Nat} {m n : Nat} {M : Nat → Nat → Nat} (h : Mods G P Q m n M) {k : Nat} (hk : k < m) {c : Nat → Nat} (hc : MdOk n c) :
    Mods (mdH G (P k) (Q k) n c) P Q m n (fun j => if j = k then c else M j) := by
  refine ⟨fun j hj => ?_, h.pp, h.qq, h.pq⟩
  by_cases e : j = k
  · subst e
    rw [if_pos rfl]
    exact MdAt.set (c := c) (h.md j hj).ne hc
  · rw [if_neg e]
    exact (h.md j hj).same (mdH_ne (h.pp _ _ hj hk e) (h.pq _ _ hj hk)) (mdH_ne (Ne.symm (h.pq _ _ hk hj)) (h.qq _ _ hj hk e))
theorem AH.ne_none' {H : AH} {r s : Nat} {o : AO} (h : H r = Option.none) (k : H s = some o) : r ≠ s := fun e => by rw [← e, h] at k; cases k
theorem Mods.fresh {G : AH} {P Q : Nat → Nat} {m n : Nat} {M : Nat → Nat → Nat} (h : Mods G P Q m n M) {a : Nat} (ha : G a = Option.none) {k : Nat} (hk : k < m) : P k ≠ a ∧ Q k ≠ a :=
  ⟨Ne.symm (AH.ne_none' ha (h.md k hk).hp), Ne.symm (AH.ne_none' ha (h.md k hk).hq)⟩
def putF (f : Nat → Nat) (k v : Nat) : Nat → Nat := fun j => if j = k then v else f j
theorem putF_at (f : Nat → Nat) (k v : Nat) : putF f k v k = v := if_pos rfl
theorem putF_ne (f : Nat → Nat) {k j : Nat} (v : Nat) (h : j ≠ k) : putF f k v j = f j := if_neg h
theorem Mods.more {G : AH} {P Q : Nat → Nat} {m n : Nat} {M : Nat → Nat → Nat} (h : Mods G P Q m n M) {p q : Nat} (hp : G p = Option.none) (hq : G q = Option.none) (hne : p ≠ q) (hM : MdOk n (M m)) :
    Mods (mdH G p q n (M m)) (putF P m p) (putF Q m q) (m + 1) n M := by
  have a1 : ∀ k, k < m → putF P m p k = P k := fun k hk => putF_ne _ _ (by omega)
  have a2 : ∀ k, k < m → putF Q m q k = Q k := fun k hk => putF_ne _ _ (by omega)
  have b1 : ∀ k, k < m + 1 → k < m ∨ k = m := fun k hk => by omega
  refine ⟨fun k hk => ?_, fun j k hj hk hjk => ?_, fun j k hj hk hjk => ?_, fun j k hj hk => ?_⟩
  · rcases b1 k hk with hk | rfl
    · rw [a1 k hk, a2 k hk]
      exact (h.md k hk).same (mdH_ne (h.fresh hp hk).1 (h.fresh hq hk).1) (mdH_ne (h.fresh hp hk).2 (h.fresh hq hk).2)
    · rw [putF_at, putF_at]
      exact MdAt.set (c := M 0) hne hM
  · rcases b1 j hj with hj | rfl <;> rcases b1 k hk with hk | rfl
    · rw [a1 j hj, a1 k hk]; exact h.pp j k hj hk hjk
    · rw [a1 j hj, putF_at]; exact (h.fresh hp hj).1
    · rw [a1 k hk, putF_at]; exact Ne.symm (h.fresh hp hk).1
    · exact absurd rfl hjk
  · rcases b1 j hj with hj | rfl <;> rcases b1 k hk with hk | rfl
    · rw [a2 j hj, a2 k hk]; exact h.qq j k hj hk hjk
    · rw [a2 j hj, putF_at]; exact (h.fresh hq hj).2
    · rw [a2 k hk, putF_at]; exact Ne.symm (h.fresh hq hk).2
    · exact absurd rfl hjk
  · rcases b1 j hj with hj | rfl <;> rcases b1 k hk with hk | rfl
    · rw [a1 j hj, a2 k hk]; exact h.pq j k hj hk
    · rw [a1 j hj, putF_at]; exact (h.fresh hq hj).1
    · rw [a2 k hk, putF_at]; exact Ne.symm (h.fresh hp hk).2
    · rw [putF_at, putF_at]; exact hne

def psL (P : Nat → Nat) (m : Nat) : List AV := (List.range m).map fun k => .ptr (P k) 0 0
@[simp] theorem psL_len (P : Nat → Nat) (m : Nat) : (psL P m).length = m := by simp [psL]
theorem psL_get {P : Nat → Nat} {m k : Nat} (h : k < m) : (psL P m)[k]? = some (.ptr (P k) 0 0) := by
  unfold psL
  rw [List.getElem?_map, List.getElem?_range h]; rfl
theorem psL_snoc (P : Nat → Nat) (m p : Nat) : psL P m ++ [.ptr p 0 0] = psL (putF P m p) (m + 1) := by
  unfold psL
  rw [List.range_succ, List.map_append]
  congr 1
  · refine List.map_congr_left fun k hk => ?_
    have : k < m := by simpa using hk
    rw [putF_ne _ _ (by omega)]
  · simp [putF_at]
structure AlphaOk (H G : AH) (a n i : Nat) (P Q : Nat → Nat) : Prop where
  mods : Mods G P Q i n fun _ _ => 1
  row : G a = some (.row (psL P i) i)
  le : HLe H G
  na : ∀ k, k < i → P k ≠ a ∧ Q k ≠ a
  new : ∀ k, k < i → H (P k) = none ∧ H (Q k) = none

set_option maxRecDepth 8000 in
theorem alphabet_c (n m : Nat) (hn1 : 1 ≤ n) (hn2 : n ≤ 1024) (hm1 : 1 ≤ m) (hm2 : m ≤ 256) (H : AH) :
    ACall Try.prog 80 [.int .i64 n, .int .i64 m] H (fun y H' => ∃ P Q, y = .tup [.cs (psL P m) m, .int .i64 0] ∧ Mods H' P Q m n (fun _ _ => 1) ∧ HLe H H' ∧ ∀ k, k < m → H (P k) = none ∧ H (Q k) = none) := by
  refine ACall_of tt_ok (dok _) Try.func80 rfl (by decide) rfl ?_
  (repeat' ((conv => whnf); first | left | refine OpsA.cons ?_ | refine OpsA.nil ?_ | refine AWq.seq ?_ | refine AWq.region ?_ | refine AWq.cond ?_ | refine AWq.block ?_ | refine AWq.skip ?_ | refine AWq.ret ?_ | refine AWq.exit ?_ | refine AWq.loop ?_ | (refine Both.mk ?_ ?_ <;> intro hc <;> (first | exact Bool.noConfusion hc | (exfalso; omega) | skip)) | (intro c hc; (try (simp only [AH.none_iff] at hc; repeat (have hn := hc.1; replace hc := hc.2))); (first | (refine i64_k hc ?_ ?_ ?_ ; omega; omega; (clear hc; intro hc; subst hc)) | skip)) | (apply Exists.intro; apply And.intro; (first | (focus (repeat (first | (with_reducible assumption))); done))) | (apply And.intro; (first | rfl | (with_reducible assumption) | omega)))) <;> (try (conv => whnf))
  refine Then.mk ?_
  (repeat' ((conv => whnf); first | left | refine OpsA.cons ?_ | refine OpsA.nil ?_ | refine AWq.seq ?_ | refine AWq.region ?_ | refine AWq.cond ?_ | refine AWq.block ?_ | refine AWq.skip ?_ | refine AWq.ret ?_ | refine AWq.exit ?_ | refine AWq.loop ?_ | (refine Both.mk ?_ ?_ <;> intro hc <;> (first | exact Bool.noConfusion hc | (exfalso; omega) | skip)) | (intro c hc; (try (simp only [AH.none_iff] at hc; repeat (have hn := hc.1; replace hc := hc.2))); (first | (refine i64_k hc ?_ ?_ ?_ ; omega; omega; (clear hc; intro hc; subst hc)) | skip)) | (apply Exists.intro; apply And.intro; (first | (focus (repeat (first | (with_reducible assumption))); done))) | (apply And.intro; (first | rfl | (with_reducible assumption) | omega)))) <;> (try (conv => whnf))
  refine Then.mk ?_
  (repeat' ((conv => whnf); first | left | refine OpsA.cons ?_ | refine OpsA.nil ?_ | refine AWq.seq ?_ | refine AWq.region ?_ | refine AWq.cond ?_ | refine AWq.block ?_ | refine AWq.skip ?_ | refine AWq.ret ?_ | refine AWq.exit ?_ | refine AWq.loop ?_ | (refine Both.mk ?_ ?_ <;> intro hc <;> (first | exact Bool.noConfusion hc | (exfalso; omega) | skip)) | (intro c hc; (try (simp only [AH.none_iff] at hc; repeat (have hn := hc.1; replace hc := hc.2))); (first | (refine i64_k hc ?_ ?_ ?_ ; omega; omega; (clear hc; intro hc; subst hc)) | skip)) | (apply Exists.intro; apply And.intro; (first | (focus (repeat (first | (with_reducible assumption))); done))) | (apply And.intro; (first | rfl | (with_reducible assumption) | omega)))) <;> (try (conv => whnf))
  refine Then.mk ?_
  (repeat' ((conv => whnf); first | left | refine OpsA.cons ?_ | refine OpsA.nil ?_ | refine AWq.seq ?_ | refine AWq.region ?_ | refine AWq.cond ?_ | refine AWq.block ?_ | refine AWq.skip ?_ | refine AWq.ret ?_ | refine AWq.exit ?_ | refine AWq.loop ?_ | (refine Both.mk ?_ ?_ <;> intro hc <;> (first | exact Bool.noConfusion hc | (exfalso; omega) | skip)) | (intro c hc; (try (simp only [AH.none_iff] at hc; repeat (have hn := hc.1; replace hc := hc.2))); (first | (refine i64_k hc ?_ ?_ ?_ ; omega; omega; (clear hc; intro hc; subst hc)) | skip)) | (apply Exists.intro; apply And.intro; (first | (focus (repeat (first | (with_reducible assumption))); done))) | (apply And.intro; (first | rfl | (with_reducible assumption) | omega)))) <;> (try (conv => whnf))
  refine Then.mk (AWq.in ?_)
  refine AWp_nilrow1 6 1 rfl rfl fun a ha => ?_
  refine AWp.of tt_ok (dok _) rfl ?_
  (repeat' ((conv => whnf); first | refine Then.mk ?_ | left | refine OpsA.cons ?_ | refine OpsA.nil ?_ | refine AWq.seq ?_ | refine AWq.region ?_ | refine AWq.cond ?_ | refine AWq.block ?_ | refine AWq.skip ?_ | refine AWq.ret ?_ | refine AWq.exit ?_ | refine AWq.loop ?_ | (refine Both.mk ?_ ?_ <;> intro hc <;> (first | exact Bool.noConfusion hc | (exfalso; omega) | skip)) | (intro c hc; (try (simp only [AH.none_iff] at hc; repeat (have hn := hc.1; replace hc := hc.2))); (first | (refine i64_k hc ?_ ?_ ?_ ; omega; omega; (clear hc; intro hc; subst hc)) | skip)) | (apply Exists.intro; apply And.intro; (first | (focus (repeat (first | (with_reducible assumption))); done))) | (apply And.intro; (first | rfl | (with_reducible assumption) | omega)))) <;> (try (conv => whnf))
  refine AWp_loop (σ := AH × Nat × (Nat → Nat) × (Nat → Nat)) (6 :: 22 :: 23 :: 24 :: 25 :: 26 :: 27 :: 28 :: 29 :: []) (fun (G, i, P, Q) => [(6, .sl a i 1 0 i none), (22, .int .i64 i)]) (fun (G, i, P, Q) => G) (fun (G, i, P, Q) => i ≤ m ∧ AlphaOk H G a n i P Q) (fun (G, i, P, Q) => m - i) (_, 0, fun _ => 0, fun _ => 0) rfl ?_ ?_ (HLe.refl _) ?_
  · refine ⟨Nat.zero_le _, ⟨⟨fun k hk => absurd hk (by omega), fun j k hj => absurd hj (by omega), fun j k hj => absurd hj (by omega), fun j k hj => absurd hj (by omega)⟩, AH.set_same _ _ _, HLe.fresh _ ha, fun k hk => absurd hk (by omega), fun k hk => absurd hk (by omega)⟩⟩
  · exact ⟨rfl, rfl, trivial⟩
  · rintro ⟨G, i, P, Q⟩ ⟨hi, hok⟩
    dsimp only at hi hok ⊢
    obtain ⟨hmods, hrow, hle, hna, hnew⟩ := hok
    refine AWp.of tt_ok (dok _) rfl ?_
    have hpl : (psL P i).length = i := psL_len _ _
    by_cases him : i < m
    · (repeat' ((conv => whnf); first | refine Then.mk ?_ | left | refine OpsA.cons ?_ | refine OpsA.nil ?_ | refine AWq.seq ?_ | refine AWq.region ?_ | refine AWq.cond ?_ | refine AWq.block ?_ | refine AWq.skip ?_ | refine AWq.ret ?_ | refine AWq.exit ?_ | refine AWq.loop ?_ | (refine Both.mk ?_ ?_ <;> intro hc <;> (first | exact Bool.noConfusion hc | (exfalso; omega) | skip)) | (intro c hc; (try (simp only [AH.none_iff] at hc; repeat (have hn := hc.1; replace hc := hc.2))); (first | (refine i64_k hc ?_ ?_ ?_ ; omega; omega; (clear hc; intro hc; subst hc)) | skip)) | (apply Exists.intro; apply And.intro; (first | (focus (repeat (first | (with_reducible assumption))); done))) | (apply And.intro; (first | rfl | (with_reducible assumption) | omega)))) <;> (try (conv => whnf))
      refine (fresh_c n hn1 (by omega) _).mono ?_
      rintro y H' ⟨p, q, hp, hq, hpq, rfl, rfl⟩
      have hap : a ≠ p := AH.ne_none hp hrow
      have haq : a ≠ q := AH.ne_none hq hrow
      have hrow2 : mdH G p q n (fun _ => 1) a = some (.row (psL P i) i) := by rw [mdH_ne hap haq]; exact hrow
      have hm2 := hmods.more hp hq hpq (MdOk.new hn2)
      (repeat' ((conv => whnf); first | refine Then.mk ?_ | left | refine OpsA.cons ?_ | refine OpsA.nil ?_ | refine AWq.seq ?_ | refine AWq.region ?_ | refine AWq.cond ?_ | refine AWq.block ?_ | refine AWq.skip ?_ | refine AWq.ret ?_ | refine AWq.exit ?_ | refine AWq.loop ?_ | (refine Both.mk ?_ ?_ <;> intro hc <;> (first | exact Bool.noConfusion hc | (exfalso; omega) | skip)) | (intro c hc; (try (simp only [AH.none_iff] at hc; repeat (have hn := hc.1; replace hc := hc.2))); (first | (refine i64_k hc ?_ ?_ ?_ ; omega; omega; (clear hc; intro hc; subst hc)) | skip)) | (apply Exists.intro; apply And.intro; (first | (focus (repeat (first | (with_reducible assumption))); done))) | (apply And.intro; (first | rfl | (with_reducible assumption) | omega)))) <;> (try (conv => whnf))
      have hna2 : ∀ k, k < i + 1 → putF P i p k ≠ a ∧ putF Q i q k ≠ a := fun k hk => by
        by_cases e : k = i
        · subst e; rw [putF_at, putF_at]; exact ⟨Ne.symm hap, Ne.symm haq⟩
        · rw [putF_ne _ _ e, putF_ne _ _ e]; exact hna k (by omega)
      have hHp : H p = none := HLe.none hle hp
      have hHq : H q = none := HLe.none hle hq
      refine ⟨((mdH G p q n fun _ => 1).set a (.row (psL P i ++ [.ptr p 0 0]) (i + 1)), i + 1, putF P i p, putF Q i q), ⟨?_, ?_⟩, ?_, ⟨rfl, congrArg (AV.int .i64) ?_, trivial⟩, HLe.refl _⟩
      · show i + 1 ≤ m
        omega
      · refine ⟨?_, ?_, ?_, hna2, ?_⟩
        · exact hm2.same fun k hk => ⟨AH.set_ne _ _ (hna2 k hk).1, AH.set_ne _ _ (hna2 k hk).2⟩
        · dsimp only
          rw [AH.set_same, ← psL_snoc]
        · exact HLe.set_of _ _ (HLe.set_of _ _ (HLe.set_of _ _ hle hHq) hHp) ha
        · intro k hk
          show H (putF P i p k) = none ∧ H (putF Q i q k) = none
          by_cases e : k = i
          · subst e; rw [putF_at, putF_at]; exact ⟨hHp, hHq⟩
          · rw [putF_ne _ _ e, putF_ne _ _ e]; exact hnew k (by have : k < i + 1 := hk; omega)
      · show m - (i + 1) < m - i
        omega
      · show (i : Int) + 1 = (i + 1 : Nat)
        omega
    · have hie : i = m := by omega
      subst hie
      (repeat' ((conv => whnf); first | left | refine OpsA.cons ?_ | refine OpsA.nil ?_ | refine AWq.seq ?_ | refine AWq.region ?_ | refine AWq.cond ?_ | refine AWq.block ?_ | refine AWq.skip ?_ | refine AWq.ret ?_ | refine AWq.exit ?_ | refine AWq.loop ?_ | (refine Both.mk ?_ ?_ <;> intro hc <;> (first | exact Bool.noConfusion hc | (exfalso; omega) | skip)) | (intro c hc; (try (simp only [AH.none_iff] at hc; repeat (have hn := hc.1; replace hc := hc.2))); (first | (refine i64_k hc ?_ ?_ ?_ ; omega; omega; (clear hc; intro hc; subst hc)) | skip)) | (apply Exists.intro; apply And.intro; (first | (focus (repeat (first | (with_reducible assumption))); done))) | (apply And.intro; (first | rfl | (with_reducible assumption) | omega)))) <;> (try (conv => whnf))
      refine Then.mk (AWq.in ?_)
      refine AWp_freeze1 (r := a) (v := i) (es := 1) (n := i) (lim := none) (cells := psL P i) 6 rfl rfl hrow (by simp) ?_
      refine AWp.of tt_ok (dok _) rfl ?_
      (repeat' ((conv => whnf); first | refine Then.mk ?_ | left | refine OpsA.cons ?_ | refine OpsA.nil ?_ | refine AWq.seq ?_ | refine AWq.region ?_ | refine AWq.cond ?_ | refine AWq.block ?_ | refine AWq.skip ?_ | refine AWq.ret ?_ | refine AWq.exit ?_ | refine AWq.loop ?_ | (refine Both.mk ?_ ?_ <;> intro hc <;> (first | exact Bool.noConfusion hc | (exfalso; omega) | skip)) | (intro c hc; (try (simp only [AH.none_iff] at hc; repeat (have hn := hc.1; replace hc := hc.2))); (first | (refine i64_k hc ?_ ?_ ?_ ; omega; omega; (clear hc; intro hc; subst hc)) | skip)) | (apply Exists.intro; apply And.intro; (first | (focus (repeat (first | (with_reducible assumption))); done))) | (apply And.intro; (first | rfl | (with_reducible assumption) | omega)))) <;> (try (conv => whnf))
      exact ⟨P, Q, rfl, hmods.same fun k hk => ⟨AH.del_ne _ (hna k hk).1, AH.del_ne _ (hna k hk).2⟩, HLe.del _ hle ha, hnew⟩

open Go.Fw Go

theorem ACall.fin {P : Program} {g : FuncId} {args : List AV} {H : AH} {v : AV} (h : ACall P g args H fun y H' => AVle y v ∧ HLe H H') : ACall P g args H fun y H' => y = v ∧ H' = H :=
  ACall.told (h.mono fun y H' ⟨a, b⟩ => ⟨v, H, a, b, rfl, rfl⟩)

structure CdAt (H G : AH) (P Q : Nat → Nat) (w r m n : Nat) (E : Es) : Prop where
  mods : Mods G P Q m n E.M
  wr : WrAt G w r E.σ
  dj : ∀ k, k < m → P k ≠ w ∧ P k ≠ r ∧ Q k ≠ w ∧ Q k ≠ r
  le : HLe H G
  new : ∀ k, k < m → H (P k) = none ∧ H (Q k) = none
  hw : H w = none
  hr : H r = none
theorem le_mdH {H G : AH} {p q n : Nat} {c : Nat → Nat} (h : HLe H G) (hp : H p = none) (hq : H q = none) : HLe H (mdH G p q n c) := HLe.set_of _ _ (HLe.set_of _ _ h hq) hp
theorem le_wcH {H G : AH} {w r : Nat} {σ : Cs} (h : HLe H G) (hp : H w = none) (hq : H r = none) : HLe H (wcH G w r σ) := HLe.set_of _ _ (HLe.set_of _ _ h hq) hp
theorem CdAt.step {H G : AH} {P Q : Nat → Nat} {w r m n : Nat} {E : Es} (h : CdAt H G P Q w r m n E) (σ : Cs) : CdAt H (wcH G w r σ) P Q w r m n ⟨E.M, σ⟩ := by
  refine ⟨h.mods.same fun k hk => ?_, WrAt.set h.wr.ne, h.dj, le_wcH h.le h.hw h.hr, h.new, h.hw, h.hr⟩
  obtain ⟨a, b, c, d⟩ := h.dj k hk
  exact ⟨wcH_ne a b, wcH_ne c d⟩
def enG (G : AH) (P Q : Nat → Nat) (w r n : Nat) (E : Es) (k s : Nat) : AH := mdH (wcH G w r (symE n E k s).σ) (P k) (Q k) n (seeM n (E.M k) s)
theorem CdAt.sym {H G : AH} {P Q : Nat → Nat} {w r m n : Nat} {E : Es} (h : CdAt H G P Q w r m n E) {k s : Nat} (hk : k < m) (hs : s < n) : CdAt H (enG G P Q w r n E k s) P Q w r m n (symE n E k s) := by
  have h1 := h.step (symE n E k s).σ
  obtain ⟨a, b, c, d⟩ := h.dj k hk
  refine ⟨h1.mods.set hk ((h.mods.md k hk).ok.see hs), h1.wr.same (mdH_ne (Ne.symm a) (Ne.symm c)) (mdH_ne (Ne.symm b) (Ne.symm d)), h.dj, le_mdH h1.le (h.new k hk).1 (h.new k hk).2, h.new, h.hw, h.hr⟩
theorem CdAt.symbol {H G : AH} {P Q : Nat → Nat} {w r m n : Nat} {E : Es} (h : CdAt H G P Q w r m n E) (hc : CsOk E.σ) (hL : E.σ.L ≤ 1000000000000) {k s : Nat} (hk : k < m) (hs : s < n) :
    ACall Try.prog 84 [.ptr w 0 0, .ptr (P k) 0 0, .int .i64 s] G (fun y H' => y = .tup [] ∧ H' = enG G P Q w r n E k s) := by
  obtain ⟨a, b, c, d⟩ := h.dj k hk
  exact symbol_c h.wr (h.mods.md k hk) a b c d hs hc hL
theorem stp_L {σ : Cs} (h : CsOk σ) {p c t : Nat} (hs : StOk p c t) : (stp σ p c t).L ≤ σ.L + 2 := by
  obtain ⟨d, hd, he, _⟩ := stp_ex h hs
  rw [he]
  show σ.L + d ≤ _
  omega
def k_resV (x : List UInt8 × Int) : AV := .tup [.cs (u8s x.1) x.1.length, .int .i64 x.2]
theorem AVle.err {e : Int} : AVle (.tup [.nils, .int .i64 e]) (k_resV ([], e)) := AVle.tup (AVles.cons AVle.nils (AVles.cons (AVle.refl _) AVles.nil))

def I64L (l : List Int) : Prop := ∀ x ∈ l, -9223372036854775808 ≤ x ∧ x ≤ 9223372036854775807
theorem I64L.at {l : List Int} (h : I64L l) (i : Nat) : -9223372036854775808 ≤ l.getD i 0 ∧ l.getD i 0 ≤ 9223372036854775807 := by
  by_cases hi : i < l.length
  · have : l.getD i 0 = l[i] := by rw [List.getD_eq_getElem?_getD, List.getElem?_eq_getElem hi]; rfl
    rw [this]; exact h _ (List.getElem_mem hi)
  · rw [List.getD_eq_getElem?_getD, List.getElem?_eq_none (by omega)]; decide

open Go.Fw Go

theorem fold_zz (x : Int) : fold x = zz x := by
  unfold fold zz
  split <;> split <;> omega
set_option maxRecDepth 8000 in
theorem fold_c (x : Int) (h : -9223372036854775808 ≤ x ∧ x ≤ 9223372036854775807) (H : AH) :
    ACall Try.prog 82 [.int .i64 x] H (fun y H' => y = .int .u64 (fold x : Nat) ∧ H' = H) := by
  have e := zz_wire h.1 h.2
  rw [← fold_zz] at e
  refine ACall_of tt_ok (dok _) Try.func82 rfl (by decide) rfl ?_
  (repeat' ((conv => whnf); first | refine Then.mk ?_ | refine OpsA.cons ?_ | refine OpsA.nil ?_ | refine AWq.seq ?_ | refine AWq.region ?_ | refine AWq.ret ?_ | (intro c hc; (try (simp only [AH.none_iff] at hc; repeat (have hn := hc.1; replace hc := hc.2))); (first | subst hc)) | (apply And.intro; (first | rfl | omega)))) <;> (try (conv => whnf))
  exact ⟨congrArg (AV.int .u64) e, rfl⟩

theorem lenB_up {u k : Nat} (h1 : 2 ^ k ≤ u) : lenB u = k + lenB (u / 2 ^ k) := by
  have hp : 0 < 2 ^ k := Nat.pow_pos (by decide)
  have h0 : u ≠ 0 := by omega
  have hd : u / 2 ^ k ≠ 0 := by
    have := Nat.div_pos h1 hp; omega
  unfold lenB
  rw [if_neg h0, if_neg hd]
  have a := (Nat.le_log2 hd (k := (u / 2 ^ k).log2)).1 (Nat.le_refl _)
  have b := (Nat.log2_lt hd (k := (u / 2 ^ k).log2 + 1)).1 (Nat.lt_succ_self _)
  generalize (u / 2 ^ k).log2 = t at a b ⊢
  have c1 : k + t ≤ u.log2 := (Nat.le_log2 h0).2 (by
    rw [Nat.pow_add, Nat.mul_comm]
    exact (Nat.le_div_iff_mul_le hp).1 a)
  have c2 : u.log2 < k + (t + 1) := (Nat.log2_lt h0).2 (by
    rw [Nat.pow_add, Nat.mul_comm]
    exact (Nat.div_lt_iff_lt_mul hp).1 b)
  omega

def lenT (u : Nat) : Nat := if u < 1 then 0 else if u < 2 then 1 else if u < 4 then 2 else if u < 8 then 3 else if u < 16 then 4 else if u < 32 then 5 else if u < 64 then 6 else if u < 128 then 7 else 8
theorem lenT_ok : ∀ u, u < 256 → lenT u = lenB u := by decide +kernel

theorem lenB_two {u k : Nat} : ∃ x d : Nat, (2 ^ k ≤ u ∧ x = u / 2 ^ k ∧ d = k ∨ u < 2 ^ k ∧ x = u ∧ d = 0) ∧ lenB u = d + lenB x := by
  by_cases h : 2 ^ k ≤ u
  · exact ⟨_, _, .inl ⟨h, rfl, rfl⟩, lenB_up h⟩
  · exact ⟨_, _, .inr ⟨by omega, rfl, rfl⟩, by omega⟩
theorem sh32 (u : Nat) : (u : Int).fdiv (2 ^ min (Int.toNat 32) IntKind.u64.bits) = (u / 4294967296 : Nat) := by
  rw [show (2 : Int) ^ min (Int.toNat 32) IntKind.u64.bits = 4294967296 by decide, Int.fdiv_eq_ediv_of_nonneg _ (by omega)]; omega
theorem sh16 (u : Nat) : (u : Int).fdiv (2 ^ min (Int.toNat 16) IntKind.u64.bits) = (u / 65536 : Nat) := by
  rw [show (2 : Int) ^ min (Int.toNat 16) IntKind.u64.bits = 65536 by decide, Int.fdiv_eq_ediv_of_nonneg _ (by omega)]; omega
theorem sh8 (u : Nat) : (u : Int).fdiv (2 ^ min (Int.toNat 8) IntKind.u64.bits) = (u / 256 : Nat) := by
  rw [show (2 : Int) ^ min (Int.toNat 8) IntKind.u64.bits = 256 by decide, Int.fdiv_eq_ediv_of_nonneg _ (by omega)]; omega
def tab8 : List UInt8 := (List.range 256).map fun x => UInt8.ofNat (lenT x)
theorem tab8_at {l : List UInt8} (h : l = tab8) {x : Nat} (hx : x < 256) : (l.getD (x : Int).toNat 0).toNat = lenT x := by
  rw [h, Int.toNat_natCast]
  revert x
  decide +kernel
set_option maxRecDepth 8000 in
theorem len64_c (u : Nat) (h : u < 18446744073709551616) (H : AH) :
    ACall Try.prog 83 [.int .u64 u] H (fun y H' => y = .int .i64 (lenB u : Nat) ∧ H' = H) := by
  obtain ⟨x1, d1, h1, l1⟩ := lenB_two (u := u) (k := 32)
  obtain ⟨x2, d2, h2, l2⟩ := lenB_two (u := x1) (k := 16)
  obtain ⟨x3, d3, h3, l3⟩ := lenB_two (u := x2) (k := 8)
  have e1 := sh32 u
  have e2 := sh16 x1
  have e3 := sh8 x2
  simp only [show (2 : Nat) ^ 32 = 4294967296 by decide, show (2 : Nat) ^ 16 = 65536 by decide, show (2 : Nat) ^ 8 = 256 by decide] at h1 h2 h3
  have hx3 : x3 < 256 := by omega
  have hl := lenT_ok x3 hx3
  have hf : lenB u = d1 + d2 + d3 + lenB x3 := by omega
  have hb : lenB x3 ≤ 8 := by
    rw [← hl]; unfold lenT
    repeat' split
    all_goals omega
  rw [hf]
  obtain ⟨L, hL⟩ : ∃ L, L = lenB x3 := ⟨_, rfl⟩
  rw [← hL] at hb hl ⊢
  clear hf hL l1 l2 l3
  have hfin : ∀ l : List UInt8, l = tab8 → ∀ d : Nat, d ≤ 56 → ∀ e : Int, e = d → AV.int .i64 (IntKind.i64.wrap (e + IntKind.i64.wrap (l.getD (x3 : Int).toNat 0).toNat)) = AV.int .i64 (d + L : Nat) ∧ H = H := fun l hl2 d hd e he => by
    refine ⟨congrArg (AV.int .i64) ?_, rfl⟩
    rw [tab8_at hl2 hx3, hl, IntKind.wrap_i64, IntKind.wrap_i64, he]
    clear h e1 e2 e3 h1 h2 h3
    omega
  rcases h1 with ⟨a1, a2, a3⟩ | ⟨a1, a2, a3⟩ <;> subst a2 a3 <;> rcases h2 with ⟨b1, b2, b3⟩ | ⟨b1, b2, b3⟩ <;> subst b2 b3 <;> rcases h3 with ⟨c1, c2, c3⟩ | ⟨c1, c2, c3⟩ <;> subst c2 c3
  all_goals
    refine ACall_of tt_ok (dok _) Try.func83 rfl (by decide) rfl ?_
    (repeat' ((conv => whnf); first | refine Then.mk ?_ | refine OpsA.cons ?_ | refine OpsA.nil ?_ | refine AWq.seq ?_ | refine AWq.region ?_ | refine AWq.cond ?_ | refine AWq.skip ?_ | refine AWq.ret ?_ | (refine Both.mk ?_ ?_ <;> intro hc <;> (first | exact Bool.noConfusion hc | (exfalso; omega) | skip)) | (intro c hc; (try (simp only [AH.none_iff] at hc; repeat (have hn := hc.1; replace hc := hc.2))); (first | (have hc2 := Eq.trans hc (by with_reducible assumption); clear hc; subst hc2) | (refine i64_k hc ?_ ?_ ?_ ; omega; omega; (clear hc; intro hc; subst hc)) | (refine u8_k hc ?_ ?_ ?_ ; omega; omega; (clear hc; intro hc; subst hc)) | subst hc | skip)) | (apply And.intro; (first | rfl | omega | (exact Int.ofNat_lt.2 (Nat.lt_of_lt_of_eq (by with_reducible assumption) (by decide +kernel))))))) <;> (try (conv => whnf))
    exact hfin _ (by decide +kernel) _ (by decide) _ (by decide)
open Go.Fw Go

theorem shr_at (u k : Nat) (h : k ≤ 63) : (u : Int).fdiv (2 ^ min (Int.toNat (k : Int)) IntKind.u64.bits) = (u / 2 ^ k : Nat) := by
  rw [show min (Int.toNat (k : Int)) IntKind.u64.bits = k by show min k 64 = k; omega, Int.fdiv_eq_ediv_of_nonneg _ (Int.le_of_lt (Int.pow_pos (by decide)))]
  rw [Int.natCast_ediv, Int.natCast_pow]; rfl
theorem and_one (x : Nat) (h : x < 18446744073709551616) : bitsA .and .u64 (x : Nat) 1 = (x % 2 : Nat) := by
  show IntKind.u64.wrap ((BitVec.ofInt 64 (x : Int) &&& BitVec.ofInt 64 1).toNat : Int) = _
  have ha : (BitVec.ofInt 64 (x : Int)).toNat = x := by rw [BitVec.toNat_ofInt]; omega
  have hb : (BitVec.ofInt 64 1).toNat = 2 ^ 1 - 1 := by decide
  rw [BitVec.toNat_and, ha, hb, Nat.and_two_pow_sub_one_eq_mod, wrap_u64']
  omega
theorem bitsE_L {u : Nat} : ∀ (k : Nat) {σ : Cs}, CsOk σ → (bitsE u k σ).L ≤ σ.L + 2 * k
  | 0, _, _ => Nat.le_refl _
  | k + 1, σ, h => by
    have h1 := bitsE_L (u := u) k (bitE_ok h u k)
    have h2 : (bitE σ u k).L ≤ σ.L + 2 := stp_L h (bit_st u k)
    show (bitsE u k (bitE σ u k)).L ≤ _
    omega
theorem intI_L {I : Is} (h : IsOk I) {u : Nat} (hu : u < 2 ^ 64) : (intI I u).E.σ.L ≤ I.E.σ.L + 130 := by
  have hl := lenB_le hu
  have h1 := stp_L h.es.cs (h.es.st I.b (s := lenB u) (by omega))
  have h2 := bitsE_L (u := u) (lenB u - 1) (h.es.sym I.b (s := lenB u) (by omega)).cs
  have h3 : (symE 65 I.E I.b (lenB u)).σ.L ≤ I.E.σ.L + 2 := h1
  show (bitsE u (lenB u - 1) (symE 65 I.E I.b (lenB u)).σ).L ≤ _
  omega
theorem intsI_L : ∀ (us : List Nat) {I : Is}, (∀ u ∈ us, u < 2 ^ 64) → IsOk I → (intsI us I).E.σ.L ≤ I.E.σ.L + 130 * us.length
  | [], _, _, _ => Nat.le_refl _
  | u :: us, I, hu, h => by
    have h1 := intI_L h (hu u (by simp))
    have h2 := intsI_L us (I := intI I u) (fun v hv => hu v (by simp [hv])) (h.step (hu u (by simp)))
    show (intsI us (intI I u)).E.σ.L ≤ _
    rw [List.length_cons]
    omega
theorem fold_all {l : List Int} (h : I64L l) : ∀ u ∈ l.map fold, u < 2 ^ 64 := fun u hu => by
  obtain ⟨x, hx, rfl⟩ := List.mem_map.1 hu
  exact fold_lt (h x hx)
theorem I64L.take {l : List Int} (h : I64L l) (n : Nat) : I64L (l.take n) := fun x hx => h x (List.mem_of_mem_take hx)

set_option maxRecDepth 8000 in
theorem cInts_c (l : List Int) (hl : I64L l) (hlen : l.length ≤ 1000000) (H : AH) :
    ACall Try.prog 60 [.cs (iS .i64 l) l.length] H (fun y H' => y = k_resV (intsS l) ∧ H' = H) := by
  refine ACall.fin ?_
  have hsl : (iS .i64 l).length = l.length * 1 := by simp
  by_cases hlim : l.length ≤ 65536
  · have he : intsS l = (codeS (intsI (l.map fold) is0).E.σ, 0) := if_pos hlim
    rw [he]
    refine ACall_of tt_ok (dok _) Try.func60 rfl (by decide) rfl ?_
    (repeat' ((conv => whnf); first | refine Then.mk ?_ | refine OpsA.cons ?_ | refine OpsA.nil ?_ | refine AWq.seq ?_ | refine AWq.region ?_ | refine AWq.cond ?_ | refine AWq.block ?_ | refine AWq.skip ?_ | refine AWq.ret ?_ | refine AWq.exit ?_ | refine AWq.loop ?_ | (refine Both.mk ?_ ?_ <;> intro hc <;> (first | exact Bool.noConfusion hc | (exfalso; omega) | skip)) | (intro c hc; (try (simp only [AH.none_iff] at hc; repeat (have hn := hc.1; replace hc := hc.2))); (first | (have hc2 := Eq.trans hc (by with_reducible assumption); clear hc; subst hc2) | (refine i64_k hc ?_ ?_ ?_ ; omega; omega; (clear hc; intro hc; subst hc)) | skip)) | (apply Exists.intro; apply And.intro; first | (with_reducible assumption) | ((try simp only [List.getElem?_drop, Nat.mul_one, Nat.add_zero, Nat.zero_add]); first | (with_reducible assumption) | rfl)) | (apply And.intro; (first | rfl | (with_reducible assumption) | omega)))) <;> (try (conv => whnf))
    refine (alphabet_c 65 65 (by omega) (by omega) (by omega) (by omega) _).mono ?_
    rintro y H' ⟨P, Q, rfl, hmods, hle, hnew⟩
    have hpl : (psL P 65).length = 65 := psL_len _ _
    (repeat' ((conv => whnf); first | refine Then.mk ?_ | refine OpsA.cons ?_ | refine OpsA.nil ?_ | refine AWq.seq ?_ | refine AWq.region ?_ | refine AWq.cond ?_ | refine AWq.block ?_ | refine AWq.skip ?_ | refine AWq.ret ?_ | refine AWq.exit ?_ | refine AWq.loop ?_ | (refine Both.mk ?_ ?_ <;> intro hc <;> (first | exact Bool.noConfusion hc | (exfalso; omega) | skip)) | (intro c hc; (try (simp only [AH.none_iff] at hc; repeat (have hn := hc.1; replace hc := hc.2))); (first | (have hc2 := Eq.trans hc (by with_reducible assumption); clear hc; subst hc2) | (refine i64_k hc ?_ ?_ ?_ ; omega; omega; (clear hc; intro hc; subst hc)) | skip)) | (apply Exists.intro; apply And.intro; first | (with_reducible assumption) | ((try simp only [List.getElem?_drop, Nat.mul_one, Nat.add_zero, Nat.zero_add]); first | (with_reducible assumption) | rfl)) | (apply And.intro; (first | rfl | (with_reducible assumption) | omega)))) <;> (try (conv => whnf))
    refine (writer_c _).mono ?_
    rintro y G ⟨w, r, hw, hr, hwr, rfl, rfl⟩
    have hcd : CdAt H (wcH H' w r cs0) P Q w r 65 65 es0 := by
      have hd : ∀ k, k < 65 → P k ≠ w ∧ P k ≠ r ∧ Q k ≠ w ∧ Q k ≠ r := fun k hk => ⟨(hmods.fresh hw hk).1, (hmods.fresh hr hk).1, (hmods.fresh hw hk).2, (hmods.fresh hr hk).2⟩
      exact ⟨hmods.same fun k hk => ⟨wcH_ne (hd k hk).1 (hd k hk).2.1, wcH_ne (hd k hk).2.2.1 (hd k hk).2.2.2⟩, WrAt.set hwr, hd, le_wcH hle (HLe.none hle hw) (HLe.none hle hr), hnew, HLe.none hle hw, HLe.none hle hr⟩
    generalize wcH H' w r cs0 = G0 at hcd ⊢
    (repeat' ((conv => whnf); first | refine Then.mk ?_ | refine OpsA.cons ?_ | refine OpsA.nil ?_ | refine AWq.seq ?_ | refine AWq.region ?_ | refine AWq.cond ?_ | refine AWq.block ?_ | refine AWq.skip ?_ | refine AWq.ret ?_ | refine AWq.exit ?_ | refine AWq.loop ?_ | (refine Both.mk ?_ ?_ <;> intro hc <;> (first | exact Bool.noConfusion hc | (exfalso; omega) | skip)) | (intro c hc; (try (simp only [AH.none_iff] at hc; repeat (have hn := hc.1; replace hc := hc.2))); (first | (have hc2 := Eq.trans hc (by with_reducible assumption); clear hc; subst hc2) | (refine i64_k hc ?_ ?_ ?_ ; omega; omega; (clear hc; intro hc; subst hc)) | skip)) | (apply Exists.intro; apply And.intro; first | (with_reducible assumption) | ((try simp only [List.getElem?_drop, Nat.mul_one, Nat.add_zero, Nat.zero_add]); first | (with_reducible assumption) | rfl)) | (apply And.intro; (first | rfl | (with_reducible assumption) | omega)))) <;> (try (conv => whnf))
    refine AWp_loop (σ := AH × Nat × Is) (7 :: 9 :: 10 :: 11 :: 12 :: 23 :: 24 :: 25 :: 26 :: 27 :: 28 :: 29 :: 30 :: 31 :: 32 :: 33 :: 34 :: 35 :: 36 :: 37 :: 38 :: 39 :: 40 :: 41 :: 42 :: 43 :: 44 :: 45 :: 46 :: 47 :: 48 :: 49 :: 50 :: 51 :: 52 :: []) (fun (G, i, I) => [(7, .int .i64 I.b), (23, .int .i64 i)]) (fun (G, i, I) => G) (fun (G, i, I) => i ≤ l.length ∧ intsI ((l.take i).map fold) is0 = I ∧ CdAt H G P Q w r 65 65 I.E) (fun (G, i, I) => l.length - i) (G0, 0, is0) rfl ?_ ?_ (HLe.refl _) ?_
    · exact ⟨Nat.zero_le _, rfl, hcd⟩
    · exact ⟨rfl, rfl, trivial⟩
    · rintro ⟨G, i, I⟩ ⟨hi, hI, hcd⟩
      dsimp only at hi hI hcd ⊢
      refine AWp.of tt_ok (dok _) rfl ?_
      have hok : IsOk I := by rw [← hI]; exact intsI_ok (fold_all (hl.take i)) is0_ok
      have hL : I.E.σ.L ≤ 130 * 65536 := by
        have := intsI_L ((l.take i).map fold) (I := is0) (fold_all (hl.take i)) is0_ok
        rw [hI] at this
        have h0 : is0.E.σ.L = 0 := rfl
        rw [h0, List.length_map, List.length_take] at this
        omega
      have hb := hok.b
      by_cases hil : i < l.length
      · have hga : (iS .i64 l)[(i : Int).toNat]? = some (.int .i64 (l.getD i 0)) := iS_get hil
        have ha := hl.at i
        have hn : intsI ((l.take (i + 1)).map fold) is0 = intI I (fold (l.getD i 0)) := by
          rw [List.take_add_one, List.getElem?_eq_getElem hil, List.map_append]
          have : l.getD i 0 = l[i] := by rw [List.getD_eq_getElem?_getD, List.getElem?_eq_getElem hil]; rfl
          rw [this]
          show intsI (_ ++ [fold l[i]]) is0 = _
          rw [intsI_snoc, hI]
        generalize l.getD i 0 = a at *
        have hfold := fun H => fold_c a ha H
        have hu := fold_lt ha
        generalize fold a = u at *
        have hlen64 := fun H => len64_c u (by simpa using hu) H
        have hlb := lenB_le hu
        have hsm := hcd.symbol hok.es.cs (by omega) (k := I.b) (s := lenB u) (by omega) (by omega)
        have hcd2 := hcd.sym (k := I.b) (s := lenB u) (by omega) (by omega)
        have hok2 := hok.es.sym I.b (s := lenB u) (by omega)
        have hL2 : (symE 65 I.E I.b (lenB u)).σ.L ≤ I.E.σ.L + 2 := stp_L hok.es.cs (hok.es.st I.b (s := lenB u) (by omega))
        have hgp : (psL P 65)[(I.b : Int).toNat]? = some (.ptr (P I.b) 0 0) := psL_get (by omega)
        have hfin : intI I u = ⟨⟨(symE 65 I.E I.b (lenB u)).M, bitsE u (lenB u - 1) (symE 65 I.E I.b (lenB u)).σ⟩, lenB u⟩ := rfl
        generalize symE 65 I.E I.b (lenB u) = E2 at *
        obtain ⟨C, hC⟩ : ∃ C, C = lenB u := ⟨_, rfl⟩
        rw [← hC] at hlb hfin hlen64 hsm hcd2
        (repeat' ((conv => whnf); first | refine Then.mk ?_ | refine OpsA.cons ?_ | refine OpsA.nil ?_ | refine AWq.seq ?_ | refine AWq.region ?_ | refine AWq.cond ?_ | refine AWq.block ?_ | refine AWq.skip ?_ | refine AWq.ret ?_ | refine AWq.exit ?_ | refine AWq.loop ?_ | (refine Both.mk ?_ ?_ <;> intro hc <;> (first | exact Bool.noConfusion hc | (exfalso; omega) | skip)) | (intro c hc; (try (simp only [AH.none_iff] at hc; repeat (have hn := hc.1; replace hc := hc.2))); (first | (have hc2 := Eq.trans hc (by with_reducible assumption); clear hc; subst hc2) | (refine i64_k hc ?_ ?_ ?_ ; omega; omega; (clear hc; intro hc; subst hc)) | skip)) | (apply Exists.intro; apply And.intro; first | (with_reducible assumption) | ((try simp only [List.getElem?_drop, Nat.mul_one, Nat.add_zero, Nat.zero_add]); first | (with_reducible assumption) | rfl)) | (apply And.intro; (first | rfl | (with_reducible assumption) | omega)) | (refine ACall.to (hfold _) ?_) | (refine ACall.to (hlen64 _) ?_) | (refine ACall.to (hsm) ?_))) <;> (try (conv => whnf))
        generalize enG G P Q w r 65 I.E I.b C = G1 at hcd2 ⊢
        refine AWp_loop (σ := AH × Nat × Cs × Int) (12 :: 40 :: 41 :: 42 :: 43 :: 44 :: 45 :: 46 :: 47 :: 48 :: 49 :: 50 :: []) (fun (G, k, τ, j) => [(12, .int .i64 j)]) (fun (G, k, τ, j) => G) (fun (G, k, τ, j) => (j = (k : Int) - 1 ∨ k = 0 ∧ j = -2) ∧ bitsE u k τ = bitsE u (C - 1) E2.σ ∧ CsOk τ ∧ τ.L + 2 * k ≤ 20000000 ∧ k ≤ 63 ∧ CdAt H G P Q w r 65 65 ⟨E2.M, τ⟩) (fun (G, k, τ, j) => k) (G1, C - 1, E2.σ, (C : Int) - 2) rfl ?_ ?_ (HLe.refl _) ?_
        · exact ⟨by omega, rfl, hok2.cs, by omega, by omega, hcd2⟩
        · exact ⟨rfl, trivial⟩
        · rintro ⟨G2, k, τ, j⟩ ⟨k1, k2, k3, k4, k5, k6⟩
          dsimp only at k1 k2 k3 k4 k5 k6 ⊢
          refine AWp.of tt_ok (dok _) rfl ?_
          by_cases hk : k = 0
          · subst hk
            have hj : j < 0 := by omega
            have he2 : intI I u = ⟨⟨E2.M, τ⟩, C⟩ := by rw [hfin, ← k2]; rfl
            rw [he2] at hn
            (repeat' ((conv => whnf); first | refine Then.mk ?_ | refine OpsA.cons ?_ | refine OpsA.nil ?_ | refine AWq.seq ?_ | refine AWq.region ?_ | refine AWq.cond ?_ | refine AWq.block ?_ | refine AWq.skip ?_ | refine AWq.ret ?_ | refine AWq.exit ?_ | refine AWq.loop ?_ | (refine Both.mk ?_ ?_ <;> intro hc <;> (first | exact Bool.noConfusion hc | (exfalso; omega) | skip)) | (intro c hc; (try (simp only [AH.none_iff] at hc; repeat (have hn := hc.1; replace hc := hc.2))); (first | (have hc2 := Eq.trans hc (by with_reducible assumption); clear hc; subst hc2) | (refine i64_k hc ?_ ?_ ?_ ; omega; omega; (clear hc; intro hc; subst hc)) | skip)) | (apply Exists.intro; apply And.intro; first | (with_reducible assumption) | ((try simp only [List.getElem?_drop, Nat.mul_one, Nat.add_zero, Nat.zero_add]); first | (with_reducible assumption) | rfl)) | (apply And.intro; (first | rfl | (with_reducible assumption) | omega)))) <;> (try (conv => whnf))
            exact ⟨(G2, i + 1, ⟨⟨E2.M, τ⟩, C⟩), ⟨hil, hn, k6⟩, by show l.length - (i + 1) < l.length - i; omega, ⟨rfl, congrArg (AV.int .i64) (by show (i : Int) + 1 = (i + 1 : Nat); omega), trivial⟩, HLe.refl _⟩
          · obtain ⟨k, rfl⟩ : ∃ d, k = d + 1 := ⟨k - 1, by omega⟩
            obtain rfl : j = (k : Int) := by omega
            have f1 := shr_at u k (by omega)
            have hx : u / 2 ^ k < 18446744073709551616 := Nat.lt_of_le_of_lt (Nat.div_le_self _ _) (by simpa using hu)
            have hst := k_step_c k6.wr k3 (bit_st u k) (show τ.L ≤ _ by omega)
            have k6' := k6.step (bitE τ u k)
            have hok3 := bitE_ok k3 u k
            have hL3 : (bitE τ u k).L ≤ τ.L + 2 := stp_L k3 (bit_st u k)
            have hb2 : bitsE u (k + 1) τ = bitsE u k (bitE τ u k) := rfl
            have hst : ACall Try.prog 85 [.ptr w 0 0, .int .i64 (u / 2 ^ k % 2 : Nat), .int .i64 1, .int .i64 2] G2 (fun y H' => y = .tup [] ∧ H' = wcH G2 w r (bitE τ u k)) := hst
            rw [hb2] at k2
            generalize bitE τ u k = τ2 at *
            generalize u / 2 ^ k = x at *
            have f2 := and_one x hx
            have hx2 : x % 2 < 2 := Nat.mod_lt _ (by decide)
            generalize x % 2 = y at *
            (repeat' ((conv => whnf); first | refine Then.mk ?_ | refine OpsA.cons ?_ | refine OpsA.nil ?_ | refine AWq.seq ?_ | refine AWq.region ?_ | refine AWq.cond ?_ | refine AWq.block ?_ | refine AWq.skip ?_ | refine AWq.ret ?_ | refine AWq.exit ?_ | refine AWq.loop ?_ | (refine Both.mk ?_ ?_ <;> intro hc <;> (first | exact Bool.noConfusion hc | (exfalso; omega) | skip)) | (intro c hc; (try (simp only [AH.none_iff] at hc; repeat (have hn := hc.1; replace hc := hc.2))); (first | (have hc2 := Eq.trans hc (by with_reducible assumption); clear hc; subst hc2) | (refine i64_k hc ?_ ?_ ?_ ; omega; omega; (clear hc; intro hc; subst hc)) | skip)) | (apply Exists.intro; apply And.intro; first | (with_reducible assumption) | ((try simp only [List.getElem?_drop, Nat.mul_one, Nat.add_zero, Nat.zero_add]); first | (with_reducible assumption) | rfl)) | (apply And.intro; (first | rfl | (with_reducible assumption) | omega)) | (refine ACall.to (hst) ?_))) <;> (try (conv => whnf))
            exact ⟨(_, k, τ2, (k : Int) - 1), ⟨.inl rfl, k2, hok3, by dsimp only; omega, by dsimp only; omega, k6'⟩, Nat.lt_succ_self _, ⟨rfl, trivial⟩, HLe.refl _⟩
      · have hie : i = l.length := by omega
        have hcode := code_c (H := G) (σ := I.E.σ) hcd.wr.ne (by omega)
        rw [hcd.wr.eq] at hcode
        rw [hie, List.take_length] at hI
        rw [hI]
        (repeat' ((conv => whnf); first | refine Then.mk ?_ | refine OpsA.cons ?_ | refine OpsA.nil ?_ | refine AWq.seq ?_ | refine AWq.region ?_ | refine AWq.cond ?_ | refine AWq.block ?_ | refine AWq.skip ?_ | refine AWq.ret ?_ | refine AWq.exit ?_ | refine AWq.loop ?_ | (refine Both.mk ?_ ?_ <;> intro hc <;> (first | exact Bool.noConfusion hc | (exfalso; omega) | skip)) | (intro c hc; (try (simp only [AH.none_iff] at hc; repeat (have hn := hc.1; replace hc := hc.2))); (first | (have hc2 := Eq.trans hc (by with_reducible assumption); clear hc; subst hc2) | (refine i64_k hc ?_ ?_ ?_ ; omega; omega; (clear hc; intro hc; subst hc)) | skip)) | (apply Exists.intro; apply And.intro; first | (with_reducible assumption) | ((try simp only [List.getElem?_drop, Nat.mul_one, Nat.add_zero, Nat.zero_add]); first | (with_reducible assumption) | rfl)) | (apply And.intro; (first | rfl | (with_reducible assumption) | omega)) | (refine ACall.to (hcode) ?_))) <;> (try (conv => whnf))
        exact ⟨AVle.refl _, HLe.del _ hcd.le hcd.hr⟩
  · have he : intsS l = ([], 4) := if_neg hlim
    rw [he]
    refine ACall_of tt_ok (dok _) Try.func60 rfl (by decide) rfl ?_
    (repeat' ((conv => whnf); first | refine Then.mk ?_ | refine OpsA.cons ?_ | refine OpsA.nil ?_ | refine AWq.seq ?_ | refine AWq.region ?_ | refine AWq.cond ?_ | refine AWq.block ?_ | refine AWq.skip ?_ | refine AWq.ret ?_ | refine AWq.exit ?_ | refine AWq.loop ?_ | (refine Both.mk ?_ ?_ <;> intro hc <;> (first | exact Bool.noConfusion hc | (exfalso; omega) | skip)) | (intro c hc; (try (simp only [AH.none_iff] at hc; repeat (have hn := hc.1; replace hc := hc.2))); (first | (have hc2 := Eq.trans hc (by with_reducible assumption); clear hc; subst hc2) | (refine i64_k hc ?_ ?_ ?_ ; omega; omega; (clear hc; intro hc; subst hc)) | skip)) | (apply Exists.intro; apply And.intro; first | (with_reducible assumption) | ((try simp only [List.getElem?_drop, Nat.mul_one, Nat.add_zero, Nat.zero_add]); first | (with_reducible assumption) | rfl)) | (apply And.intro; (first | rfl | (with_reducible assumption) | omega)))) <;> (try (conv => whnf))
    exact ⟨AVle.err, HLe.refl _⟩
end Go.Proofs.Ytgpfmojlgejnhaa
