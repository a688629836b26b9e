/- The walk of the reference's Zigzag, and that it is the program's. -/
import Derived.Test.YtajmabnnaidhkaaWaveR
import Derived.Test.YtajmabnnaidhkaaWaveJ
namespace Go.Proofs.Ytajmabnnaidhkaa
open Go.Fw Go
set_option linter.unusedVariables false
set_option linter.unusedSimpArgs false

def zRow (S b i n : Nat) : List Int := (List.range n).filterMap fun k => if blk i k = b then some ((i * S + k : Nat) : Int) else none
def zBlk (S b n : Nat) : List Int := (List.range n).flatMap fun i => zRow S b i S
def zRef (S n : Nat) : List Int := (List.range n).flatMap fun b => zBlk S b S
theorem zRow_succ (S b i n : Nat) : zRow S b i (n + 1) = zRow S b i n ++ (if blk i n = b then [((i * S + n : Nat) : Int)] else []) := by
  unfold zRow
  rw [List.range_succ, List.filterMap_append]
  congr 1
  split <;> simp [*]
theorem zBlk_succ (S b n : Nat) : zBlk S b (n + 1) = zBlk S b n ++ zRow S b n S := by simp [zBlk, List.range_succ]
theorem zRef_succ (S n : Nat) : zRef S (n + 1) = zRef S n ++ zBlk S n S := by simp [zRef, List.range_succ]
theorem zRow_len (S b i n : Nat) : (zRow S b i n).length ≤ n := by
  unfold zRow
  have := List.length_filterMap_le (fun k => if blk i k = b then some ((i * S + k : Nat) : Int) else none) (List.range n)
  simpa using this
theorem zBlk_len (S b n : Nat) : (zBlk S b n).length ≤ n * S := by
  induction n with
  | zero => simp [zBlk]
  | succ n ih => rw [zBlk_succ, List.length_append, Nat.add_mul]; have := zRow_len S b n S; omega
theorem zRef_len (S n : Nat) : (zRef S n).length ≤ n * (S * S) := by
  induction n with
  | zero => simp [zRef]
  | succ n ih => rw [zRef_succ, List.length_append, Nat.add_mul]; have := zBlk_len S n S; omega

theorem zig_eq {k : Nat} (h : k ≤ 4) : zRef (2 ^ k) 13 = zgz (2 ^ k) k := by
  rcases (show k = 0 ∨ k = 1 ∨ k = 2 ∨ k = 3 ∨ k = 4 by omega) with rfl | rfl | rfl | rfl | rfl <;> decide +kernel

set_option maxRecDepth 8000 in
theorem rZig_c (S : Nat) (hS : 1 ≤ S ∧ S ≤ 16) (H : AH) : ACall Try.prog 29 [.int .i64 S] H (fun y H' => y = .cs (iS .i64 (zRef S 13)) (zRef S 13).length ∧ H' = H) := by
  refine ACall.coldX (es := 1) (Q := fun H' => H' = H) (by simp) ?_
  have hSS : S * S ≤ 256 := Nat.mul_le_mul hS.2 hS.2
  refine ACall_of tt_ok (dok _) Try.func29 rfl (by decide) rfl ?_
  (repeat' ((conv => whnf); first | refine Then.mk ?_ | left | refine OpsA.cons ?_ | refine OpsA.nil ?_ | refine AWq.seq ?_ | refine AWq.region ?_ | refine AWq.cond ?_ | refine AWq.block ?_ | refine AWq.skip ?_ | refine AWq.ret ?_ | refine AWq.exit ?_ | refine AWq.loop ?_ | refine AWq.rangeFunc ?_ | refine DrawA.consD ?_ | refine DrawA.nil ?_ | refine AWq.draw (by decide +kernel) ?_ | (refine Both.mk ?_ ?_ <;> intro hc <;> (first | exact Bool.noConfusion hc | exact absurd (by with_reducible rfl) hc | exact (hc : False).elim | exact absurd (by assumption) hc | exact absurd hc (by assumption) | (exfalso; omega) | exact absurd hc (by decide) | skip)) | (intro c hc; (try (simp only [AH.none_iff] at hc; repeat (have hn := hc.1; replace hc := hc.2))); (first | (refine i64_k hc ?_ ?_ ?_ ; omega; omega; (clear hc; intro hc; subst hc)) | (refine u64_k hc ?_ ?_ ?_ ; omega; omega; (clear hc; intro hc; subst hc)) | (refine u8_k hc ?_ ?_ ?_ ; omega; omega; (clear hc; intro hc; subst hc)) | subst hc | skip)) | (apply Exists.intro; apply And.intro; (focus (repeat (first | assumption | exact AH.set_same _ _ _ | ((first | refine AH.get_ne ?_ ?_ | refine AH.getd_ne ?_ ?_); (first | assumption | omega | exact Ne.symm (by assumption) | exact AH.ne_none (by assumption) (by assumption) | exact AH.none_ne (by assumption) (by assumption) | exact (AH.none_set (by assumption)).1 | exact Ne.symm (AH.none_set (by assumption)).1)))); done)) | (apply Exists.intro; apply And.intro; (try simp only [List.getElem?_drop, Nat.mul_one, Nat.add_zero, Nat.zero_add]); first | (refine u8s_get ?_; omega) | (refine iS_get ?_; omega) | assumption | rfl | fail) | (apply And.intro; (first | rfl | assumption | exact Nat.le_of_ble_eq_true rfl | omega | (simp <;> fail) | (simp <;> omega) | (focus (repeat' (first | exact one_u8s _ | exact one_iS _ _ | rfl | apply one_take | apply one_drop | apply one_append)); done) | fail)) | fail)) <;> (try (conv => whnf))
  refine AWp_nilrow1 3 1 rfl rfl fun q hq => ?_
  refine AWp_loop (σ := Nat × Nat) (3 :: 4 :: 5 :: 6 :: 7 :: 8 :: 9 :: 10 :: 11 :: 12 :: 13 :: 14 :: 15 :: 16 :: 17 :: 18 :: 19 :: 20 :: 21 :: 22 :: 23 :: 24 :: 25 :: 26 :: 27 :: 28 :: 29 :: 30 :: 31 :: 32 :: 33 :: []) (fun (b, v) => [(4, .int .i64 b), (3, .sl q v 1 0 (zRef S b).length none)]) (fun (b, v) => AH.set H q (.row (iS .i64 (zRef S b)) v)) (fun (b, v) => b ≤ 13) (fun (b, v) => 13 - b) (0, 0) rfl ?_ ?_ ?_ ?_
  · exact Nat.zero_le _
  · exact ⟨rfl, rfl, trivial⟩
  · exact HLe.refl _
  · rintro ⟨b, v⟩ hb
    dsimp only at hb ⊢
    refine AWp.of tt_ok (dok _) rfl ?_
    have l1 := zRef_len S b
    have l1' : b * (S * S) ≤ 3328 := Nat.mul_le_mul hb hSS
    by_cases hb13 : b < 13
    · have hsb := zRef_succ S b
      obtain ⟨D, hD⟩ : ∃ D, D = zRef S b := ⟨_, rfl⟩
      rw [← hD] at hsb l1 ⊢
      (repeat' ((conv => whnf); first | refine Then.mk ?_ | left | refine OpsA.cons ?_ | refine OpsA.nil ?_ | refine AWq.seq ?_ | refine AWq.region ?_ | refine AWq.cond ?_ | refine AWq.block ?_ | refine AWq.skip ?_ | refine AWq.ret ?_ | refine AWq.exit ?_ | refine AWq.loop ?_ | refine AWq.rangeFunc ?_ | refine DrawA.consD ?_ | refine DrawA.nil ?_ | refine AWq.draw (by decide +kernel) ?_ | (refine Both.mk ?_ ?_ <;> intro hc <;> (first | exact Bool.noConfusion hc | exact absurd (by with_reducible rfl) hc | exact (hc : False).elim | exact absurd (by assumption) hc | exact absurd hc (by assumption) | (exfalso; omega) | exact absurd hc (by decide) | skip)) | (intro c hc; (try (simp only [AH.none_iff] at hc; repeat (have hn := hc.1; replace hc := hc.2))); (first | (refine i64_k hc ?_ ?_ ?_ ; omega; omega; (clear hc; intro hc; subst hc)) | (refine u64_k hc ?_ ?_ ?_ ; omega; omega; (clear hc; intro hc; subst hc)) | (refine u8_k hc ?_ ?_ ?_ ; omega; omega; (clear hc; intro hc; subst hc)) | subst hc | skip)) | (apply Exists.intro; apply And.intro; (focus (repeat (first | assumption | exact AH.set_same _ _ _ | ((first | refine AH.get_ne ?_ ?_ | refine AH.getd_ne ?_ ?_); (first | assumption | omega | exact Ne.symm (by assumption) | exact AH.ne_none (by assumption) (by assumption) | exact AH.none_ne (by assumption) (by assumption) | exact (AH.none_set (by assumption)).1 | exact Ne.symm (AH.none_set (by assumption)).1)))); done)) | (apply Exists.intro; apply And.intro; (try simp only [List.getElem?_drop, Nat.mul_one, Nat.add_zero, Nat.zero_add]); first | (refine u8s_get ?_; omega) | (refine iS_get ?_; omega) | assumption | rfl | fail) | (apply And.intro; (first | rfl | assumption | exact Nat.le_of_ble_eq_true rfl | omega | (simp <;> fail) | (simp <;> omega) | (focus (repeat' (first | exact one_u8s _ | exact one_iS _ _ | rfl | apply one_take | apply one_drop | apply one_append)); done) | fail)) | fail)) <;> (try (conv => whnf))
      refine AWp_loop (σ := Nat × Nat) (3 :: 5 :: 6 :: 11 :: 12 :: 13 :: 14 :: 15 :: 16 :: 17 :: 18 :: 19 :: 20 :: 21 :: 22 :: 23 :: 24 :: 25 :: 26 :: 27 :: 28 :: 29 :: 30 :: 31 :: 32 :: 33 :: []) (fun (i, v) => [(5, .int .i64 i), (3, .sl q v 1 0 (D ++ zBlk S b i).length none)]) (fun (i, v) => AH.set H q (.row (iS .i64 (D ++ zBlk S b i)) v)) (fun (i, v) => i ≤ S) (fun (i, v) => S - i) (0, v) rfl ?_ ?_ ?_ ?_
      · exact Nat.zero_le _
      · exact ⟨rfl, by show AV.sl q v 1 0 D.length none = AV.sl q v 1 0 (D ++ []).length none; rw [List.append_nil], trivial⟩
      · refine HLe.of_eq ?_
        show AH.set H q (.row (iS .i64 (D ++ [])) v) = _
        rw [List.append_nil]
      · rintro ⟨i, v⟩ hi
        dsimp only at hi ⊢
        refine AWp.of tt_ok (dok _) rfl ?_
        have l2 := zBlk_len S b i
        have l2' : i * S ≤ 256 := Nat.le_trans (Nat.mul_le_mul_right _ hi) hSS
        by_cases hiS : i < S
        · have hsi := zBlk_succ S b i
          have hEl : (D ++ zBlk S b i).length ≤ 4000 := by rw [List.length_append]; omega
          obtain ⟨E, hE⟩ : ∃ E, E = D ++ zBlk S b i := ⟨_, rfl⟩
          have hEn : D ++ zBlk S b (i + 1) = E ++ zRow S b i S := by rw [hsi, hE, List.append_assoc]
          rw [← hE] at hEl ⊢
          have m0 : 0 ≤ (i : Int) * S := Int.mul_nonneg (by omega) (by omega)
          have m1 : (i : Int) * S = ((i * S : Nat) : Int) := (Int.natCast_mul _ _).symm
          (repeat' ((conv => whnf); first | refine Then.mk ?_ | left | refine OpsA.cons ?_ | refine OpsA.nil ?_ | refine AWq.seq ?_ | refine AWq.region ?_ | refine AWq.cond ?_ | refine AWq.block ?_ | refine AWq.skip ?_ | refine AWq.ret ?_ | refine AWq.exit ?_ | refine AWq.loop ?_ | refine AWq.rangeFunc ?_ | refine DrawA.consD ?_ | refine DrawA.nil ?_ | refine AWq.draw (by decide +kernel) ?_ | (refine Both.mk ?_ ?_ <;> intro hc <;> (first | exact Bool.noConfusion hc | exact absurd (by with_reducible rfl) hc | exact (hc : False).elim | exact absurd (by assumption) hc | exact absurd hc (by assumption) | (exfalso; omega) | exact absurd hc (by decide) | skip)) | (intro c hc; (try (simp only [AH.none_iff] at hc; repeat (have hn := hc.1; replace hc := hc.2))); (first | (refine i64_k hc ?_ ?_ ?_ ; omega; omega; (clear hc; intro hc; subst hc)) | (refine u64_k hc ?_ ?_ ?_ ; omega; omega; (clear hc; intro hc; subst hc)) | (refine u8_k hc ?_ ?_ ?_ ; omega; omega; (clear hc; intro hc; subst hc)) | subst hc | skip)) | (apply Exists.intro; apply And.intro; (focus (repeat (first | assumption | exact AH.set_same _ _ _ | ((first | refine AH.get_ne ?_ ?_ | refine AH.getd_ne ?_ ?_); (first | assumption | omega | exact Ne.symm (by assumption) | exact AH.ne_none (by assumption) (by assumption) | exact AH.none_ne (by assumption) (by assumption) | exact (AH.none_set (by assumption)).1 | exact Ne.symm (AH.none_set (by assumption)).1)))); done)) | (apply Exists.intro; apply And.intro; (try simp only [List.getElem?_drop, Nat.mul_one, Nat.add_zero, Nat.zero_add]); first | (refine u8s_get ?_; omega) | (refine iS_get ?_; omega) | assumption | rfl | fail) | (apply And.intro; (first | rfl | assumption | exact Nat.le_of_ble_eq_true rfl | omega | (simp <;> fail) | (simp <;> omega) | (focus (repeat' (first | exact one_u8s _ | exact one_iS _ _ | rfl | apply one_take | apply one_drop | apply one_append)); done) | fail)) | fail)) <;> (try (conv => whnf))
          refine AWp_loop (σ := Nat × Nat) (3 :: 6 :: 16 :: 17 :: 18 :: 19 :: 20 :: 21 :: 22 :: 23 :: 24 :: 25 :: 26 :: 27 :: 28 :: 29 :: 30 :: 31 :: 32 :: 33 :: []) (fun (k, v) => [(6, .int .i64 k), (3, .sl q v 1 0 (E ++ zRow S b i k).length none)]) (fun (k, v) => AH.set H q (.row (iS .i64 (E ++ zRow S b i k)) v)) (fun (k, v) => k ≤ S) (fun (k, v) => S - k) (0, v) rfl ?_ ?_ ?_ ?_
          · exact Nat.zero_le _
          · exact ⟨rfl, by show AV.sl q v 1 0 E.length none = AV.sl q v 1 0 (E ++ []).length none; rw [List.append_nil], trivial⟩
          · refine HLe.of_eq ?_
            show AH.set H q (.row (iS .i64 (E ++ [])) v) = _
            rw [List.append_nil]
          · rintro ⟨k, v⟩ hk
            dsimp only at hk ⊢
            refine AWp.of tt_ok (dok _) rfl ?_
            have l3 := zRow_len S b i k
            by_cases hkS : k < S
            · have hsk := zRow_succ S b i k
              have hFl : (E ++ zRow S b i k).length ≤ 4100 := by rw [List.length_append]; omega
              obtain ⟨F, hF⟩ : ∃ F, F = E ++ zRow S b i k := ⟨_, rfl⟩
              rw [← hF] at hFl ⊢
              have bk := fun H => Block_c i k (by omega) (by omega) H
              by_cases hbb : blk i k = b
              · rw [hbb] at bk
                rw [if_pos hbb] at hsk
                have hFn : E ++ zRow S b i (k + 1) = F ++ [(i : Int) * S + k] := by rw [hsk, hF, List.append_assoc, m1]; rfl
                (repeat' ((conv => whnf); first | refine Then.mk ?_ | left | refine OpsA.cons ?_ | refine OpsA.nil ?_ | refine AWq.seq ?_ | refine AWq.region ?_ | refine AWq.cond ?_ | refine AWq.block ?_ | refine AWq.skip ?_ | refine AWq.ret ?_ | refine AWq.exit ?_ | refine AWq.loop ?_ | refine AWq.rangeFunc ?_ | refine DrawA.consD ?_ | refine DrawA.nil ?_ | refine AWq.draw (by decide +kernel) ?_ | (refine ACall.to (bk _) ?_) | (apply Exists.intro; apply And.intro; exact bk _) | (apply Exists.intro; apply Exists.intro; apply And.intro; exact bk _) | (refine Both.mk ?_ ?_ <;> intro hc <;> (first | exact Bool.noConfusion hc | exact absurd (by with_reducible rfl) hc | exact (hc : False).elim | exact absurd (by assumption) hc | exact absurd hc (by assumption) | (exfalso; omega) | exact absurd hc (by decide) | skip)) | (intro c hc; (try (simp only [AH.none_iff] at hc; repeat (have hn := hc.1; replace hc := hc.2))); (first | (refine i64_k hc ?_ ?_ ?_ ; omega; omega; (clear hc; intro hc; subst hc)) | (refine u64_k hc ?_ ?_ ?_ ; omega; omega; (clear hc; intro hc; subst hc)) | (refine u8_k hc ?_ ?_ ?_ ; omega; omega; (clear hc; intro hc; subst hc)) | subst hc | skip)) | (apply Exists.intro; apply And.intro; (focus (repeat (first | assumption | exact AH.set_same _ _ _ | ((first | refine AH.get_ne ?_ ?_ | refine AH.getd_ne ?_ ?_); (first | assumption | omega | exact Ne.symm (by assumption) | exact AH.ne_none (by assumption) (by assumption) | exact AH.none_ne (by assumption) (by assumption) | exact (AH.none_set (by assumption)).1 | exact Ne.symm (AH.none_set (by assumption)).1)))); done)) | (apply Exists.intro; apply And.intro; (try simp only [List.getElem?_drop, Nat.mul_one, Nat.add_zero, Nat.zero_add]); first | (refine u8s_get ?_; omega) | (refine iS_get ?_; omega) | assumption | rfl | fail) | (apply And.intro; (first | rfl | assumption | exact Nat.le_of_ble_eq_true rfl | omega | (simp <;> fail) | (simp <;> omega) | (focus (repeat' (first | exact one_u8s _ | exact one_iS _ _ | rfl | apply one_take | apply one_drop | apply one_append)); done) | fail)) | fail)) <;> (try (conv => whnf))
                refine ⟨(k + 1, v + 1), by show k + 1 ≤ S; omega, by show S - (k + 1) < S - k; omega, ⟨congrArg (AV.int .i64) (by omega), ?_, trivial⟩, HLe.of_eq ?_⟩
                · show AV.sl q (v + 1) 1 0 (F.length + 1) none = AV.sl q (v + 1) 1 0 (E ++ zRow S b i (k + 1)).length none
                  rw [hFn, List.length_append]; rfl
                · show AH.set H q (.row (iS .i64 (E ++ zRow S b i (k + 1))) (v + 1)) = _
                  rw [hFn, ← iS_snoc]
                  exact (AH.set_set _ _ _ _).symm
              · have hbi : ¬ ((blk i k : Nat) : Int) = b := by omega
                rw [if_neg hbb, List.append_nil] at hsk
                (repeat' ((conv => whnf); first | refine Then.mk ?_ | left | refine OpsA.cons ?_ | refine OpsA.nil ?_ | refine AWq.seq ?_ | refine AWq.region ?_ | refine AWq.cond ?_ | refine AWq.block ?_ | refine AWq.skip ?_ | refine AWq.ret ?_ | refine AWq.exit ?_ | refine AWq.loop ?_ | refine AWq.rangeFunc ?_ | refine DrawA.consD ?_ | refine DrawA.nil ?_ | refine AWq.draw (by decide +kernel) ?_ | (refine ACall.to (bk _) ?_) | (apply Exists.intro; apply And.intro; exact bk _) | (apply Exists.intro; apply Exists.intro; apply And.intro; exact bk _) | (refine Both.mk ?_ ?_ <;> intro hc <;> (first | exact Bool.noConfusion hc | exact absurd (by with_reducible rfl) hc | exact (hc : False).elim | exact absurd (by assumption) hc | exact absurd hc (by assumption) | (exfalso; omega) | exact absurd hc (by decide) | skip)) | (intro c hc; (try (simp only [AH.none_iff] at hc; repeat (have hn := hc.1; replace hc := hc.2))); (first | (refine i64_k hc ?_ ?_ ?_ ; omega; omega; (clear hc; intro hc; subst hc)) | (refine u64_k hc ?_ ?_ ?_ ; omega; omega; (clear hc; intro hc; subst hc)) | (refine u8_k hc ?_ ?_ ?_ ; omega; omega; (clear hc; intro hc; subst hc)) | subst hc | skip)) | (apply Exists.intro; apply And.intro; (focus (repeat (first | assumption | exact AH.set_same _ _ _ | ((first | refine AH.get_ne ?_ ?_ | refine AH.getd_ne ?_ ?_); (first | assumption | omega | exact Ne.symm (by assumption) | exact AH.ne_none (by assumption) (by assumption) | exact AH.none_ne (by assumption) (by assumption) | exact (AH.none_set (by assumption)).1 | exact Ne.symm (AH.none_set (by assumption)).1)))); done)) | (apply Exists.intro; apply And.intro; (try simp only [List.getElem?_drop, Nat.mul_one, Nat.add_zero, Nat.zero_add]); first | (refine u8s_get ?_; omega) | (refine iS_get ?_; omega) | assumption | rfl | fail) | (apply And.intro; (first | rfl | assumption | exact Nat.le_of_ble_eq_true rfl | omega | (simp <;> fail) | (simp <;> omega) | (focus (repeat' (first | exact one_u8s _ | exact one_iS _ _ | rfl | apply one_take | apply one_drop | apply one_append)); done) | fail)) | fail)) <;> (try (conv => whnf))
                refine ⟨(k + 1, v), by show k + 1 ≤ S; omega, by show S - (k + 1) < S - k; omega, ⟨congrArg (AV.int .i64) (by omega), ?_, trivial⟩, HLe.of_eq ?_⟩
                · show AV.sl q v 1 0 F.length none = AV.sl q v 1 0 (E ++ zRow S b i (k + 1)).length none
                  rw [hsk, hF]
                · show AH.set H q (.row (iS .i64 (E ++ zRow S b i (k + 1))) v) = _
                  rw [hsk, hF]
            · have hke : k = S := by omega
              (repeat' ((conv => whnf); first | refine Then.mk ?_ | left | refine OpsA.cons ?_ | refine OpsA.nil ?_ | refine AWq.seq ?_ | refine AWq.region ?_ | refine AWq.cond ?_ | refine AWq.block ?_ | refine AWq.skip ?_ | refine AWq.ret ?_ | refine AWq.exit ?_ | refine AWq.loop ?_ | refine AWq.rangeFunc ?_ | refine DrawA.consD ?_ | refine DrawA.nil ?_ | refine AWq.draw (by decide +kernel) ?_ | (refine Both.mk ?_ ?_ <;> intro hc <;> (first | exact Bool.noConfusion hc | exact absurd (by with_reducible rfl) hc | exact (hc : False).elim | exact absurd (by assumption) hc | exact absurd hc (by assumption) | (exfalso; omega) | exact absurd hc (by decide) | skip)) | (intro c hc; (try (simp only [AH.none_iff] at hc; repeat (have hn := hc.1; replace hc := hc.2))); (first | (refine i64_k hc ?_ ?_ ?_ ; omega; omega; (clear hc; intro hc; subst hc)) | (refine u64_k hc ?_ ?_ ?_ ; omega; omega; (clear hc; intro hc; subst hc)) | (refine u8_k hc ?_ ?_ ?_ ; omega; omega; (clear hc; intro hc; subst hc)) | subst hc | skip)) | (apply Exists.intro; apply And.intro; (focus (repeat (first | assumption | exact AH.set_same _ _ _ | ((first | refine AH.get_ne ?_ ?_ | refine AH.getd_ne ?_ ?_); (first | assumption | omega | exact Ne.symm (by assumption) | exact AH.ne_none (by assumption) (by assumption) | exact AH.none_ne (by assumption) (by assumption) | exact (AH.none_set (by assumption)).1 | exact Ne.symm (AH.none_set (by assumption)).1)))); done)) | (apply Exists.intro; apply And.intro; (try simp only [List.getElem?_drop, Nat.mul_one, Nat.add_zero, Nat.zero_add]); first | (refine u8s_get ?_; omega) | (refine iS_get ?_; omega) | assumption | rfl | fail) | (apply And.intro; (first | rfl | assumption | exact Nat.le_of_ble_eq_true rfl | omega | (simp <;> fail) | (simp <;> omega) | (focus (repeat' (first | exact one_u8s _ | exact one_iS _ _ | rfl | apply one_take | apply one_drop | apply one_append)); done) | fail)) | fail)) <;> (try (conv => whnf))
              refine ⟨(i + 1, v), by show i + 1 ≤ S; omega, by show S - (i + 1) < S - i; omega, ⟨congrArg (AV.int .i64) (by omega), ?_, trivial⟩, HLe.of_eq ?_⟩
              · show AV.sl q v 1 0 (E ++ zRow S b i k).length none = AV.sl q v 1 0 (D ++ zBlk S b (i + 1)).length none
                rw [hEn, hke]
              · show AH.set H q (.row (iS .i64 (D ++ zBlk S b (i + 1))) v) = _
                rw [hEn, hke]
        · have hie : i = S := by omega
          (repeat' ((conv => whnf); first | refine Then.mk ?_ | left | refine OpsA.cons ?_ | refine OpsA.nil ?_ | refine AWq.seq ?_ | refine AWq.region ?_ | refine AWq.cond ?_ | refine AWq.block ?_ | refine AWq.skip ?_ | refine AWq.ret ?_ | refine AWq.exit ?_ | refine AWq.loop ?_ | refine AWq.rangeFunc ?_ | refine DrawA.consD ?_ | refine DrawA.nil ?_ | refine AWq.draw (by decide +kernel) ?_ | (refine Both.mk ?_ ?_ <;> intro hc <;> (first | exact Bool.noConfusion hc | exact absurd (by with_reducible rfl) hc | exact (hc : False).elim | exact absurd (by assumption) hc | exact absurd hc (by assumption) | (exfalso; omega) | exact absurd hc (by decide) | skip)) | (intro c hc; (try (simp only [AH.none_iff] at hc; repeat (have hn := hc.1; replace hc := hc.2))); (first | (refine i64_k hc ?_ ?_ ?_ ; omega; omega; (clear hc; intro hc; subst hc)) | (refine u64_k hc ?_ ?_ ?_ ; omega; omega; (clear hc; intro hc; subst hc)) | (refine u8_k hc ?_ ?_ ?_ ; omega; omega; (clear hc; intro hc; subst hc)) | subst hc | skip)) | (apply Exists.intro; apply And.intro; (focus (repeat (first | assumption | exact AH.set_same _ _ _ | ((first | refine AH.get_ne ?_ ?_ | refine AH.getd_ne ?_ ?_); (first | assumption | omega | exact Ne.symm (by assumption) | exact AH.ne_none (by assumption) (by assumption) | exact AH.none_ne (by assumption) (by assumption) | exact (AH.none_set (by assumption)).1 | exact Ne.symm (AH.none_set (by assumption)).1)))); done)) | (apply Exists.intro; apply And.intro; (try simp only [List.getElem?_drop, Nat.mul_one, Nat.add_zero, Nat.zero_add]); first | (refine u8s_get ?_; omega) | (refine iS_get ?_; omega) | assumption | rfl | fail) | (apply And.intro; (first | rfl | assumption | exact Nat.le_of_ble_eq_true rfl | omega | (simp <;> fail) | (simp <;> omega) | (focus (repeat' (first | exact one_u8s _ | exact one_iS _ _ | rfl | apply one_take | apply one_drop | apply one_append)); done) | fail)) | fail)) <;> (try (conv => whnf))
          refine ⟨(b + 1, v), by show b + 1 ≤ 13; omega, by show 13 - (b + 1) < 13 - b; omega, ⟨congrArg (AV.int .i64) (by omega), ?_, trivial⟩, HLe.of_eq ?_⟩
          · show AV.sl q v 1 0 (D ++ zBlk S b i).length none = AV.sl q v 1 0 (zRef S (b + 1)).length none
            rw [hsb, hie]
          · show AH.set H q (.row (iS .i64 (zRef S (b + 1))) v) = _
            rw [hsb, hie]
    · have hbe : b = 13 := by omega
      subst hbe
      (repeat' ((conv => whnf); first | refine Then.mk ?_ | refine OpsA.cons ?_ | refine OpsA.nil ?_ | refine AWq.seq ?_ | refine AWq.region ?_ | refine AWq.cond ?_ | refine AWq.block ?_ | refine AWq.skip ?_ | refine AWq.ret ?_ | refine AWq.exit ?_ | refine AWq.loop ?_ | refine AWq.rangeFunc ?_ | refine DrawA.consD ?_ | refine DrawA.nil ?_ | refine AWq.draw (by decide +kernel) ?_ | (refine Both.mk ?_ ?_ <;> intro hc <;> (first | exact Bool.noConfusion hc | exact absurd (by with_reducible rfl) hc | exact (hc : False).elim | exact absurd (by assumption) hc | exact absurd hc (by assumption) | (exfalso; omega) | exact absurd hc (by decide) | skip)) | (intro c hc; (try (simp only [AH.none_iff] at hc; repeat (have hn := hc.1; replace hc := hc.2))); (first | (refine i64_k hc ?_ ?_ ?_ ; omega; omega; (clear hc; intro hc; subst hc)) | (refine u64_k hc ?_ ?_ ?_ ; omega; omega; (clear hc; intro hc; subst hc)) | (refine u8_k hc ?_ ?_ ?_ ; omega; omega; (clear hc; intro hc; subst hc)) | subst hc | skip)) | (apply Exists.intro; apply And.intro; (focus (repeat (first | assumption | exact AH.set_same _ _ _ | ((first | refine AH.get_ne ?_ ?_ | refine AH.getd_ne ?_ ?_); (first | assumption | omega | exact Ne.symm (by assumption) | exact AH.ne_none (by assumption) (by assumption) | exact AH.none_ne (by assumption) (by assumption) | exact (AH.none_set (by assumption)).1 | exact Ne.symm (AH.none_set (by assumption)).1)))); done)) | (apply Exists.intro; apply And.intro; (try simp only [List.getElem?_drop, Nat.mul_one, Nat.add_zero, Nat.zero_add]); first | (refine u8s_get ?_; omega) | (refine iS_get ?_; omega) | assumption | rfl | fail) | (apply And.intro; (first | rfl | assumption | exact Nat.le_of_ble_eq_true rfl | omega | (simp <;> fail) | (simp <;> omega) | (focus (repeat' (first | exact one_u8s _ | exact one_iS _ _ | rfl | apply one_take | apply one_drop | apply one_append)); done) | fail)) | fail)) <;> (try (conv => whnf))
      exact .inr ⟨q, hq, v, rfl, rfl⟩
end Go.Proofs.Ytajmabnnaidhkaa
