/- The walks of package wavelet: squares. -/
import Derived.Test.YtajmabnnaidhkaaWaveB
namespace Go.Proofs.Ytajmabnnaidhkaa
open Go.Fw Go
set_option linter.unusedVariables false
set_option linter.unusedSimpArgs false

def mL (s : Nat) (M : Mat) : List AV := iS .i64 (toL s M)
@[simp] theorem mL_len (s : Nat) (M : Mat) : (mL s M).length = s * s := by simp [mL, toL_len]
theorem mL_get {s : Nat} (M : Mat) {r c : Nat} (hr : r < s) (hc : c < s) : (mL s M)[r * s + c]? = some (.int .i64 (M r c)) := by
  unfold mL iS
  rw [List.getElem?_map, toL_get M hr hc]; rfl
theorem mL_put {s n i : Nat} (M : Mat) (x : Ln) (hi : i < s) (hn : n ≤ s) : wrA (mL s M) (i * s) (iL n x) = mL s (fun r c => if r = i ∧ c < n then x c else M r c) := by
  unfold wrA mL iL
  rw [← toL_put M x hi hn, iS_length, lnL_len, iS_take, iS_drop, iS_append, iS_append]
theorem mL_set {s : Nat} (M : Mat) {r c : Nat} (hr : r < s) (hc : c < s) (v : Int) : wrA (mL s M) (r * s + c) [.int .i64 v] = mL s (updM M r c v) := by
  unfold mL
  rw [iS_wr (by rw [toL_len]; exact (place hr hc).1), toL_set M hr hc]

/-- What is asked of a function that changes lines. -/
structure LnF (g : FuncId) (f : Nat → Ln → Ln) (n : Nat) (B : Int) : Prop where
  w : ∀ (X : Ln), (∀ c, c < n → -B ≤ X c ∧ X c ≤ B) → ∀ (cells : List AV) (q u off : Nat) (lim : Option Nat) (H : AH), H q = some (.row cells u) → (∀ i, i < n → cells[off + i]? = some (.int .i64 (X i))) →
    ACall Try.prog g [.sl q u 1 off n lim] H (fun y H' => y = .cs (iL n (f n X)) n ∧ H' = H)

set_option maxRecDepth 8000 in
theorem rows_c {g : FuncId} {f : Nat → Ln → Ln} {s n : Nat} {B : Int} (hs : s ≤ 16) (hn : n ≤ s) (hf : LnF g f n B) (M : Mat) (hM : ∀ r c, r < s → c < s → -B ≤ M r c ∧ M r c ≤ B) (q u : Nat) (H : AH) (hq : H q = some (.row (mL s M) u)) :
    ACall Try.prog 36 [.agg [.int .i64 s, .sl q u 1 0 (s * s) none], .int .i64 n, .fn (.func g) [] []] H (fun y H' => y = .tup [] ∧ H' = H.set q (.row (mL s (rowsM f n M)) u)) := by
  refine ACall.told ?_
  refine ACall_of tt_ok (dok _) Try.func36 rfl (by decide) rfl ?_
  (repeat' ((conv => whnf); first | refine Then.mk ?_ | left | refine OpsA.cons ?_ | refine OpsA.nil ?_ | refine AWq.seq ?_ | refine AWq.region ?_ | refine AWq.cond ?_ | refine AWq.block ?_ | refine AWq.skip ?_ | refine AWq.ret ?_ | refine AWq.exit ?_ | refine AWq.loop ?_ | refine AWq.rangeFunc ?_ | refine DrawA.consD ?_ | refine DrawA.nil ?_ | refine DrawL.consD ?_ | refine DrawL.nil ?_ | refine AWq.draw (by decide +kernel) ?_ | (refine Both.mk ?_ ?_ <;> intro hc <;> (first | exact Bool.noConfusion hc | exact absurd (by with_reducible rfl) hc | exact (hc : False).elim | exact absurd (by assumption) hc | exact absurd hc (by assumption) | (exfalso; omega) | exact absurd hc (by decide) | skip)) | (intro c hc; (try (simp only [AH.none_iff] at hc; repeat (have hn := hc.1; replace hc := hc.2))); (first | (refine i64_k hc ?_ ?_ ?_ ; omega; omega; (clear hc; intro hc; subst hc)) | (refine u64_k hc ?_ ?_ ?_ ; omega; omega; (clear hc; intro hc; subst hc)) | (refine u8_k hc ?_ ?_ ?_ ; omega; omega; (clear hc; intro hc; subst hc)) | subst hc | skip)) | (apply Exists.intro; apply And.intro; (focus (repeat (first | assumption | exact AH.set_same _ _ _ | ((first | refine AH.get_ne ?_ ?_ | refine AH.getd_ne ?_ ?_); (first | assumption | omega | exact Ne.symm (by assumption) | exact AH.ne_none (by assumption) (by assumption) | exact AH.none_ne (by assumption) (by assumption) | exact (AH.none_set (by assumption)).1 | exact Ne.symm (AH.none_set (by assumption)).1)))); done)) | (apply Exists.intro; apply And.intro; (try simp only [List.getElem?_drop, Nat.mul_one, Nat.add_zero, Nat.zero_add]); first | (refine u8s_get ?_; omega) | (refine iS_get ?_; omega) | assumption | rfl | fail) | (apply And.intro; (first | rfl | assumption | exact Nat.le_of_ble_eq_true rfl | omega | (simp <;> fail) | (simp <;> omega) | (focus (repeat' (first | exact one_u8s _ | exact one_iS _ _ | rfl | apply one_take | apply one_drop | apply one_append)); done) | fail)) | fail)) <;> (try (conv => whnf))
  have hc0 : H c = none := by assumption
  have hcq : q ≠ c := AH.ne_none hc0 hq
  obtain ⟨w, hw⟩ : ∃ w, w = c := ⟨_, rfl⟩
  rw [← hw] at hc0 hcq ⊢
  clear hw
  refine AWp_loop (σ := Nat) (6 :: 7 :: 9 :: 10 :: 11 :: 12 :: 13 :: 14 :: 15 :: 16 :: 17 :: 18 :: 19 :: 20 :: 21 :: 22 :: 23 :: 24 :: 25 :: 26 :: 27 :: 28 :: 29 :: 30 :: []) (fun i => [(9, .int .i64 i)]) (fun i => (AH.set H w (.row [.int .i64 s, .sl q u 1 0 (s * s) none] 0)).set q (.row (mL s (rowsI f n i M)) u)) (fun i => i ≤ n) (fun i => n - i) 0 rfl ?_ ?_ ?_ ?_
  · exact Nat.zero_le _
  · exact ⟨rfl, trivial⟩
  · refine HLe.of_eq (AH.set_id ?_)
    rw [AH.set_ne _ _ hcq, hq]
    refine congrArg (fun l => some (AO.row (iS .i64 l) u)) (toL_congr fun r c _ _ => ?_)
    unfold rowsI
    rw [if_neg (by omega)]
  · rintro i hi
    refine AWp.of tt_ok (dok _) rfl ?_
    by_cases h : i < n
    · have p1 : 0 ≤ (i : Int) * s := Int.mul_nonneg (by omega) (by omega)
      have p2 : (i : Int) * s + n ≤ ((s * s : Nat) : Int) := by
        have : (i + 1) * s ≤ s * s := Nat.mul_le_mul_right _ (by omega)
        rw [Nat.add_mul] at this
        rw [← Int.natCast_mul]; omega
      have p3 : s * s ≤ 256 := Nat.mul_le_mul hs hs
      have p4 : ((i : Int) * s).toNat = i * s := by rw [← Int.natCast_mul]; rfl
      have e1 : ((i : Int) * s + n).toNat - ((i : Int) * s).toNat = n := by omega
      have hl := mL_len s (rowsI f n i M)
      (repeat' ((conv => whnf); first | refine Then.mk ?_ | left | refine OpsA.cons ?_ | refine OpsA.nil ?_ | refine AWq.seq ?_ | refine AWq.region ?_ | refine AWq.cond ?_ | refine AWq.block ?_ | refine AWq.skip ?_ | refine AWq.ret ?_ | refine AWq.exit ?_ | refine AWq.loop ?_ | refine AWq.rangeFunc ?_ | refine DrawA.consD ?_ | refine DrawA.nil ?_ | refine DrawL.consD ?_ | refine DrawL.nil ?_ | refine AWq.draw (by decide +kernel) ?_ | (refine Both.mk ?_ ?_ <;> intro hc <;> (first | exact Bool.noConfusion hc | exact absurd (by with_reducible rfl) hc | exact (hc : False).elim | exact absurd (by assumption) hc | exact absurd hc (by assumption) | (exfalso; omega) | exact absurd hc (by decide) | skip)) | (intro c hc; (try (simp only [AH.none_iff] at hc; repeat (have hn := hc.1; replace hc := hc.2))); (first | (refine i64_k hc ?_ ?_ ?_ ; omega; omega; (clear hc; intro hc; subst hc)) | (refine u64_k hc ?_ ?_ ?_ ; omega; omega; (clear hc; intro hc; subst hc)) | (refine u8_k hc ?_ ?_ ?_ ; omega; omega; (clear hc; intro hc; subst hc)) | subst hc | skip)) | (apply Exists.intro; apply And.intro; (focus (repeat (first | assumption | exact AH.set_same _ _ _ | ((first | refine AH.get_ne ?_ ?_ | refine AH.getd_ne ?_ ?_); (first | assumption | omega | exact Ne.symm (by assumption) | exact AH.ne_none (by assumption) (by assumption) | exact AH.none_ne (by assumption) (by assumption) | exact (AH.none_set (by assumption)).1 | exact Ne.symm (AH.none_set (by assumption)).1)))); done)) | (apply Exists.intro; apply And.intro; (try simp only [List.getElem?_drop, Nat.mul_one, Nat.add_zero, Nat.zero_add]); first | (refine u8s_get ?_; omega) | (refine iS_get ?_; omega) | assumption | rfl | fail) | (apply And.intro; (first | rfl | assumption | exact Nat.le_of_ble_eq_true rfl | omega | (simp <;> fail) | (simp <;> omega) | (focus (repeat' (first | exact one_u8s _ | exact one_iS _ _ | rfl | apply one_take | apply one_drop | apply one_append)); done) | fail)) | fail)) <;> (try (conv => whnf))
      have e2 : 0 + ((i : Int) * s).toNat * 1 = i * s := by omega
      rw [e1, e2]
      refine ACall.to (hf.w (M i) (fun c hc => hM i c (by omega) (by omega)) (mL s (rowsI f n i M)) q u (i * s) none _ (AH.set_same _ _ _) (fun c hc => ?_)) ?_
      · rw [mL_get _ (by omega) (by omega)]
        unfold rowsI
        rw [if_neg (by omega)]
      (repeat' ((conv => whnf); first | refine Then.mk ?_ | left | refine OpsA.cons ?_ | refine OpsA.nil ?_ | refine AWq.seq ?_ | refine AWq.region ?_ | refine AWq.cond ?_ | refine AWq.block ?_ | refine AWq.skip ?_ | refine AWq.ret ?_ | refine AWq.exit ?_ | refine AWq.loop ?_ | refine AWq.rangeFunc ?_ | refine DrawA.consD ?_ | refine DrawA.nil ?_ | refine DrawL.consD ?_ | refine DrawL.nil ?_ | refine AWq.draw (by decide +kernel) ?_ | (refine Both.mk ?_ ?_ <;> intro hc <;> (first | exact Bool.noConfusion hc | exact absurd (by with_reducible rfl) hc | exact (hc : False).elim | exact absurd (by assumption) hc | exact absurd hc (by assumption) | (exfalso; omega) | exact absurd hc (by decide) | skip)) | (intro c hc; (try (simp only [AH.none_iff] at hc; repeat (have hn := hc.1; replace hc := hc.2))); (first | (refine i64_k hc ?_ ?_ ?_ ; omega; omega; (clear hc; intro hc; subst hc)) | (refine u64_k hc ?_ ?_ ?_ ; omega; omega; (clear hc; intro hc; subst hc)) | (refine u8_k hc ?_ ?_ ?_ ; omega; omega; (clear hc; intro hc; subst hc)) | subst hc | skip)) | (apply Exists.intro; apply And.intro; (focus (repeat (first | assumption | exact AH.set_same _ _ _ | ((first | refine AH.get_ne ?_ ?_ | refine AH.getd_ne ?_ ?_); (first | assumption | omega | exact Ne.symm (by assumption) | exact AH.ne_none (by assumption) (by assumption) | exact AH.none_ne (by assumption) (by assumption) | exact (AH.none_set (by assumption)).1 | exact Ne.symm (AH.none_set (by assumption)).1)))); done)) | (apply Exists.intro; apply And.intro; (try simp only [List.getElem?_drop, Nat.mul_one, Nat.add_zero, Nat.zero_add]); first | (refine u8s_get ?_; omega) | (refine iS_get ?_; omega) | assumption | rfl | fail) | (apply And.intro; (first | rfl | assumption | exact Nat.le_of_ble_eq_true rfl | omega | (simp <;> fail) | (simp <;> omega) | (focus (repeat' (first | exact one_u8s _ | exact one_iS _ _ | rfl | apply one_take | apply one_drop | apply one_append)); done) | fail)) | fail)) <;> (try (conv => whnf))
      refine ⟨i + 1, by omega, by omega, ⟨congrArg (AV.int .i64) (by omega), trivial⟩, HLe.of_eq (Eq.symm ((AH.set_set _ _ _ _).trans ?_))⟩
      refine congrArg (fun l => AH.set (AH.set H w _) q (.row l u)) ?_
      show wrA (mL s (rowsI f n i M)) (i * s) (List.take (Nat.min n n * 1) (iL n (f n (M i)))) = _
      rw [show Nat.min n n = n from Nat.min_self n, List.take_of_length_le (by simp), mL_put _ _ (by omega) hn]
      refine congrArg (iS .i64) (toL_congr fun r c hr hc => ?_)
      unfold rowsI
      by_cases c1 : r = i ∧ c < n
      · rw [if_pos c1, if_pos (by omega), c1.1]
      · rw [if_neg c1]
        by_cases c2 : r < i ∧ c < n
        · rw [if_pos c2, if_pos (by omega)]
        · rw [if_neg c2, if_neg (by omega)]
    · have he : i = n := by omega
      subst he
      (repeat' ((conv => whnf); first | refine Then.mk ?_ | refine OpsA.cons ?_ | refine OpsA.nil ?_ | refine AWq.seq ?_ | refine AWq.region ?_ | refine AWq.cond ?_ | refine AWq.block ?_ | refine AWq.skip ?_ | refine AWq.ret ?_ | refine AWq.exit ?_ | refine AWq.loop ?_ | refine AWq.rangeFunc ?_ | refine DrawA.consD ?_ | refine DrawA.nil ?_ | refine DrawL.consD ?_ | refine DrawL.nil ?_ | refine AWq.draw (by decide +kernel) ?_ | (refine Both.mk ?_ ?_ <;> intro hc <;> (first | exact Bool.noConfusion hc | exact absurd (by with_reducible rfl) hc | exact (hc : False).elim | exact absurd (by assumption) hc | exact absurd hc (by assumption) | (exfalso; omega) | exact absurd hc (by decide) | skip)) | (intro c hc; (try (simp only [AH.none_iff] at hc; repeat (have hn := hc.1; replace hc := hc.2))); (first | (refine i64_k hc ?_ ?_ ?_ ; omega; omega; (clear hc; intro hc; subst hc)) | (refine u64_k hc ?_ ?_ ?_ ; omega; omega; (clear hc; intro hc; subst hc)) | (refine u8_k hc ?_ ?_ ?_ ; omega; omega; (clear hc; intro hc; subst hc)) | subst hc | skip)) | (apply Exists.intro; apply And.intro; (focus (repeat (first | assumption | exact AH.set_same _ _ _ | ((first | refine AH.get_ne ?_ ?_ | refine AH.getd_ne ?_ ?_); (first | assumption | omega | exact Ne.symm (by assumption) | exact AH.ne_none (by assumption) (by assumption) | exact AH.none_ne (by assumption) (by assumption) | exact (AH.none_set (by assumption)).1 | exact Ne.symm (AH.none_set (by assumption)).1)))); done)) | (apply Exists.intro; apply And.intro; (try simp only [List.getElem?_drop, Nat.mul_one, Nat.add_zero, Nat.zero_add]); first | (refine u8s_get ?_; omega) | (refine iS_get ?_; omega) | assumption | rfl | fail) | (apply And.intro; (first | rfl | assumption | exact Nat.le_of_ble_eq_true rfl | omega | (simp <;> fail) | (simp <;> omega) | (focus (repeat' (first | exact one_u8s _ | exact one_iS _ _ | rfl | apply one_take | apply one_drop | apply one_append)); done) | fail)) | fail)) <;> (try (conv => whnf))
      exact ⟨_, _, AVle.refl _, HLe.set (HLe.fresh _ hc0) _ _, rfl, rfl⟩

set_option maxRecDepth 8000 in
theorem columns_c {g : FuncId} {f : Nat → Ln → Ln} {s n : Nat} {B : Int} (hs : s ≤ 16) (hn : n ≤ s) (hf : LnF g f n B) (M : Mat) (hM : ∀ r c, r < s → c < s → -B ≤ M r c ∧ M r c ≤ B) (q u : Nat) (H : AH) (hq : H q = some (.row (mL s M) u)) :
    ACall Try.prog 37 [.agg [.int .i64 s, .sl q u 1 0 (s * s) none], .int .i64 n, .fn (.func g) [] []] H (fun y H' => y = .tup [] ∧ H' = H.set q (.row (mL s (colsM f n M)) u)) := by
  refine ACall.told ?_
  have hss : s * s ≤ 256 := Nat.mul_le_mul hs hs
  refine ACall_of tt_ok (dok _) Try.func37 rfl (by decide) rfl ?_
  (repeat' ((conv => whnf); first | refine Then.mk ?_ | left | refine OpsA.cons ?_ | refine OpsA.nil ?_ | refine AWq.seq ?_ | refine AWq.region ?_ | refine AWq.cond ?_ | refine AWq.block ?_ | refine AWq.skip ?_ | refine AWq.ret ?_ | refine AWq.exit ?_ | refine AWq.loop ?_ | refine AWq.rangeFunc ?_ | refine DrawA.consD ?_ | refine DrawA.nil ?_ | refine DrawL.consD ?_ | refine DrawL.nil ?_ | refine AWq.draw (by decide +kernel) ?_ | (refine Both.mk ?_ ?_ <;> intro hc <;> (first | exact Bool.noConfusion hc | exact absurd (by with_reducible rfl) hc | exact (hc : False).elim | exact absurd (by assumption) hc | exact absurd hc (by assumption) | (exfalso; omega) | exact absurd hc (by decide) | skip)) | (intro c hc; (try (simp only [AH.none_iff] at hc; repeat (have hn := hc.1; replace hc := hc.2))); (first | (refine i64_k hc ?_ ?_ ?_ ; omega; omega; (clear hc; intro hc; subst hc)) | (refine u64_k hc ?_ ?_ ?_ ; omega; omega; (clear hc; intro hc; subst hc)) | (refine u8_k hc ?_ ?_ ?_ ; omega; omega; (clear hc; intro hc; subst hc)) | subst hc | skip)) | (apply Exists.intro; apply And.intro; (focus (repeat (first | assumption | exact AH.set_same _ _ _ | ((first | refine AH.get_ne ?_ ?_ | refine AH.getd_ne ?_ ?_); (first | assumption | omega | exact Ne.symm (by assumption) | exact AH.ne_none (by assumption) (by assumption) | exact AH.none_ne (by assumption) (by assumption) | exact (AH.none_set (by assumption)).1 | exact Ne.symm (AH.none_set (by assumption)).1)))); done)) | (apply Exists.intro; apply And.intro; (try simp only [List.getElem?_drop, Nat.mul_one, Nat.add_zero, Nat.zero_add]); first | (refine u8s_get ?_; omega) | (refine iS_get ?_; omega) | assumption | rfl | fail) | (apply And.intro; (first | rfl | assumption | exact Nat.le_of_ble_eq_true rfl | omega | (simp <;> fail) | (simp <;> omega) | (focus (repeat' (first | exact one_u8s _ | exact one_iS _ _ | rfl | apply one_take | apply one_drop | apply one_append)); done) | fail)) | fail)) <;> (try (conv => whnf))
  have hcc : H c = none := by assumption
  have hqc : q ≠ c := AH.ne_none hcc hq
  obtain ⟨t, ht⟩ : ∃ t, t = c := ⟨_, rfl⟩
  rw [← ht] at hcc hqc ⊢
  rename_i w0 hw0
  have hww : H w0 = none := by assumption
  have hqw : q ≠ w0 := AH.ne_none hww hq
  have htw : t ≠ w0 := by rw [ht]; assumption
  obtain ⟨w, hw⟩ : ∃ w, w = w0 := ⟨_, rfl⟩
  rw [← hw] at hww hqw htw ⊢
  clear ht hw
  refine AWp_loop (σ := Nat × Ln) (7 :: 8 :: 9 :: 10 :: 14 :: 15 :: 16 :: 17 :: 18 :: 19 :: 20 :: 21 :: 22 :: 23 :: 24 :: 25 :: 26 :: 27 :: 28 :: 29 :: 30 :: 31 :: 32 :: 33 :: 34 :: 35 :: 36 :: 37 :: 38 :: 39 :: 40 :: 41 :: 42 :: 43 :: 44 :: 45 :: 46 :: 47 :: 48 :: 49 :: 50 :: 51 :: 52 :: 53 :: 54 :: 55 :: []) (fun (k, Y) => [(14, .int .i64 k)]) (fun (k, Y) => ((AH.set H w (.row [.int .i64 s, .sl q u 1 0 (s * s) none] 0)).set t (.row (iL n Y) 0)).set q (.row (mL s (colsI f n k M)) u)) (fun (k, Y) => k ≤ n) (fun (k, Y) => n - k) (0, fun _ => 0) rfl ?_ ?_ ?_ ?_
  · exact Nat.zero_le _
  · exact ⟨rfl, trivial⟩
  · refine HLe.of_eq ?_
    have e : mL s (colsI f n 0 M) = mL s M := congrArg (iS .i64) (toL_congr fun r c _ _ => by unfold colsI; rw [if_neg (by omega)])
    show ((AH.set H w (.row [.int .i64 s, .sl q u 1 0 (s * s) none] 0)).set t (.row (iL n fun _ => 0) 0)).set q (.row (mL s (colsI f n 0 M)) u) = _
    rw [e, ← iL_zero]
    refine AH.set_id ?_
    rw [AH.set_ne _ _ hqc, AH.set_ne _ _ hqw, hq]
  · rintro ⟨k, Y⟩ hk
    dsimp only at hk ⊢
    refine AWp.of tt_ok (dok _) rfl ?_
    by_cases h : k < n
    · (repeat' ((conv => whnf); first | refine Then.mk ?_ | left | refine OpsA.cons ?_ | refine OpsA.nil ?_ | refine AWq.seq ?_ | refine AWq.region ?_ | refine AWq.cond ?_ | refine AWq.block ?_ | refine AWq.skip ?_ | refine AWq.ret ?_ | refine AWq.exit ?_ | refine AWq.loop ?_ | refine AWq.rangeFunc ?_ | refine DrawA.consD ?_ | refine DrawA.nil ?_ | refine DrawL.consD ?_ | refine DrawL.nil ?_ | refine AWq.draw (by decide +kernel) ?_ | (refine Both.mk ?_ ?_ <;> intro hc <;> (first | exact Bool.noConfusion hc | exact absurd (by with_reducible rfl) hc | exact (hc : False).elim | exact absurd (by assumption) hc | exact absurd hc (by assumption) | (exfalso; omega) | exact absurd hc (by decide) | skip)) | (intro c hc; (try (simp only [AH.none_iff] at hc; repeat (have hn := hc.1; replace hc := hc.2))); (first | (refine i64_k hc ?_ ?_ ?_ ; omega; omega; (clear hc; intro hc; subst hc)) | (refine u64_k hc ?_ ?_ ?_ ; omega; omega; (clear hc; intro hc; subst hc)) | (refine u8_k hc ?_ ?_ ?_ ; omega; omega; (clear hc; intro hc; subst hc)) | subst hc | skip)) | (apply Exists.intro; apply And.intro; (focus (repeat (first | assumption | exact AH.set_same _ _ _ | ((first | refine AH.get_ne ?_ ?_ | refine AH.getd_ne ?_ ?_); (first | assumption | omega | exact Ne.symm (by assumption) | exact AH.ne_none (by assumption) (by assumption) | exact AH.none_ne (by assumption) (by assumption) | exact (AH.none_set (by assumption)).1 | exact Ne.symm (AH.none_set (by assumption)).1)))); done)) | (apply Exists.intro; apply And.intro; (try simp only [List.getElem?_drop, Nat.mul_one, Nat.add_zero, Nat.zero_add]); first | (refine u8s_get ?_; omega) | (refine iS_get ?_; omega) | assumption | rfl | fail) | (apply And.intro; (first | rfl | assumption | exact Nat.le_of_ble_eq_true rfl | omega | (simp <;> fail) | (simp <;> omega) | (focus (repeat' (first | exact one_u8s _ | exact one_iS _ _ | rfl | apply one_take | apply one_drop | apply one_append)); done) | fail)) | fail)) <;> (try (conv => whnf))
      obtain ⟨G, hG⟩ : ∃ G, G = ((AH.set H w (.row [.int .i64 s, .sl q u 1 0 (s * s) none] 0)).set t (.row (iL n Y) 0)).set q (.row (mL s (colsI f n k M)) u) := ⟨_, rfl⟩
      have gw : G w = some (.row [.int .i64 s, .sl q u 1 0 (s * s) none] 0) := by rw [hG]; (focus (repeat (first | assumption | exact AH.set_same _ _ _ | ((first | refine AH.get_ne ?_ ?_ | refine AH.getd_ne ?_ ?_); (first | assumption | omega | exact Ne.symm (by assumption) | exact AH.ne_none (by assumption) (by assumption) | exact AH.none_ne (by assumption) (by assumption) | exact (AH.none_set (by assumption)).1 | exact Ne.symm (AH.none_set (by assumption)).1)))); done)
      have gt : G t = some (.row (iL n Y) 0) := by rw [hG]; (focus (repeat (first | assumption | exact AH.set_same _ _ _ | ((first | refine AH.get_ne ?_ ?_ | refine AH.getd_ne ?_ ?_); (first | assumption | omega | exact Ne.symm (by assumption) | exact AH.ne_none (by assumption) (by assumption) | exact AH.none_ne (by assumption) (by assumption) | exact (AH.none_set (by assumption)).1 | exact Ne.symm (AH.none_set (by assumption)).1)))); done)
      have gq : G q = some (.row (mL s (colsI f n k M)) u) := by rw [hG]; (focus (repeat (first | assumption | exact AH.set_same _ _ _ | ((first | refine AH.get_ne ?_ ?_ | refine AH.getd_ne ?_ ?_); (first | assumption | omega | exact Ne.symm (by assumption) | exact AH.ne_none (by assumption) (by assumption) | exact AH.none_ne (by assumption) (by assumption) | exact (AH.none_set (by assumption)).1 | exact Ne.symm (AH.none_set (by assumption)).1)))); done)
      rw [← hG]
      have tq : t ≠ q := Ne.symm hqc
      have wt : w ≠ t := Ne.symm htw
      refine AWp_loop (σ := Nat) (8 :: 18 :: 19 :: 20 :: 21 :: 22 :: 23 :: 24 :: 25 :: 26 :: 27 :: 28 :: 29 :: 30 :: 31 :: 32 :: 33 :: 34 :: []) (fun i => [(18, .int .i64 i)]) (fun i => G.set t (.row (iL n (fun j => if j < i then M j k else Y j)) 0)) (fun i => i ≤ n) (fun i => n - i) 0 rfl ?_ ?_ ?_ ?_
      · exact Nat.zero_le _
      · exact ⟨rfl, trivial⟩
      · refine HLe.of_eq (AH.set_id ?_)
        rw [gt]
        refine congrArg (fun l => some (AO.row l 0)) (iL_congr fun j hj => ?_)
        rw [if_neg (by omega)]
      · rintro i hi
        refine AWp.of tt_ok (dok _) rfl ?_
        by_cases h2 : i < n
        · have p1 : 0 ≤ (i : Int) * s := Int.mul_nonneg (by omega) (by omega)
          have p2 : (i : Int) * s + k < ((s * s : Nat) : Int) := by
            have := (place (s := s) (r := i) (c := k) (by omega) (by omega)).1
            rw [← Int.natCast_mul]; omega
          have e3 : ((i : Int) * s + k).toNat = i * s + k := by rw [← Int.natCast_mul]; omega
          have g1 : (mL s (colsI f n k M))[((i : Int) * s + k).toNat]? = some (.int .i64 (M i k)) := by
            rw [e3, mL_get _ (by omega) (by omega)]
            unfold colsI
            rw [if_neg (by omega)]
          obtain ⟨cells, hce⟩ : ∃ cells, cells = mL s (colsI f n k M) := ⟨_, rfl⟩
          rw [← hce] at gq g1
          have hl := mL_len s (colsI f n k M)
          rw [← hce] at hl
          (repeat' ((conv => whnf); first | refine Then.mk ?_ | left | refine OpsA.cons ?_ | refine OpsA.nil ?_ | refine AWq.seq ?_ | refine AWq.region ?_ | refine AWq.cond ?_ | refine AWq.block ?_ | refine AWq.skip ?_ | refine AWq.ret ?_ | refine AWq.exit ?_ | refine AWq.loop ?_ | refine AWq.rangeFunc ?_ | refine DrawA.consD ?_ | refine DrawA.nil ?_ | refine DrawL.consD ?_ | refine DrawL.nil ?_ | refine AWq.draw (by decide +kernel) ?_ | (refine Both.mk ?_ ?_ <;> intro hc <;> (first | exact Bool.noConfusion hc | exact absurd (by with_reducible rfl) hc | exact (hc : False).elim | exact absurd (by assumption) hc | exact absurd hc (by assumption) | (exfalso; omega) | exact absurd hc (by decide) | skip)) | (intro c hc; (try (simp only [AH.none_iff] at hc; repeat (have hn := hc.1; replace hc := hc.2))); (first | (refine i64_k hc ?_ ?_ ?_ ; omega; omega; (clear hc; intro hc; subst hc)) | (refine u64_k hc ?_ ?_ ?_ ; omega; omega; (clear hc; intro hc; subst hc)) | (refine u8_k hc ?_ ?_ ?_ ; omega; omega; (clear hc; intro hc; subst hc)) | subst hc | skip)) | (apply Exists.intro; apply And.intro; (focus (repeat (first | assumption | exact AH.set_same _ _ _ | ((first | refine AH.get_ne ?_ ?_ | refine AH.getd_ne ?_ ?_); (first | assumption | omega | exact Ne.symm (by assumption) | exact AH.ne_none (by assumption) (by assumption) | exact AH.none_ne (by assumption) (by assumption) | exact (AH.none_set (by assumption)).1 | exact Ne.symm (AH.none_set (by assumption)).1)))); done)) | (apply Exists.intro; apply And.intro; (try simp only [List.getElem?_drop, Nat.mul_one, Nat.add_zero, Nat.zero_add]); first | (refine u8s_get ?_; omega) | (refine iS_get ?_; omega) | assumption | rfl | fail) | (apply And.intro; (first | rfl | assumption | exact Nat.le_of_ble_eq_true rfl | omega | (simp <;> fail) | (simp <;> omega) | (focus (repeat' (first | exact one_u8s _ | exact one_iS _ _ | rfl | apply one_take | apply one_drop | apply one_append)); done) | fail)) | fail)) <;> (try (conv => whnf))
          refine ⟨i + 1, by omega, by omega, ⟨congrArg (AV.int .i64) (by omega), trivial⟩, HLe.of_eq (Eq.symm ((AH.set_set _ _ _ _).trans ?_))⟩
          refine congrArg (fun l => AH.set G t (.row l 0)) ?_
          show wrA (iL n _) (0 + (i : Int).toNat * 1) [AV.int .i64 (M i k)] = _
          rw [show 0 + (i : Int).toNat * 1 = i by omega, iL_wr _ h2]
          refine iL_congr fun j hj => ?_
          by_cases c1 : j = i
          · subst c1; rw [if_pos rfl, if_pos (by omega)]
          · rw [if_neg c1]
            by_cases c2 : j < i
            · rw [if_pos c2, if_pos (by omega)]
            · rw [if_neg c2, if_neg (by omega)]
        · have he : i = n := by omega
          have hY : iL n (fun j => if j < i then M j k else Y j) = iL n (fun j => M j k) := iL_congr fun j hj => if_pos (by omega)
          rw [hY]
          have hcall := hf.w (fun j => M j k) (fun c hc => hM c k (by omega) (by omega)) (iL n (fun j => M j k)) t 0 0 none (G.set t (.row (iL n (fun j => M j k)) 0)) (AH.set_same _ _ _) (fun c hc => by rw [Nat.zero_add]; exact iL_get _ hc)
          obtain ⟨F, hF⟩ : ∃ F, F = f n (fun j => M j k) := ⟨_, rfl⟩
          rw [← hF] at hcall
          obtain ⟨cs, hcs⟩ : ∃ cs, cs = iL n F := ⟨_, rfl⟩
          have hcl : cs.length = n := by rw [hcs]; exact iL_len n F
          have hcg : ∀ j, j < n → cs[j]? = some (.int .i64 (F j)) := fun j hj => by rw [hcs]; exact iL_get F hj
          rw [← hcs] at hcall
          (repeat' ((conv => whnf); first | refine Then.mk ?_ | left | refine OpsA.cons ?_ | refine OpsA.nil ?_ | refine AWq.seq ?_ | refine AWq.region ?_ | refine AWq.cond ?_ | refine AWq.block ?_ | refine AWq.skip ?_ | refine AWq.ret ?_ | refine AWq.exit ?_ | refine AWq.loop ?_ | refine AWq.rangeFunc ?_ | refine DrawA.consD ?_ | refine DrawA.nil ?_ | refine DrawL.consD ?_ | refine DrawL.nil ?_ | refine AWq.draw (by decide +kernel) ?_ | (refine ACall.to (hcall) ?_) | (apply Exists.intro; apply And.intro; exact hcall) | (apply Exists.intro; apply Exists.intro; apply And.intro; exact hcall) | (refine Both.mk ?_ ?_ <;> intro hc <;> (first | exact Bool.noConfusion hc | exact absurd (by with_reducible rfl) hc | exact (hc : False).elim | exact absurd (by assumption) hc | exact absurd hc (by assumption) | (exfalso; omega) | exact absurd hc (by decide) | skip)) | (intro c hc; (try (simp only [AH.none_iff] at hc; repeat (have hn := hc.1; replace hc := hc.2))); (first | (refine i64_k hc ?_ ?_ ?_ ; omega; omega; (clear hc; intro hc; subst hc)) | (refine u64_k hc ?_ ?_ ?_ ; omega; omega; (clear hc; intro hc; subst hc)) | (refine u8_k hc ?_ ?_ ?_ ; omega; omega; (clear hc; intro hc; subst hc)) | subst hc | skip)) | (apply Exists.intro; apply And.intro; (focus (repeat (first | assumption | exact AH.set_same _ _ _ | ((first | refine AH.get_ne ?_ ?_ | refine AH.getd_ne ?_ ?_); (first | assumption | omega | exact Ne.symm (by assumption) | exact AH.ne_none (by assumption) (by assumption) | exact AH.none_ne (by assumption) (by assumption) | exact (AH.none_set (by assumption)).1 | exact Ne.symm (AH.none_set (by assumption)).1)))); done)) | (apply Exists.intro; apply And.intro; (try simp only [List.getElem?_drop, Nat.mul_one, Nat.add_zero, Nat.zero_add]); first | (refine u8s_get ?_; omega) | (refine iS_get ?_; omega) | assumption | rfl | fail) | (apply And.intro; (first | rfl | assumption | exact Nat.le_of_ble_eq_true rfl | omega | (simp <;> fail) | (simp <;> omega) | (focus (repeat' (first | exact one_u8s _ | exact one_iS _ _ | rfl | apply one_take | apply one_drop | apply one_append)); done) | fail)) | fail)) <;> (try (conv => whnf))
          obtain ⟨D, hD⟩ : ∃ D, D = G.set t (.row (iL n (fun j => M j k)) 0) := ⟨_, rfl⟩
          have dw : D w = some (.row [.int .i64 s, .sl q u 1 0 (s * s) none] 0) := by rw [hD]; (focus (repeat (first | assumption | exact AH.set_same _ _ _ | ((first | refine AH.get_ne ?_ ?_ | refine AH.getd_ne ?_ ?_); (first | assumption | omega | exact Ne.symm (by assumption) | exact AH.ne_none (by assumption) (by assumption) | exact AH.none_ne (by assumption) (by assumption) | exact (AH.none_set (by assumption)).1 | exact Ne.symm (AH.none_set (by assumption)).1)))); done)
          have dq : D q = some (.row (mL s (colsI f n k M)) u) := by rw [hD]; (focus (repeat (first | assumption | exact AH.set_same _ _ _ | ((first | refine AH.get_ne ?_ ?_ | refine AH.getd_ne ?_ ?_); (first | assumption | omega | exact Ne.symm (by assumption) | exact AH.ne_none (by assumption) (by assumption) | exact AH.none_ne (by assumption) (by assumption) | exact (AH.none_set (by assumption)).1 | exact Ne.symm (AH.none_set (by assumption)).1)))); done)
          rw [← hD]
          refine AWp_loop (σ := Nat) (9 :: 10 :: 39 :: 40 :: 41 :: 42 :: 43 :: 44 :: 45 :: 46 :: 47 :: 48 :: 49 :: 50 :: 51 :: 52 :: 53 :: 54 :: []) (fun i => [(39, .int .i64 i)]) (fun i => D.set q (.row (mL s (fun r c => if c = k ∧ r < i then F r else colsI f n k M r c)) u)) (fun i => i ≤ n) (fun i => n - i) 0 rfl ?_ ?_ ?_ ?_
          · exact Nat.zero_le _
          · exact ⟨rfl, trivial⟩
          · refine HLe.of_eq (AH.set_id ?_)
            rw [dq]
            refine congrArg (fun l => some (AO.row (iS .i64 l) u)) (toL_congr fun r c _ _ => ?_)
            rw [if_neg (by omega)]
          · rintro i hi
            refine AWp.of tt_ok (dok _) rfl ?_
            by_cases h2 : i < n
            · have p1 : 0 ≤ (i : Int) * s := Int.mul_nonneg (by omega) (by omega)
              have p2 : (i : Int) * s + k < ((s * s : Nat) : Int) := by
                have := (place (s := s) (r := i) (c := k) (by omega) (by omega)).1
                rw [← Int.natCast_mul]; omega
              have e3 : ((i : Int) * s + k).toNat = i * s + k := by rw [← Int.natCast_mul]; omega
              have g1 := hcg i h2
              have g2 : cs[(i : Int).toNat]? = some (.int .i64 (F i)) := g1
              have hl := mL_len s (fun r c => if c = k ∧ r < i then F r else colsI f n k M r c)
              (repeat' ((conv => whnf); first | refine Then.mk ?_ | left | refine OpsA.cons ?_ | refine OpsA.nil ?_ | refine AWq.seq ?_ | refine AWq.region ?_ | refine AWq.cond ?_ | refine AWq.block ?_ | refine AWq.skip ?_ | refine AWq.ret ?_ | refine AWq.exit ?_ | refine AWq.loop ?_ | refine AWq.rangeFunc ?_ | refine DrawA.consD ?_ | refine DrawA.nil ?_ | refine DrawL.consD ?_ | refine DrawL.nil ?_ | refine AWq.draw (by decide +kernel) ?_ | (refine Both.mk ?_ ?_ <;> intro hc <;> (first | exact Bool.noConfusion hc | exact absurd (by with_reducible rfl) hc | exact (hc : False).elim | exact absurd (by assumption) hc | exact absurd hc (by assumption) | (exfalso; omega) | exact absurd hc (by decide) | skip)) | (intro c hc; (try (simp only [AH.none_iff] at hc; repeat (have hn := hc.1; replace hc := hc.2))); (first | (refine i64_k hc ?_ ?_ ?_ ; omega; omega; (clear hc; intro hc; subst hc)) | (refine u64_k hc ?_ ?_ ?_ ; omega; omega; (clear hc; intro hc; subst hc)) | (refine u8_k hc ?_ ?_ ?_ ; omega; omega; (clear hc; intro hc; subst hc)) | subst hc | skip)) | (apply Exists.intro; apply And.intro; (focus (repeat (first | assumption | exact AH.set_same _ _ _ | ((first | refine AH.get_ne ?_ ?_ | refine AH.getd_ne ?_ ?_); (first | assumption | omega | exact Ne.symm (by assumption) | exact AH.ne_none (by assumption) (by assumption) | exact AH.none_ne (by assumption) (by assumption) | exact (AH.none_set (by assumption)).1 | exact Ne.symm (AH.none_set (by assumption)).1)))); done)) | (apply Exists.intro; apply And.intro; (try simp only [List.getElem?_drop, Nat.mul_one, Nat.add_zero, Nat.zero_add]); first | (refine u8s_get ?_; omega) | (refine iS_get ?_; omega) | assumption | rfl | fail) | (apply And.intro; (first | rfl | assumption | exact Nat.le_of_ble_eq_true rfl | omega | (simp <;> fail) | (simp <;> omega) | (focus (repeat' (first | exact one_u8s _ | exact one_iS _ _ | rfl | apply one_take | apply one_drop | apply one_append)); done) | fail)) | fail)) <;> (try (conv => whnf))
              refine ⟨i + 1, by omega, by omega, ⟨congrArg (AV.int .i64) (by omega), trivial⟩, HLe.of_eq (Eq.symm ((AH.set_set _ _ _ _).trans ?_))⟩
              refine congrArg (fun l => AH.set D q (.row l u)) ?_
              show wrA (mL s _) (0 + ((i : Int) * s + k).toNat * 1) [AV.int .i64 (F i)] = _
              rw [show 0 + ((i : Int) * s + k).toNat * 1 = i * s + k by omega, mL_set _ (by omega) (by omega)]
              refine congrArg (iS .i64) (toL_congr fun r c hr hc => ?_)
              unfold updM
              by_cases c1 : r = i ∧ c = k
              · rw [if_pos c1, if_pos (by omega), c1.1]
              · rw [if_neg c1]
                dsimp only
                by_cases c2 : c = k ∧ r < i
                · rw [if_pos c2, if_pos (by omega)]
                · rw [if_neg c2, if_neg (by omega)]
            · have he2 : i = n := by omega
              (repeat' ((conv => whnf); first | refine Then.mk ?_ | left | refine OpsA.cons ?_ | refine OpsA.nil ?_ | refine AWq.seq ?_ | refine AWq.region ?_ | refine AWq.cond ?_ | refine AWq.block ?_ | refine AWq.skip ?_ | refine AWq.ret ?_ | refine AWq.exit ?_ | refine AWq.loop ?_ | refine AWq.rangeFunc ?_ | refine DrawA.consD ?_ | refine DrawA.nil ?_ | refine DrawL.consD ?_ | refine DrawL.nil ?_ | refine AWq.draw (by decide +kernel) ?_ | (refine Both.mk ?_ ?_ <;> intro hc <;> (first | exact Bool.noConfusion hc | exact absurd (by with_reducible rfl) hc | exact (hc : False).elim | exact absurd (by assumption) hc | exact absurd hc (by assumption) | (exfalso; omega) | exact absurd hc (by decide) | skip)) | (intro c hc; (try (simp only [AH.none_iff] at hc; repeat (have hn := hc.1; replace hc := hc.2))); (first | (refine i64_k hc ?_ ?_ ?_ ; omega; omega; (clear hc; intro hc; subst hc)) | (refine u64_k hc ?_ ?_ ?_ ; omega; omega; (clear hc; intro hc; subst hc)) | (refine u8_k hc ?_ ?_ ?_ ; omega; omega; (clear hc; intro hc; subst hc)) | subst hc | skip)) | (apply Exists.intro; apply And.intro; (focus (repeat (first | assumption | exact AH.set_same _ _ _ | ((first | refine AH.get_ne ?_ ?_ | refine AH.getd_ne ?_ ?_); (first | assumption | omega | exact Ne.symm (by assumption) | exact AH.ne_none (by assumption) (by assumption) | exact AH.none_ne (by assumption) (by assumption) | exact (AH.none_set (by assumption)).1 | exact Ne.symm (AH.none_set (by assumption)).1)))); done)) | (apply Exists.intro; apply And.intro; (try simp only [List.getElem?_drop, Nat.mul_one, Nat.add_zero, Nat.zero_add]); first | (refine u8s_get ?_; omega) | (refine iS_get ?_; omega) | assumption | rfl | fail) | (apply And.intro; (first | rfl | assumption | exact Nat.le_of_ble_eq_true rfl | omega | (simp <;> fail) | (simp <;> omega) | (focus (repeat' (first | exact one_u8s _ | exact one_iS _ _ | rfl | apply one_take | apply one_drop | apply one_append)); done) | fail)) | fail)) <;> (try (conv => whnf))
              refine ⟨(k + 1, fun j => M j k), by show k + 1 ≤ n; omega, by show n - (k + 1) < n - k; omega, ⟨congrArg (AV.int .i64) (by omega), trivial⟩, HLe.of_eq ?_⟩
              have e : mL s (fun r c => if c = k ∧ r < i then F r else colsI f n k M r c) = mL s (colsI f n (k + 1) M) := congrArg (iS .i64) (toL_congr fun r c hr hc => by
                rw [hF]
                unfold colsI
                by_cases c1 : c = k ∧ r < i
                · rw [if_pos c1, if_pos (by omega), c1.1]
                · rw [if_neg c1]
                  by_cases c2 : r < n ∧ c < k
                  · rw [if_pos c2, if_pos (by omega)]
                  · rw [if_neg c2, if_neg (by omega)])
              rw [e, hD, hG]
              ((funext s; simp only [AH.set, AH.del]; repeat' split) <;> (first | rfl | (exfalso; omega)))
    · have he : k = n := by omega
      subst he
      (repeat' ((conv => whnf); first | refine Then.mk ?_ | refine OpsA.cons ?_ | refine OpsA.nil ?_ | refine AWq.seq ?_ | refine AWq.region ?_ | refine AWq.cond ?_ | refine AWq.block ?_ | refine AWq.skip ?_ | refine AWq.ret ?_ | refine AWq.exit ?_ | refine AWq.loop ?_ | refine AWq.rangeFunc ?_ | refine DrawA.consD ?_ | refine DrawA.nil ?_ | refine DrawL.consD ?_ | refine DrawL.nil ?_ | refine AWq.draw (by decide +kernel) ?_ | (refine Both.mk ?_ ?_ <;> intro hc <;> (first | exact Bool.noConfusion hc | exact absurd (by with_reducible rfl) hc | exact (hc : False).elim | exact absurd (by assumption) hc | exact absurd hc (by assumption) | (exfalso; omega) | exact absurd hc (by decide) | skip)) | (intro c hc; (try (simp only [AH.none_iff] at hc; repeat (have hn := hc.1; replace hc := hc.2))); (first | (refine i64_k hc ?_ ?_ ?_ ; omega; omega; (clear hc; intro hc; subst hc)) | (refine u64_k hc ?_ ?_ ?_ ; omega; omega; (clear hc; intro hc; subst hc)) | (refine u8_k hc ?_ ?_ ?_ ; omega; omega; (clear hc; intro hc; subst hc)) | subst hc | skip)) | (apply Exists.intro; apply And.intro; (focus (repeat (first | assumption | exact AH.set_same _ _ _ | ((first | refine AH.get_ne ?_ ?_ | refine AH.getd_ne ?_ ?_); (first | assumption | omega | exact Ne.symm (by assumption) | exact AH.ne_none (by assumption) (by assumption) | exact AH.none_ne (by assumption) (by assumption) | exact (AH.none_set (by assumption)).1 | exact Ne.symm (AH.none_set (by assumption)).1)))); done)) | (apply Exists.intro; apply And.intro; (try simp only [List.getElem?_drop, Nat.mul_one, Nat.add_zero, Nat.zero_add]); first | (refine u8s_get ?_; omega) | (refine iS_get ?_; omega) | assumption | rfl | fail) | (apply And.intro; (first | rfl | assumption | exact Nat.le_of_ble_eq_true rfl | omega | (simp <;> fail) | (simp <;> omega) | (focus (repeat' (first | exact one_u8s _ | exact one_iS _ _ | rfl | apply one_take | apply one_drop | apply one_append)); done) | fail)) | fail)) <;> (try (conv => whnf))
      exact ⟨_, _, AVle.refl _, HLe.set (HLe.set_of _ _ (HLe.fresh _ hww) hcc) _ _, rfl, rfl⟩
end Go.Proofs.Ytajmabnnaidhkaa
