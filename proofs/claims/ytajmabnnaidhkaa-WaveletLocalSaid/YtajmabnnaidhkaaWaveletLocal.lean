/- The law WaveletLocal: the contract of the law's function. -/
import Derived.Test.YtajmabnnaidhkaaWaveR
namespace Go.Proofs.Ytajmabnnaidhkaa
open Go.Fw Go
set_option linter.unusedVariables false
set_option linter.unusedSimpArgs false

theorem wrA_same {l : List AV} {k : Nat} (v : AV) (h : k < l.length) : (wrA l k [v])[k]? = some v := by
  unfold wrA
  rw [List.append_assoc, List.getElem?_append_right (by rw [List.length_take]; omega), List.length_take, Nat.min_eq_left (by omega), Nat.sub_self]
  rfl

set_option maxHeartbeats 4000000 in
set_option maxRecDepth 8000 in
theorem WaveletLocal_c (x0 : Int) (hx0 : -9223372036854775808 ≤ x0 ∧ x0 ≤ 9223372036854775807) (l1 : List Int) (hl1 : l1.length ≤ maxLen) (hr1 : ∀ n ∈ l1, -9223372036854775808 ≤ n ∧ n ≤ 9223372036854775807) (x2 : Int) (hx2 : -9223372036854775808 ≤ x2 ∧ x2 ≤ 9223372036854775807) (x3 : Int) (hx3 : -9223372036854775808 ≤ x3 ∧ x3 ≤ 9223372036854775807) :
    ACall Try.prog 3 [.int .i64 x0, .cs (iS .i64 l1) l1.length, .int .i64 x2, .int .i64 x3] (fun _ => none) (fun y _ => y = .bool true) := by
  obtain ⟨k, hk, sk⟩ := sides_k x0 hx0.1 hx0.2
  have hS := (pow_side hk).2
  have q1 := fun H => square_c (2 ^ k) (by omega) l1 hl1 70000 (by omega) H
  obtain ⟨A, hA⟩ : ∃ A, A = lnL (2 ^ k * 2 ^ k) (sqV l1 70000) := ⟨_, rfl⟩
  have lA : A.length = 2 ^ k * 2 ^ k := by rw [hA]; exact lnL_len _ _
  have iA : inB 70000 A = true := by rw [hA]; exact inB_lnL fun c _ => sqV_bd l1 _ (by omega) c
  have iA2 : inB 1099511627776 A = true := by rw [inB_iff] at iA ⊢; intro x hx; have := iA x hx; omega
  unfold iL at q1
  rw [← hA, ← lA] at q1
  have f1 := fun H => Forward_ok k hk A lA iA2 H
  have hss : 2 ^ k * 2 ^ k ≤ 256 := Nat.mul_le_mul hS.1 hS.1
  have h11 : 1 ≤ 2 ^ k * 2 ^ k := Nat.mul_le_mul hS.2 hS.2
  have cast : ((2 ^ k : Nat) : Int) * ((2 ^ k : Nat) : Int) = ((2 ^ k * 2 ^ k : Nat) : Int) := (Int.natCast_mul _ _).symm
  -- the place
  have pb := tmod_bd x2 ((2 ^ k * 2 ^ k : Nat) - 1 : Int) (by omega)
  rw [show ((2 ^ k * 2 ^ k : Nat) - 1 : Int) + 1 = ((2 ^ k * 2 ^ k : Nat) : Int) by omega] at pb
  obtain ⟨p, hp, hpp⟩ : ∃ p : Nat, p < 2 ^ k * 2 ^ k ∧ (x2.tmod ((2 ^ k * 2 ^ k : Nat) : Int) + ((2 ^ k * 2 ^ k : Nat) : Int)).tmod ((2 ^ k * 2 ^ k : Nat) : Int) = p := by
    have h1 := Int.tmod_nonneg ((2 ^ k * 2 ^ k : Nat) : Int) (show 0 ≤ x2.tmod ((2 ^ k * 2 ^ k : Nat) : Int) + ((2 ^ k * 2 ^ k : Nat) : Int) by omega)
    have h2 := Int.tmod_lt_of_pos (x2.tmod ((2 ^ k * 2 ^ k : Nat) : Int) + ((2 ^ k * 2 ^ k : Nat) : Int)) (show 0 < ((2 ^ k * 2 ^ k : Nat) : Int) by omega)
    exact ⟨_, by omega, (Int.toNat_of_nonneg h1).symm⟩
  have vb : -69999 ≤ x3.tmod 70000 ∧ x3.tmod 70000 ≤ 69999 := tmod_bd x3 69999 (by omega)
  obtain ⟨W, hW⟩ : ∃ W, W = A.set p (x3.tmod 70000) := ⟨_, rfl⟩
  have lW : W.length = 2 ^ k * 2 ^ k := by rw [hW, List.length_set]; exact lA
  have iW : inB 1099511627776 W = true := by
    rw [inB_iff] at iA2 ⊢
    intro x hx
    rw [hW] at hx
    rcases List.mem_or_eq_of_mem_set hx with h | h
    · exact iA2 x h
    · omega
  have f2 := fun H => Forward_ok k hk W lW iW H
  have hMN : ∀ r c, r < 2 ^ k → c < 2 ^ k → ¬ (r = p / 2 ^ k ∧ c = p % 2 ^ k) → ofL (2 ^ k) A r c = ofL (2 ^ k) W r c := fun r c hr hc hne => by
    unfold ofL
    rw [if_pos ⟨hr, hc⟩, if_pos ⟨hr, hc⟩, hW]
    have : p ≠ r * 2 ^ k + c := fun e => hne (by obtain ⟨_, h2, h3⟩ := place hr hc; rw [e, h2, h3]; exact ⟨rfl, rfl⟩)
    rw [List.getD_eq_getElem?_getD, List.getD_eq_getElem?_getD, List.getElem?_set_ne this]
  obtain ⟨pr, pc, _⟩ := place' hp
  have hloc := fwd_local k _ _ _ _ hk pr pc hMN
  obtain ⟨X, hX⟩ : ∃ X, X = toL (2 ^ k) (fwd k (ofL (2 ^ k) A)) := ⟨_, rfl⟩
  obtain ⟨Y, hY⟩ : ∃ Y, Y = toL (2 ^ k) (fwd k (ofL (2 ^ k) W)) := ⟨_, rfl⟩
  rw [← hX] at f1
  rw [← hY] at f2
  have lX : X.length = 2 ^ k * 2 ^ k := by rw [hX]; exact toL_len _ _
  have lY : Y.length = 2 ^ k * 2 ^ k := by rw [hY]; exact toL_len _ _
  have hun : ∀ i j, i < 2 ^ k * 2 ^ k → j < 2 ^ k * 2 ^ k → X.getD i 0 ≠ Y.getD i 0 → X.getD j 0 ≠ Y.getD j 0 → blk (i / 2 ^ k) (i % 2 ^ k) = blk (j / 2 ^ k) (j % 2 ^ k) → i = j := by
    intro i j hi hj d1 d2 hb
    obtain ⟨a1, a2, a3⟩ := place' hi
    obtain ⟨b1, b2, b3⟩ := place' hj
    rw [hX, hY, ← a3, toL_getD _ a1 a2, toL_getD _ a1 a2] at d1
    rw [hX, hY, ← b3, toL_getD _ b1 b2, toL_getD _ b1 b2] at d2
    obtain ⟨e1, e2⟩ := hloc _ _ _ _ a1 a2 b1 b2 d1 d2 hb
    rw [← a3, ← b3, e1, e2]
  have hbk : ∀ i, i < 2 ^ k * 2 ^ k → blk (i / 2 ^ k) (i % 2 ^ k) < 13 := fun i hi => by
    obtain ⟨a1, a2, a3⟩ := place' hi
    have := blk_le hk a1 a2; omega
  clear hA hX hY hloc hMN
  obtain ⟨H0, hH0⟩ : ∃ H0 : AH, H0 = fun _ => none := ⟨_, rfl⟩
  rw [← hH0]
  clear hH0
  generalize 2 ^ k = S at *
  have f1 : ∀ H, ACall Try.prog 12 [.int .i64 S, .cs (iS .i64 A) A.length] H (fun y H' => y = .tup [.cs (iS .i64 X) X.length, .int .i64 0] ∧ H' = H) := f1
  have f2 : ∀ H, ACall Try.prog 12 [.int .i64 S, .cs (iS .i64 W) W.length] H (fun y H' => y = .tup [.cs (iS .i64 Y) Y.length, .int .i64 0] ∧ H' = H) := f2
  refine ACall_of tt_ok (dok _) Try.func3 rfl (by decide) rfl ?_
  (repeat' ((conv => whnf); first | left | refine OpsA.cons ?_ | refine OpsA.nil ?_ | refine AWq.seq ?_ | refine AWq.region ?_ | refine AWq.cond ?_ | refine AWq.block ?_ | refine AWq.skip ?_ | refine AWq.ret ?_ | refine AWq.exit ?_ | refine AWq.loop ?_ | refine AWq.rangeFunc ?_ | refine DrawA.consD ?_ | refine DrawA.nil ?_ | refine AWq.draw (by decide +kernel) ?_ | (refine ACall.to (sk _) ?_) | (refine ACall.to (q1 _) ?_) | (apply Exists.intro; apply And.intro; exact sk _) | (apply Exists.intro; apply And.intro; exact q1 _) | (apply Exists.intro; apply Exists.intro; apply And.intro; exact sk _) | (apply Exists.intro; apply Exists.intro; apply And.intro; exact q1 _) | (refine Both.mk ?_ ?_ <;> intro hc <;> (first | exact Bool.noConfusion hc | exact absurd (by with_reducible rfl) hc | exact (hc : False).elim | exact absurd (by assumption) hc | exact absurd hc (by assumption) | (exfalso; omega) | exact absurd hc (by decide) | skip)) | (intro c hc; (try (simp only [AH.none_iff] at hc; repeat (have hn := hc.1; replace hc := hc.2))); (first | (refine i64_k hc ?_ ?_ ?_ ; omega; omega; (clear hc; intro hc; subst hc)) | (refine u64_k hc ?_ ?_ ?_ ; omega; omega; (clear hc; intro hc; subst hc)) | (refine u8_k hc ?_ ?_ ?_ ; omega; omega; (clear hc; intro hc; subst hc)) | subst hc | skip)) | (apply Exists.intro; apply And.intro; (focus (repeat (first | assumption | exact AH.set_same _ _ _ | ((first | refine AH.get_ne ?_ ?_ | refine AH.getd_ne ?_ ?_); (first | assumption | omega | exact Ne.symm (by assumption) | exact AH.ne_none (by assumption) (by assumption) | exact AH.none_ne (by assumption) (by assumption) | exact (AH.none_set (by assumption)).1 | exact Ne.symm (AH.none_set (by assumption)).1)))); done)) | (apply Exists.intro; apply And.intro; (try simp only [List.getElem?_drop, Nat.mul_one, Nat.add_zero, Nat.zero_add]); first | (refine u8s_get ?_; omega) | (refine iS_get ?_; omega) | assumption | rfl | fail) | (apply And.intro; (first | rfl | assumption | exact Nat.le_of_ble_eq_true rfl | omega | (simp <;> fail) | (simp <;> omega) | (focus (repeat' (first | exact one_u8s _ | exact one_iS _ _ | rfl | apply one_take | apply one_drop | apply one_append)); done) | fail)) | fail)) <;> (try (conv => whnf))
  refine Then.mk ?_
  (repeat' ((conv => whnf); first | left | refine OpsA.cons ?_ | refine OpsA.nil ?_ | refine AWq.seq ?_ | refine AWq.region ?_ | refine AWq.cond ?_ | refine AWq.block ?_ | refine AWq.skip ?_ | refine AWq.ret ?_ | refine AWq.exit ?_ | refine AWq.loop ?_ | refine AWq.rangeFunc ?_ | refine DrawA.consD ?_ | refine DrawA.nil ?_ | refine AWq.draw (by decide +kernel) ?_ | (refine ACall.to (sk _) ?_) | (refine ACall.to (q1 _) ?_) | (apply Exists.intro; apply And.intro; exact sk _) | (apply Exists.intro; apply And.intro; exact q1 _) | (apply Exists.intro; apply Exists.intro; apply And.intro; exact sk _) | (apply Exists.intro; apply Exists.intro; apply And.intro; exact q1 _) | (refine Both.mk ?_ ?_ <;> intro hc <;> (first | exact Bool.noConfusion hc | exact absurd (by with_reducible rfl) hc | exact (hc : False).elim | exact absurd (by assumption) hc | exact absurd hc (by assumption) | (exfalso; omega) | exact absurd hc (by decide) | skip)) | (intro c hc; (try (simp only [AH.none_iff] at hc; repeat (have hn := hc.1; replace hc := hc.2))); (first | (refine i64_k hc ?_ ?_ ?_ ; omega; omega; (clear hc; intro hc; subst hc)) | (refine u64_k hc ?_ ?_ ?_ ; omega; omega; (clear hc; intro hc; subst hc)) | (refine u8_k hc ?_ ?_ ?_ ; omega; omega; (clear hc; intro hc; subst hc)) | subst hc | skip)) | (apply Exists.intro; apply And.intro; (focus (repeat (first | assumption | exact AH.set_same _ _ _ | ((first | refine AH.get_ne ?_ ?_ | refine AH.getd_ne ?_ ?_); (first | assumption | omega | exact Ne.symm (by assumption) | exact AH.ne_none (by assumption) (by assumption) | exact AH.none_ne (by assumption) (by assumption) | exact (AH.none_set (by assumption)).1 | exact Ne.symm (AH.none_set (by assumption)).1)))); done)) | (apply Exists.intro; apply And.intro; (try simp only [List.getElem?_drop, Nat.mul_one, Nat.add_zero, Nat.zero_add]); first | (refine u8s_get ?_; omega) | (refine iS_get ?_; omega) | assumption | rfl | fail) | (apply And.intro; (first | rfl | assumption | exact Nat.le_of_ble_eq_true rfl | omega | (simp <;> fail) | (simp <;> omega) | (focus (repeat' (first | exact one_u8s _ | exact one_iS _ _ | rfl | apply one_take | apply one_drop | apply one_append)); done) | fail)) | fail)) <;> (try (conv => whnf))
  refine Then.mk ?_
  (repeat' ((conv => whnf); first | left | refine OpsA.cons ?_ | refine OpsA.nil ?_ | refine AWq.seq ?_ | refine AWq.region ?_ | refine AWq.cond ?_ | refine AWq.block ?_ | refine AWq.skip ?_ | refine AWq.ret ?_ | refine AWq.exit ?_ | refine AWq.loop ?_ | refine AWq.rangeFunc ?_ | refine DrawA.consD ?_ | refine DrawA.nil ?_ | refine AWq.draw (by decide +kernel) ?_ | (refine ACall.to (sk _) ?_) | (refine ACall.to (q1 _) ?_) | (apply Exists.intro; apply And.intro; exact sk _) | (apply Exists.intro; apply And.intro; exact q1 _) | (apply Exists.intro; apply Exists.intro; apply And.intro; exact sk _) | (apply Exists.intro; apply Exists.intro; apply And.intro; exact q1 _) | (refine Both.mk ?_ ?_ <;> intro hc <;> (first | exact Bool.noConfusion hc | exact absurd (by with_reducible rfl) hc | exact (hc : False).elim | exact absurd (by assumption) hc | exact absurd hc (by assumption) | (exfalso; omega) | exact absurd hc (by decide) | skip)) | (intro c hc; (try (simp only [AH.none_iff] at hc; repeat (have hn := hc.1; replace hc := hc.2))); (first | (refine i64_k hc ?_ ?_ ?_ ; omega; omega; (clear hc; intro hc; subst hc)) | (refine u64_k hc ?_ ?_ ?_ ; omega; omega; (clear hc; intro hc; subst hc)) | (refine u8_k hc ?_ ?_ ?_ ; omega; omega; (clear hc; intro hc; subst hc)) | subst hc | skip)) | (apply Exists.intro; apply And.intro; (focus (repeat (first | assumption | exact AH.set_same _ _ _ | ((first | refine AH.get_ne ?_ ?_ | refine AH.getd_ne ?_ ?_); (first | assumption | omega | exact Ne.symm (by assumption) | exact AH.ne_none (by assumption) (by assumption) | exact AH.none_ne (by assumption) (by assumption) | exact (AH.none_set (by assumption)).1 | exact Ne.symm (AH.none_set (by assumption)).1)))); done)) | (apply Exists.intro; apply And.intro; (try simp only [List.getElem?_drop, Nat.mul_one, Nat.add_zero, Nat.zero_add]); first | (refine u8s_get ?_; omega) | (refine iS_get ?_; omega) | assumption | rfl | fail) | (apply And.intro; (first | rfl | assumption | exact Nat.le_of_ble_eq_true rfl | omega | (simp <;> fail) | (simp <;> omega) | (focus (repeat' (first | exact one_u8s _ | exact one_iS _ _ | rfl | apply one_take | apply one_drop | apply one_append)); done) | fail)) | fail)) <;> (try (conv => whnf))
  refine Then.mk ?_
  (repeat' ((conv => whnf); first | refine Or.inr (Or.inl ?_) | refine OpsA.cons ?_ | refine OpsA.nil ?_ | refine AWq.seq ?_ | refine AWq.region ?_ | refine AWq.cond ?_ | refine AWq.block ?_ | refine AWq.skip ?_ | refine AWq.ret ?_ | refine AWq.exit ?_ | refine AWq.loop ?_ | refine AWq.rangeFunc ?_ | refine DrawA.consD ?_ | refine DrawA.nil ?_ | refine AWq.draw (by decide +kernel) ?_ | (refine Both.mk ?_ ?_ <;> intro hc <;> (first | exact Bool.noConfusion hc | exact absurd (by with_reducible rfl) hc | exact (hc : False).elim | exact absurd (by assumption) hc | exact absurd hc (by assumption) | (exfalso; omega) | exact absurd hc (by decide) | skip)) | (intro c hc; (try (simp only [AH.none_iff] at hc; repeat (have hn := hc.1; replace hc := hc.2))); (first | (refine i64_k hc ?_ ?_ ?_ ; omega; omega; (clear hc; intro hc; subst hc)) | (refine u64_k hc ?_ ?_ ?_ ; omega; omega; (clear hc; intro hc; subst hc)) | (refine u8_k hc ?_ ?_ ?_ ; omega; omega; (clear hc; intro hc; subst hc)) | subst hc | skip)) | (apply Exists.intro; apply And.intro; (focus (repeat (first | assumption | exact AH.set_same _ _ _ | ((first | refine AH.get_ne ?_ ?_ | refine AH.getd_ne ?_ ?_); (first | assumption | omega | exact Ne.symm (by assumption) | exact AH.ne_none (by assumption) (by assumption) | exact AH.none_ne (by assumption) (by assumption) | exact (AH.none_set (by assumption)).1 | exact Ne.symm (AH.none_set (by assumption)).1)))); done)) | (apply Exists.intro; apply And.intro; (try simp only [List.getElem?_drop, Nat.mul_one, Nat.add_zero, Nat.zero_add]); first | (refine u8s_get ?_; omega) | (refine iS_get ?_; omega) | assumption | rfl | fail) | (apply And.intro; (first | rfl | assumption | exact Nat.le_of_ble_eq_true rfl | omega | (simp <;> fail) | (simp <;> omega) | (focus (repeat' (first | exact one_u8s _ | exact one_iS _ _ | rfl | apply one_take | apply one_drop | apply one_append)); done) | fail)) | fail)) <;> (try (conv => whnf))
  have hcc : H0 c = none := by assumption
  have hcell : ∀ z : List AV, z = [] → z ++ iS .i64 A = iS .i64 A := fun z hz => by rw [hz]; rfl
  refine Then.mk (AWq.in ?_)
  refine AWp_less (AH.set H0 c (.row (iS .i64 A) 1)) (HLe.of_eq ?_) ?_
  · refine Eq.trans ?_ (AH.set_set _ _ _ _).symm
    exact congrArg (fun l => AH.set H0 c (.row l 1)) (hcell _ rfl).symm
  refine AWp_cut [(9, .int .i64 S), (10, .cs (iS .i64 A) A.length), (11, .sl c 1 1 0 A.length none), (2, .int .i64 x2), (3, .int .i64 x3)] ⟨rfl, rfl, congrArg (fun x => AV.sl c 1 1 0 x none) (Nat.zero_add _), rfl, rfl, trivial⟩ (fun _ => rfl) (HLe.refl _) ?_
  refine AWp.of tt_ok (dok _) rfl ?_
  rw [← lA] at hp hpp pb
  have hsz : (iS .i64 A).length = A.length := iS_length _ _
  have lWA : W.length = A.length := by rw [lW, lA]
  (repeat' ((conv => whnf); first | left | refine OpsA.cons ?_ | refine OpsA.nil ?_ | refine AWq.seq ?_ | refine AWq.region ?_ | refine AWq.cond ?_ | refine AWq.block ?_ | refine AWq.skip ?_ | refine AWq.ret ?_ | refine AWq.exit ?_ | refine AWq.loop ?_ | refine AWq.rangeFunc ?_ | refine DrawA.consD ?_ | refine DrawA.nil ?_ | refine AWq.draw (by decide +kernel) ?_ | (refine Both.mk ?_ ?_ <;> intro hc <;> (first | exact Bool.noConfusion hc | exact absurd (by with_reducible rfl) hc | exact (hc : False).elim | exact absurd (by assumption) hc | exact absurd hc (by assumption) | (exfalso; omega) | exact absurd hc (by decide) | skip)) | (intro c hc; (try (simp only [AH.none_iff] at hc; repeat (have hn := hc.1; replace hc := hc.2))); (first | (refine i64_k hc ?_ ?_ ?_ ; omega; omega; (clear hc; intro hc; subst hc)) | (refine u64_k hc ?_ ?_ ?_ ; omega; omega; (clear hc; intro hc; subst hc)) | (refine u8_k hc ?_ ?_ ?_ ; omega; omega; (clear hc; intro hc; subst hc)) | subst hc | skip)) | (apply Exists.intro; apply And.intro; (focus (repeat (first | assumption | exact AH.set_same _ _ _ | ((first | refine AH.get_ne ?_ ?_ | refine AH.getd_ne ?_ ?_); (first | assumption | omega | exact Ne.symm (by assumption) | exact AH.ne_none (by assumption) (by assumption) | exact AH.none_ne (by assumption) (by assumption) | exact (AH.none_set (by assumption)).1 | exact Ne.symm (AH.none_set (by assumption)).1)))); done)) | (apply Exists.intro; apply And.intro; (try simp only [List.getElem?_drop, Nat.mul_one, Nat.add_zero, Nat.zero_add]); first | (refine u8s_get ?_; omega) | (refine iS_get ?_; omega) | assumption | rfl | fail) | (apply And.intro; (first | rfl | assumption | exact Nat.le_of_ble_eq_true rfl | omega | (simp <;> fail) | (simp <;> omega) | (focus (repeat' (first | exact one_u8s _ | exact one_iS _ _ | rfl | apply one_take | apply one_drop | apply one_append)); done) | fail)) | fail)) <;> (try (conv => whnf))
  refine Then.mk (AWq.in ?_)
  have hwr : wrA (iS .i64 A) (0 + ((x2.tmod A.length + A.length).tmod A.length).toNat * 1) [.int .i64 (x3.tmod 70000)] = iS .i64 W := by
    rw [hpp, hW, Int.toNat_natCast, Nat.zero_add, Nat.mul_one, iS_wr hp]
  refine AWp_freeze1 (r := c) (v := 1) (es := 1) (n := W.length) (lim := none) (cells := iS .i64 W) 11 rfl ?_ ?_ (by simp) ?_
  · show AV.sl c 1 1 0 A.length none = _
    rw [lWA]
  · exact (AH.set_same _ _ _).trans (congrArg (fun l => some (AO.row l 1)) hwr)
  refine AWp_less H0 (HLe.del _ (HLe.set_of _ _ (HLe.set_of _ _ (HLe.refl _) hcc) hcc) hcc) ?_
  refine AWp.of tt_ok (dok _) rfl ?_
  clear hcell hwr hsz lWA hcc
  (repeat' ((conv => whnf); first | refine Then.mk ?_ | left | refine OpsA.cons ?_ | refine OpsA.nil ?_ | refine AWq.seq ?_ | refine AWq.region ?_ | refine AWq.cond ?_ | refine AWq.block ?_ | refine AWq.skip ?_ | refine AWq.ret ?_ | refine AWq.exit ?_ | refine AWq.loop ?_ | refine AWq.rangeFunc ?_ | refine DrawA.consD ?_ | refine DrawA.nil ?_ | refine AWq.draw (by decide +kernel) ?_ | (refine ACall.to (f1 _) ?_) | (refine ACall.to (f2 _) ?_) | (apply Exists.intro; apply And.intro; exact f1 _) | (apply Exists.intro; apply And.intro; exact f2 _) | (apply Exists.intro; apply Exists.intro; apply And.intro; exact f1 _) | (apply Exists.intro; apply Exists.intro; apply And.intro; exact f2 _) | (refine Both.mk ?_ ?_ <;> intro hc <;> (first | exact Bool.noConfusion hc | exact absurd (by with_reducible rfl) hc | exact (hc : False).elim | exact absurd (by assumption) hc | exact absurd hc (by assumption) | (exfalso; omega) | exact absurd hc (by decide) | skip)) | (intro c hc; (try (simp only [AH.none_iff] at hc; repeat (have hn := hc.1; replace hc := hc.2))); (first | (refine i64_k hc ?_ ?_ ?_ ; omega; omega; (clear hc; intro hc; subst hc)) | (refine u64_k hc ?_ ?_ ?_ ; omega; omega; (clear hc; intro hc; subst hc)) | (refine u8_k hc ?_ ?_ ?_ ; omega; omega; (clear hc; intro hc; subst hc)) | subst hc | skip)) | (apply Exists.intro; apply And.intro; (focus (repeat (first | assumption | exact AH.set_same _ _ _ | ((first | refine AH.get_ne ?_ ?_ | refine AH.getd_ne ?_ ?_); (first | assumption | omega | exact Ne.symm (by assumption) | exact AH.ne_none (by assumption) (by assumption) | exact AH.none_ne (by assumption) (by assumption) | exact (AH.none_set (by assumption)).1 | exact Ne.symm (AH.none_set (by assumption)).1)))); done)) | (apply Exists.intro; apply And.intro; (try simp only [List.getElem?_drop, Nat.mul_one, Nat.add_zero, Nat.zero_add]); first | (refine u8s_get ?_; omega) | (refine iS_get ?_; omega) | assumption | rfl | fail) | (apply And.intro; (first | rfl | assumption | exact Nat.le_of_ble_eq_true rfl | omega | (simp <;> fail) | (simp <;> omega) | (focus (repeat' (first | exact one_u8s _ | exact one_iS _ _ | rfl | apply one_take | apply one_drop | apply one_append)); done) | fail)) | fail)) <;> (try (conv => whnf))
  have hcc : H0 c = none := by assumption
  obtain ⟨q, hqq⟩ : ∃ q, q = c := ⟨_, rfl⟩
  rw [← hqq] at hcc ⊢
  clear hqq
  refine AWp_loop (σ := Nat × Ln) (8 :: 17 :: 18 :: 76 :: 77 :: 78 :: 79 :: 80 :: 81 :: 82 :: 83 :: 84 :: 85 :: 86 :: 87 :: 88 :: 89 :: 90 :: 91 :: 92 :: 93 :: 94 :: 95 :: 96 :: 97 :: 98 :: 99 :: 100 :: 101 :: 102 :: 103 :: 104 :: 105 :: 106 :: 107 :: 108 :: 109 :: []) (fun (i, C) => [(17, .int .i64 i)]) (fun (i, C) => AH.set H0 q (.row (iL 13 C) 0)) (fun (i, C) => i ≤ S * S ∧ ∀ b, b < 13 → C b = 0 ∨ ∃ p, p < i ∧ X.getD p 0 ≠ Y.getD p 0 ∧ blk (p / S) (p % S) = b) (fun (i, C) => S * S - i) (0, fun _ => 0) rfl ?_ ?_ ?_ ?_
  · exact ⟨Nat.zero_le _, fun b _ => .inl rfl⟩
  · exact ⟨rfl, trivial⟩
  · refine HLe.of_eq (congrArg (fun l => AH.set H0 q (.row l 0)) ?_)
    exact (iL_zero 13).symm
  · rintro ⟨i, C⟩ ⟨hi, hC⟩
    dsimp only at hi hC ⊢
    refine AWp.of tt_ok (dok _) rfl ?_
    by_cases hil : i < S * S
    · by_cases hd : X.getD i 0 = Y.getD i 0
      · have hd' : X.getD (i : Int).toNat 0 = Y.getD (i : Int).toNat 0 := hd
        (repeat' ((conv => whnf); first | refine Then.mk ?_ | left | refine OpsA.cons ?_ | refine OpsA.nil ?_ | refine AWq.seq ?_ | refine AWq.region ?_ | refine AWq.cond ?_ | refine AWq.block ?_ | refine AWq.skip ?_ | refine AWq.ret ?_ | refine AWq.exit ?_ | refine AWq.loop ?_ | refine AWq.rangeFunc ?_ | refine DrawA.consD ?_ | refine DrawA.nil ?_ | refine AWq.draw (by decide +kernel) ?_ | (refine Both.mk ?_ ?_ <;> intro hc <;> (first | exact Bool.noConfusion hc | exact absurd (by with_reducible rfl) hc | exact (hc : False).elim | exact absurd (by assumption) hc | exact absurd hc (by assumption) | (exfalso; omega) | exact absurd hc (by decide) | skip)) | (intro c hc; (try (simp only [AH.none_iff] at hc; repeat (have hn := hc.1; replace hc := hc.2))); (first | (refine i64_k hc ?_ ?_ ?_ ; omega; omega; (clear hc; intro hc; subst hc)) | (refine u64_k hc ?_ ?_ ?_ ; omega; omega; (clear hc; intro hc; subst hc)) | (refine u8_k hc ?_ ?_ ?_ ; omega; omega; (clear hc; intro hc; subst hc)) | subst hc | skip)) | (apply Exists.intro; apply And.intro; (focus (repeat (first | assumption | exact AH.set_same _ _ _ | ((first | refine AH.get_ne ?_ ?_ | refine AH.getd_ne ?_ ?_); (first | assumption | omega | exact Ne.symm (by assumption) | exact AH.ne_none (by assumption) (by assumption) | exact AH.none_ne (by assumption) (by assumption) | exact (AH.none_set (by assumption)).1 | exact Ne.symm (AH.none_set (by assumption)).1)))); done)) | (apply Exists.intro; apply And.intro; (try simp only [List.getElem?_drop, Nat.mul_one, Nat.add_zero, Nat.zero_add]); first | (refine u8s_get ?_; omega) | (refine iS_get ?_; omega) | assumption | rfl | fail) | (apply And.intro; (first | rfl | assumption | exact Nat.le_of_ble_eq_true rfl | omega | (simp <;> fail) | (simp <;> omega) | (focus (repeat' (first | exact one_u8s _ | exact one_iS _ _ | rfl | apply one_take | apply one_drop | apply one_append)); done) | fail)) | fail)) <;> (try (conv => whnf))
        exact ⟨(i + 1, C), ⟨by show i + 1 ≤ S * S; omega, fun b hb => (hC b hb).imp id fun ⟨p, h1, h2⟩ => ⟨p, by show p < i + 1; omega, h2⟩⟩, by show S * S - (i + 1) < S * S - i; omega, ⟨congrArg (AV.int .i64) (by omega), trivial⟩, HLe.refl _⟩
      · have hd' : ¬ X.getD (i : Int).toNat 0 = Y.getD (i : Int).toNat 0 := hd
        have t1 : (i : Int).tdiv S = ((i / S : Nat) : Int) := by rw [Int.tdiv_eq_ediv_of_nonneg (by omega)]; rfl
        have t2 : (i : Int).tmod S = ((i % S : Nat) : Int) := by rw [Int.tmod_eq_emod_of_nonneg (by omega)]; rfl
        obtain ⟨a1, a2, a3⟩ := place' hil
        have hb13 := hbk i hil
        have bk := fun H => Block_c (i / S) (i % S) (by omega) (by omega) H
        rw [← t1, ← t2] at bk
        obtain ⟨d, hdd⟩ : ∃ d, d = i / S := ⟨_, rfl⟩
        rw [← hdd] at t1
        have hd16 : d < 16 := by omega
        have hC0 : C (blk (i / S) (i % S)) = 0 := by
          rcases hC _ hb13 with h | ⟨p, h1, h2, h3⟩
          · exact h
          · exact absurd (hun p i (by omega) hil h2 hd h3) (by omega)
        have hS0 : (S : Int) ≠ 0 := by omega
        obtain ⟨bb, hbb⟩ : ∃ bb, bb = blk (i / S) (i % S) := ⟨_, rfl⟩
        rw [← hbb] at bk hb13 hC0
        obtain ⟨cells, hce⟩ : ∃ cells, cells = iL 13 C := ⟨_, rfl⟩
        have hcl : cells.length = 13 := by rw [hce]; exact iL_len _ _
        have hcg : cells[((bb : Nat) : Int).toNat]? = some (.int .i64 0) := by rw [hce, ← hC0]; exact iL_get _ hb13
        rw [← hce]
        (repeat' ((conv => whnf); first | refine Then.mk ?_ | left | refine OpsA.cons ?_ | refine OpsA.nil ?_ | refine AWq.seq ?_ | refine AWq.region ?_ | refine AWq.cond ?_ | refine AWq.block ?_ | refine AWq.skip ?_ | refine AWq.ret ?_ | refine AWq.exit ?_ | refine AWq.loop ?_ | refine AWq.rangeFunc ?_ | refine DrawA.consD ?_ | refine DrawA.nil ?_ | refine AWq.draw (by decide +kernel) ?_ | (refine ACall.to (bk _) ?_) | (apply Exists.intro; apply And.intro; exact bk _) | (apply Exists.intro; apply Exists.intro; apply And.intro; exact bk _) | (refine Both.mk ?_ ?_ <;> intro hc <;> (first | exact Bool.noConfusion hc | exact absurd (by with_reducible rfl) hc | exact (hc : False).elim | exact absurd (by assumption) hc | exact absurd hc (by assumption) | (exfalso; omega) | exact absurd hc (by decide) | skip)) | (intro c hc; (try (simp only [AH.none_iff] at hc; repeat (have hn := hc.1; replace hc := hc.2))); (first | (refine i64_k hc ?_ ?_ ?_ ; omega; omega; (clear hc; intro hc; subst hc)) | (refine u64_k hc ?_ ?_ ?_ ; omega; omega; (clear hc; intro hc; subst hc)) | (refine u8_k hc ?_ ?_ ?_ ; omega; omega; (clear hc; intro hc; subst hc)) | subst hc | skip)) | (apply Exists.intro; apply And.intro; (focus (repeat (first | assumption | exact AH.set_same _ _ _ | ((first | refine AH.get_ne ?_ ?_ | refine AH.getd_ne ?_ ?_); (first | assumption | omega | exact Ne.symm (by assumption) | exact AH.ne_none (by assumption) (by assumption) | exact AH.none_ne (by assumption) (by assumption) | exact (AH.none_set (by assumption)).1 | exact Ne.symm (AH.none_set (by assumption)).1)))); done)) | (apply Exists.intro; apply And.intro; (try simp only [List.getElem?_drop, Nat.mul_one, Nat.add_zero, Nat.zero_add]); first | (refine u8s_get ?_; omega) | (refine iS_get ?_; omega) | assumption | rfl | fail) | (apply And.intro; (first | rfl | assumption | exact Nat.le_of_ble_eq_true rfl | omega | (simp <;> fail) | (simp <;> omega) | (focus (repeat' (first | exact one_u8s _ | exact one_iS _ _ | rfl | apply one_take | apply one_drop | apply one_append)); done) | fail)) | fail)) <;> (try (conv => whnf))
        have hk0 : 0 + ((bb : Nat) : Int).toNat * 1 = bb := by omega
        refine ⟨.int .i64 (0 + 1), ?_, ?_⟩
        · show (wrA cells (0 + ((bb : Nat) : Int).toNat * 1) [AV.int .i64 (0 + 1)])[0 + ((bb : Nat) : Int).toNat * 1]? = _
          rw [hk0]
          exact wrA_same _ (by omega)
        (repeat' ((conv => whnf); first | refine Then.mk ?_ | left | refine OpsA.cons ?_ | refine OpsA.nil ?_ | refine AWq.seq ?_ | refine AWq.region ?_ | refine AWq.cond ?_ | refine AWq.block ?_ | refine AWq.skip ?_ | refine AWq.ret ?_ | refine AWq.exit ?_ | refine AWq.loop ?_ | refine AWq.rangeFunc ?_ | refine DrawA.consD ?_ | refine DrawA.nil ?_ | refine AWq.draw (by decide +kernel) ?_ | (refine Both.mk ?_ ?_ <;> intro hc <;> (first | exact Bool.noConfusion hc | exact absurd (by with_reducible rfl) hc | exact (hc : False).elim | exact absurd (by assumption) hc | exact absurd hc (by assumption) | (exfalso; omega) | exact absurd hc (by decide) | skip)) | (intro c hc; (try (simp only [AH.none_iff] at hc; repeat (have hn := hc.1; replace hc := hc.2))); (first | (refine i64_k hc ?_ ?_ ?_ ; omega; omega; (clear hc; intro hc; subst hc)) | (refine u64_k hc ?_ ?_ ?_ ; omega; omega; (clear hc; intro hc; subst hc)) | (refine u8_k hc ?_ ?_ ?_ ; omega; omega; (clear hc; intro hc; subst hc)) | subst hc | skip)) | (apply Exists.intro; apply And.intro; (focus (repeat (first | assumption | exact AH.set_same _ _ _ | ((first | refine AH.get_ne ?_ ?_ | refine AH.getd_ne ?_ ?_); (first | assumption | omega | exact Ne.symm (by assumption) | exact AH.ne_none (by assumption) (by assumption) | exact AH.none_ne (by assumption) (by assumption) | exact (AH.none_set (by assumption)).1 | exact Ne.symm (AH.none_set (by assumption)).1)))); done)) | (apply Exists.intro; apply And.intro; (try simp only [List.getElem?_drop, Nat.mul_one, Nat.add_zero, Nat.zero_add]); first | (refine u8s_get ?_; omega) | (refine iS_get ?_; omega) | assumption | rfl | fail) | (apply And.intro; (first | rfl | assumption | exact Nat.le_of_ble_eq_true rfl | omega | (simp <;> fail) | (simp <;> omega) | (focus (repeat' (first | exact one_u8s _ | exact one_iS _ _ | rfl | apply one_take | apply one_drop | apply one_append)); done) | fail)) | fail)) <;> (try (conv => whnf))
        refine ⟨(i + 1, fun k => if k = bb then 0 + 1 else C k), ⟨by show i + 1 ≤ S * S; omega, fun b hb => ?_⟩, by show S * S - (i + 1) < S * S - i; omega, ⟨congrArg (AV.int .i64) (by omega), trivial⟩, HLe.of_eq (Eq.symm ((AH.set_set _ _ _ _).trans ?_))⟩
        · dsimp only
          by_cases e : b = bb
          · exact .inr ⟨i, by omega, hd, by rw [e, hbb]⟩
          · rw [if_neg e]
            exact (hC b hb).imp id fun ⟨p, h1, h2⟩ => ⟨p, by omega, h2⟩
        · refine congrArg (fun l => AH.set H0 q (.row l 0)) ?_
          show wrA cells (0 + ((bb : Nat) : Int).toNat * 1) [AV.int .i64 (0 + 1)] = _
          rw [hk0, hce, iL_wr _ hb13]
    · (repeat' ((conv => whnf); first | refine Then.mk ?_ | left | refine OpsA.cons ?_ | refine OpsA.nil ?_ | refine AWq.seq ?_ | refine AWq.region ?_ | refine AWq.cond ?_ | refine AWq.block ?_ | refine AWq.skip ?_ | refine AWq.ret ?_ | refine AWq.exit ?_ | refine AWq.loop ?_ | refine AWq.rangeFunc ?_ | refine DrawA.consD ?_ | refine DrawA.nil ?_ | refine AWq.draw (by decide +kernel) ?_ | (refine ACall.to (lives_c _) ?_) | (apply Exists.intro; apply And.intro; exact lives_c _) | (apply Exists.intro; apply Exists.intro; apply And.intro; exact lives_c _) | (refine Both.mk ?_ ?_ <;> intro hc <;> (first | exact Bool.noConfusion hc | exact absurd (by with_reducible rfl) hc | exact (hc : False).elim | exact absurd (by assumption) hc | exact absurd hc (by assumption) | (exfalso; omega) | exact absurd hc (by decide) | skip)) | (intro c hc; (try (simp only [AH.none_iff] at hc; repeat (have hn := hc.1; replace hc := hc.2))); (first | (refine i64_k hc ?_ ?_ ?_ ; omega; omega; (clear hc; intro hc; subst hc)) | (refine u64_k hc ?_ ?_ ?_ ; omega; omega; (clear hc; intro hc; subst hc)) | (refine u8_k hc ?_ ?_ ?_ ; omega; omega; (clear hc; intro hc; subst hc)) | subst hc | skip)) | (apply Exists.intro; apply And.intro; (focus (repeat (first | assumption | exact AH.set_same _ _ _ | ((first | refine AH.get_ne ?_ ?_ | refine AH.getd_ne ?_ ?_); (first | assumption | omega | exact Ne.symm (by assumption) | exact AH.ne_none (by assumption) (by assumption) | exact AH.none_ne (by assumption) (by assumption) | exact (AH.none_set (by assumption)).1 | exact Ne.symm (AH.none_set (by assumption)).1)))); done)) | (apply Exists.intro; apply And.intro; (try simp only [List.getElem?_drop, Nat.mul_one, Nat.add_zero, Nat.zero_add]); first | (refine u8s_get ?_; omega) | (refine iS_get ?_; omega) | assumption | rfl | fail) | (apply And.intro; (first | rfl | assumption | exact Nat.le_of_ble_eq_true rfl | omega | (simp <;> fail) | (simp <;> omega) | (focus (repeat' (first | exact one_u8s _ | exact one_iS _ _ | rfl | apply one_take | apply one_drop | apply one_append)); done) | fail)) | fail)) <;> (try (conv => whnf))
end Go.Proofs.Ytajmabnnaidhkaa
