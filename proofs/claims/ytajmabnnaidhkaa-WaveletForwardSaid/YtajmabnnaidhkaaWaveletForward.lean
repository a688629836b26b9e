/- The law WaveletForward: the contract of the law's function. -/
import Derived.Test.YtajmabnnaidhkaaWaveS
namespace Go.Proofs.Ytajmabnnaidhkaa
open Go.Fw Go
set_option linter.unusedVariables false
set_option linter.unusedSimpArgs false

theorem sq_len (m : Int) (f : Nat → Mat → Mat) (s : Int) (a : List Int) : (sqR m f s a).1.length ≤ 256 := by
  unfold sqR
  split
  · rename_i h
    obtain ⟨k, hk, hs⟩ := side_pow h.1
    split
    · rw [toL_len, hs, Int.toNat_natCast]
      have := (pow_side hk).2
      exact Nat.mul_le_mul this.1 this.1
    · simp
  · simp
theorem sq_e (m : Int) (f : Nat → Mat → Mat) (s : Int) (a : List Int) : (sqR m f s a).2 = 0 ∨ (sqR m f s a).2 = 1 ∨ (sqR m f s a).2 = 5 := by
  unfold sqR
  split
  · split <;> simp
  · simp

theorem forward_c (s : Int) (h1 : -9223372036854775808 ≤ s ∧ s ≤ 9223372036854775807) (a : List Int) (hn : a.length ≤ 5000) (L : List Int) (e : Int) (h : sqR 1099511627776 fwd s a = (L, e)) (H : AH) :
    ACall Try.prog 12 [.int .i64 s, .cs (iS .i64 a) a.length] H (fun y H' => y = .tup [.cs (iS .i64 L) L.length, .int .i64 e] ∧ H' = H) := by
  have := Forward_c s h1.1 h1.2 a (by omega) H
  rw [h] at this; exact this
theorem rforward_c (s : Int) (h1 : -9223372036854775808 ≤ s ∧ s ≤ 9223372036854775807) (a : List Int) (hn : a.length ≤ 5000) (L : List Int) (e : Int) (h : sqR 1099511627776 fwd s a = (L, e)) (H : AH) :
    ACall Try.prog 22 [.int .i64 s, .cs (iS .i64 a) a.length] H (fun y H' => y = .tup [.cs (iS .i64 L) L.length, .int .i64 e] ∧ H' = H) := by
  have := rForward_c s h1.1 h1.2 a (by omega) H
  rw [h] at this; exact this
theorem inverse_c (s : Int) (h1 : -9223372036854775808 ≤ s ∧ s ≤ 9223372036854775807) (a : List Int) (hn : a.length ≤ 5000) (L : List Int) (e : Int) (h : sqR 4398046511104 inv s a = (L, e)) (H : AH) :
    ACall Try.prog 23 [.int .i64 s, .cs (iS .i64 a) a.length] H (fun y H' => y = .tup [.cs (iS .i64 L) L.length, .int .i64 e] ∧ H' = H) := by
  have := Inverse_c s h1.1 h1.2 a (by omega) H
  rw [h] at this; exact this
theorem rinverse_c (s : Int) (h1 : -9223372036854775808 ≤ s ∧ s ≤ 9223372036854775807) (a : List Int) (hn : a.length ≤ 5000) (L : List Int) (e : Int) (h : sqR 4398046511104 inv s a = (L, e)) (H : AH) :
    ACall Try.prog 24 [.int .i64 s, .cs (iS .i64 a) a.length] H (fun y H' => y = .tup [.cs (iS .i64 L) L.length, .int .i64 e] ∧ H' = H) := by
  have := rInverse_c s h1.1 h1.2 a (by omega) H
  rw [h] at this; exact this

set_option maxHeartbeats 8000000 in
set_option maxRecDepth 8000 in
theorem WaveletForward_c (x0 : Int) (hx0 : -9223372036854775808 ≤ x0 ∧ x0 ≤ 9223372036854775807) (l1 : List Int) (hl1 : l1.length ≤ maxLen) (hr1 : ∀ n ∈ l1, -9223372036854775808 ≤ n ∧ n ≤ 9223372036854775807) (x2 : Int) (hx2 : -9223372036854775808 ≤ x2 ∧ x2 ≤ 9223372036854775807) (x3 : Int) (hx3 : -9223372036854775808 ≤ x3 ∧ x3 ≤ 9223372036854775807) :
    ACall Try.prog 6 [.int .i64 x0, .cs (iS .i64 l1) l1.length, .int .i64 x2, .int .i64 x3] (fun _ => none) (fun y _ => y = .bool true) := by
  obtain ⟨k, hk, sk⟩ := sides_k x0 hx0.1 hx0.2
  have hS := (pow_side hk).2
  have q1 := fun H => square_c (2 ^ k) (by omega) l1 hl1 1099511627776 (by omega) H
  have q2 := fun H => square_c (2 ^ k) (by omega) l1 hl1 300 (by omega) H
  obtain ⟨A, hA⟩ : ∃ A, A = lnL (2 ^ k * 2 ^ k) (sqV l1 1099511627776) := ⟨_, rfl⟩
  have lA : A.length = 2 ^ k * 2 ^ k := by rw [hA]; exact lnL_len _ _
  unfold iL at q1 q2
  rw [← hA, ← lA] at q1
  obtain ⟨B, hB⟩ : ∃ B, B = lnL (2 ^ k * 2 ^ k) (sqV l1 300) := ⟨_, rfl⟩
  have lB : B.length = 2 ^ k * 2 ^ k := by rw [hB]; exact lnL_len _ _
  rw [← hB, ← lB] at q2
  have hss : 2 ^ k * 2 ^ k ≤ 256 := Nat.mul_le_mul hS.1 hS.1
  have h11 : 1 ≤ 2 ^ k * 2 ^ k := Nat.mul_le_mul hS.2 hS.2
  have cast : ((2 ^ k : Nat) : Int) * ((2 ^ k : Nat) : Int) = ((2 ^ k * 2 ^ k : Nat) : Int) := (Int.natCast_mul _ _).symm
  -- the place
  have pb := tmod_bd x2 ((2 ^ k * 2 ^ k : Nat) - 1 : Int) (by omega)
  rw [show ((2 ^ k * 2 ^ k : Nat) - 1 : Int) + 1 = ((2 ^ k * 2 ^ k : Nat) : Int) by omega] at pb
  obtain ⟨p, hp, hpp⟩ : ∃ p : Nat, p < 2 ^ k * 2 ^ k ∧ (x2.tmod ((2 ^ k * 2 ^ k : Nat) : Int) + ((2 ^ k * 2 ^ k : Nat) : Int)).tmod ((2 ^ k * 2 ^ k : Nat) : Int) = p := by
    have h1 := Int.tmod_nonneg ((2 ^ k * 2 ^ k : Nat) : Int) (show 0 ≤ x2.tmod ((2 ^ k * 2 ^ k : Nat) : Int) + ((2 ^ k * 2 ^ k : Nat) : Int) by omega)
    have h2 := Int.tmod_lt_of_pos (x2.tmod ((2 ^ k * 2 ^ k : Nat) : Int) + ((2 ^ k * 2 ^ k : Nat) : Int)) (show 0 < ((2 ^ k * 2 ^ k : Nat) : Int) by omega)
    exact ⟨_, by omega, (Int.toNat_of_nonneg h1).symm⟩
  obtain ⟨W, hW⟩ : ∃ W, W = A.set p x3 := ⟨_, rfl⟩
  have lW : W.length = 2 ^ k * 2 ^ k := by rw [hW, List.length_set]; exact lA
  clear hA hB
  obtain ⟨H0, hH0⟩ : ∃ H0 : AH, H0 = fun _ => none := ⟨_, rfl⟩
  rw [← hH0]
  clear hH0
  generalize 2 ^ k = S at *
  refine ACall_of tt_ok (dok _) Try.func6 rfl (by decide) rfl ?_
  (repeat' ((conv => whnf); first | left | refine OpsA.cons ?_ | refine OpsA.nil ?_ | refine AWq.seq ?_ | refine AWq.region ?_ | refine AWq.cond ?_ | refine AWq.block ?_ | refine AWq.skip ?_ | refine AWq.ret ?_ | refine AWq.exit ?_ | refine AWq.loop ?_ | refine AWq.rangeFunc ?_ | refine DrawA.consD ?_ | refine DrawA.nil ?_ | refine DrawL.consD ?_ | refine DrawL.nil ?_ | refine AWq.draw (by decide +kernel) ?_ | (refine ACall.to (sk _) ?_) | (apply Exists.intro; apply And.intro; exact sk _) | (apply Exists.intro; apply Exists.intro; apply And.intro; exact sk _) | (refine Both.mk ?_ ?_ <;> intro hc <;> (first | exact Bool.noConfusion hc | exact absurd (by with_reducible rfl) hc | exact (hc : False).elim | exact absurd (by assumption) hc | exact absurd hc (by assumption) | (exfalso; omega) | exact absurd hc (by decide) | skip)) | (intro c hc; (try (simp only [AH.none_iff] at hc; repeat (have hn := hc.1; replace hc := hc.2))); (first | (refine i64_k hc ?_ ?_ ?_ ; omega; omega; (clear hc; intro hc; subst hc)) | (refine u64_k hc ?_ ?_ ?_ ; omega; omega; (clear hc; intro hc; subst hc)) | (refine u8_k hc ?_ ?_ ?_ ; omega; omega; (clear hc; intro hc; subst hc)) | subst hc | skip)) | (apply Exists.intro; apply And.intro; (focus (repeat (first | assumption | exact AH.set_same _ _ _ | ((first | refine AH.get_ne ?_ ?_ | refine AH.getd_ne ?_ ?_); (first | assumption | omega | exact Ne.symm (by assumption) | exact AH.ne_none (by assumption) (by assumption) | exact AH.none_ne (by assumption) (by assumption) | exact (AH.none_set (by assumption)).1 | exact Ne.symm (AH.none_set (by assumption)).1)))); done)) | (apply Exists.intro; apply And.intro; (try simp only [List.getElem?_drop, Nat.mul_one, Nat.add_zero, Nat.zero_add]); first | (refine u8s_get ?_; omega) | (refine iS_get ?_; omega) | assumption | rfl | fail) | (apply And.intro; (first | rfl | assumption | exact Nat.le_of_ble_eq_true rfl | omega | (simp <;> fail) | (simp <;> omega) | (focus (repeat' (first | exact one_u8s _ | exact one_iS _ _ | rfl | apply one_take | apply one_drop | apply one_append)); done) | fail)) | fail)) <;> (try (conv => whnf))
  iterate 3 (refine Then.mk ?_; (repeat' ((conv => whnf); first | left | refine OpsA.cons ?_ | refine OpsA.nil ?_ | refine AWq.seq ?_ | refine AWq.region ?_ | refine AWq.cond ?_ | refine AWq.block ?_ | refine AWq.skip ?_ | refine AWq.ret ?_ | refine AWq.exit ?_ | refine AWq.loop ?_ | refine AWq.rangeFunc ?_ | refine DrawA.consD ?_ | refine DrawA.nil ?_ | refine DrawL.consD ?_ | refine DrawL.nil ?_ | refine AWq.draw (by decide +kernel) ?_ | (refine ACall.to (sk _) ?_) | (refine ACall.to (q1 _) ?_) | (refine ACall.to (q2 _) ?_) | (apply Exists.intro; apply And.intro; exact sk _) | (apply Exists.intro; apply And.intro; exact q1 _) | (apply Exists.intro; apply And.intro; exact q2 _) | (apply Exists.intro; apply Exists.intro; apply And.intro; exact sk _) | (apply Exists.intro; apply Exists.intro; apply And.intro; exact q1 _) | (apply Exists.intro; apply Exists.intro; apply And.intro; exact q2 _) | (refine Both.mk ?_ ?_ <;> intro hc <;> (first | exact Bool.noConfusion hc | exact absurd (by with_reducible rfl) hc | exact (hc : False).elim | exact absurd (by assumption) hc | exact absurd hc (by assumption) | (exfalso; omega) | exact absurd hc (by decide) | skip)) | (intro c hc; (try (simp only [AH.none_iff] at hc; repeat (have hn := hc.1; replace hc := hc.2))); (first | (refine i64_k hc ?_ ?_ ?_ ; omega; omega; (clear hc; intro hc; subst hc)) | (refine u64_k hc ?_ ?_ ?_ ; omega; omega; (clear hc; intro hc; subst hc)) | (refine u8_k hc ?_ ?_ ?_ ; omega; omega; (clear hc; intro hc; subst hc)) | subst hc | skip)) | (apply Exists.intro; apply And.intro; (focus (repeat (first | assumption | exact AH.set_same _ _ _ | ((first | refine AH.get_ne ?_ ?_ | refine AH.getd_ne ?_ ?_); (first | assumption | omega | exact Ne.symm (by assumption) | exact AH.ne_none (by assumption) (by assumption) | exact AH.none_ne (by assumption) (by assumption) | exact (AH.none_set (by assumption)).1 | exact Ne.symm (AH.none_set (by assumption)).1)))); done)) | (apply Exists.intro; apply And.intro; (try simp only [List.getElem?_drop, Nat.mul_one, Nat.add_zero, Nat.zero_add]); first | (refine u8s_get ?_; omega) | (refine iS_get ?_; omega) | assumption | rfl | fail) | (apply And.intro; (first | rfl | assumption | exact Nat.le_of_ble_eq_true rfl | omega | (simp <;> fail) | (simp <;> omega) | (focus (repeat' (first | exact one_u8s _ | exact one_iS _ _ | rfl | apply one_take | apply one_drop | apply one_append)); done) | fail)) | fail)) <;> (try (conv => whnf)))
  refine Then.mk ?_
  (repeat' ((conv => whnf); first | refine Or.inr (Or.inl ?_) | refine OpsA.cons ?_ | refine OpsA.nil ?_ | refine AWq.seq ?_ | refine AWq.region ?_ | refine AWq.cond ?_ | refine AWq.block ?_ | refine AWq.skip ?_ | refine AWq.ret ?_ | refine AWq.exit ?_ | refine AWq.loop ?_ | refine AWq.rangeFunc ?_ | refine DrawA.consD ?_ | refine DrawA.nil ?_ | refine DrawL.consD ?_ | refine DrawL.nil ?_ | refine AWq.draw (by decide +kernel) ?_ | (refine Both.mk ?_ ?_ <;> intro hc <;> (first | exact Bool.noConfusion hc | exact absurd (by with_reducible rfl) hc | exact (hc : False).elim | exact absurd (by assumption) hc | exact absurd hc (by assumption) | (exfalso; omega) | exact absurd hc (by decide) | skip)) | (intro c hc; (try (simp only [AH.none_iff] at hc; repeat (have hn := hc.1; replace hc := hc.2))); (first | (refine i64_k hc ?_ ?_ ?_ ; omega; omega; (clear hc; intro hc; subst hc)) | (refine u64_k hc ?_ ?_ ?_ ; omega; omega; (clear hc; intro hc; subst hc)) | (refine u8_k hc ?_ ?_ ?_ ; omega; omega; (clear hc; intro hc; subst hc)) | subst hc | skip)) | (apply Exists.intro; apply And.intro; (focus (repeat (first | assumption | exact AH.set_same _ _ _ | ((first | refine AH.get_ne ?_ ?_ | refine AH.getd_ne ?_ ?_); (first | assumption | omega | exact Ne.symm (by assumption) | exact AH.ne_none (by assumption) (by assumption) | exact AH.none_ne (by assumption) (by assumption) | exact (AH.none_set (by assumption)).1 | exact Ne.symm (AH.none_set (by assumption)).1)))); done)) | (apply Exists.intro; apply And.intro; (try simp only [List.getElem?_drop, Nat.mul_one, Nat.add_zero, Nat.zero_add]); first | (refine u8s_get ?_; omega) | (refine iS_get ?_; omega) | assumption | rfl | fail) | (apply And.intro; (first | rfl | assumption | exact Nat.le_of_ble_eq_true rfl | omega | (simp <;> fail) | (simp <;> omega) | (focus (repeat' (first | exact one_u8s _ | exact one_iS _ _ | rfl | apply one_take | apply one_drop | apply one_append)); done) | fail)) | fail)) <;> (try (conv => whnf))
  have hcc : H0 c = none := by assumption
  have hcell : ∀ z : List AV, z = [] → z ++ iS .i64 A = iS .i64 A := fun z hz => by rw [hz]; rfl
  refine Then.mk (AWq.in ?_)
  refine AWp_less (AH.set H0 c (.row (iS .i64 A) 1)) (HLe.of_eq ?_) ?_
  · refine Eq.trans ?_ (AH.set_set _ _ _ _).symm
    exact congrArg (fun l => AH.set H0 c (.row l 1)) (hcell _ rfl).symm
  refine AWp_cut [(0, .int .i64 x0), (9, .int .i64 S), (10, .cs (iS .i64 A) A.length), (11, .cs (iS .i64 B) B.length), (12, .sl c 1 1 0 A.length none), (2, .int .i64 x2), (3, .int .i64 x3)] ⟨rfl, rfl, rfl, rfl, congrArg (fun x => AV.sl c 1 1 0 x none) (Nat.zero_add _), rfl, rfl, trivial⟩ (fun _ => rfl) (HLe.refl _) ?_
  refine AWp.of tt_ok (dok _) rfl ?_
  rw [← lA] at hp hpp pb
  have hsz : (iS .i64 A).length = A.length := iS_length _ _
  have lWA : W.length = A.length := by rw [lW, lA]
  (repeat' ((conv => whnf); first | left | refine OpsA.cons ?_ | refine OpsA.nil ?_ | refine AWq.seq ?_ | refine AWq.region ?_ | refine AWq.cond ?_ | refine AWq.block ?_ | refine AWq.skip ?_ | refine AWq.ret ?_ | refine AWq.exit ?_ | refine AWq.loop ?_ | refine AWq.rangeFunc ?_ | refine DrawA.consD ?_ | refine DrawA.nil ?_ | refine DrawL.consD ?_ | refine DrawL.nil ?_ | refine AWq.draw (by decide +kernel) ?_ | (refine Both.mk ?_ ?_ <;> intro hc <;> (first | exact Bool.noConfusion hc | exact absurd (by with_reducible rfl) hc | exact (hc : False).elim | exact absurd (by assumption) hc | exact absurd hc (by assumption) | (exfalso; omega) | exact absurd hc (by decide) | skip)) | (intro c hc; (try (simp only [AH.none_iff] at hc; repeat (have hn := hc.1; replace hc := hc.2))); (first | (refine i64_k hc ?_ ?_ ?_ ; omega; omega; (clear hc; intro hc; subst hc)) | (refine u64_k hc ?_ ?_ ?_ ; omega; omega; (clear hc; intro hc; subst hc)) | (refine u8_k hc ?_ ?_ ?_ ; omega; omega; (clear hc; intro hc; subst hc)) | subst hc | skip)) | (apply Exists.intro; apply And.intro; (focus (repeat (first | assumption | exact AH.set_same _ _ _ | ((first | refine AH.get_ne ?_ ?_ | refine AH.getd_ne ?_ ?_); (first | assumption | omega | exact Ne.symm (by assumption) | exact AH.ne_none (by assumption) (by assumption) | exact AH.none_ne (by assumption) (by assumption) | exact (AH.none_set (by assumption)).1 | exact Ne.symm (AH.none_set (by assumption)).1)))); done)) | (apply Exists.intro; apply And.intro; (try simp only [List.getElem?_drop, Nat.mul_one, Nat.add_zero, Nat.zero_add]); first | (refine u8s_get ?_; omega) | (refine iS_get ?_; omega) | assumption | rfl | fail) | (apply And.intro; (first | rfl | assumption | exact Nat.le_of_ble_eq_true rfl | omega | (simp <;> fail) | (simp <;> omega) | (focus (repeat' (first | exact one_u8s _ | exact one_iS _ _ | rfl | apply one_take | apply one_drop | apply one_append)); done) | fail)) | fail)) <;> (try (conv => whnf))
  refine Then.mk (AWq.in ?_)
  have hwr : wrA (iS .i64 A) (0 + ((x2.tmod A.length + A.length).tmod A.length).toNat * 1) [.int .i64 x3] = iS .i64 W := by
    rw [hpp, hW, Int.toNat_natCast, Nat.zero_add, Nat.mul_one, iS_wr hp]
  refine AWp_freeze1 (r := c) (v := 1) (es := 1) (n := W.length) (lim := none) (cells := iS .i64 W) 12 rfl ?_ ?_ (by simp) ?_
  · show AV.sl c 1 1 0 A.length none = _
    rw [lWA]
  · exact (AH.set_same _ _ _).trans (congrArg (fun l => some (AO.row l 1)) hwr)
  refine AWp_cut (H2 := H0) [(0, .int .i64 x0), (9, .int .i64 S), (10, .cs (iS .i64 A) A.length), (11, .cs (iS .i64 B) B.length), (12, .cs (iS .i64 W) W.length), (3, .int .i64 x3)] ⟨rfl, rfl, rfl, rfl, rfl, rfl, trivial⟩ (fun _ => rfl) (HLe.del _ (HLe.set_of _ _ (HLe.set_of _ _ (HLe.refl _) hcc) hcc) hcc) ?_
  clear hcell hwr hsz lWA hcc
  refine AWp_spare fun ρ1 h1 => ?_
  obtain ⟨nm, hn0⟩ : ∃ nm : Nat → Nat, ρ1 = nm 0 := ⟨fun c => ρ1, rfl⟩
  rw [hn0] at h1
  rw [hn0]
  refine AWp.of tt_ok (dok _) rfl ?_
  refine AWq.seq ?_
  refine AWq.drawL mo [(59, 0), (62, 0)] nm ?_ (by decide +kernel) ?_
  · intro a b ha hb hab
    simp at ha hb
    omega
  (repeat' ((conv => whnf); first | left | refine OpsA.cons ?_ | refine OpsA.nil ?_ | refine AWq.seq ?_ | refine AWq.region ?_ | refine AWq.cond ?_ | refine AWq.block ?_ | refine AWq.skip ?_ | refine AWq.ret ?_ | refine AWq.exit ?_ | refine AWq.loop ?_ | refine AWq.rangeFunc ?_ | refine DrawA.consD ?_ | refine DrawA.nil ?_ | refine DrawL.consD ?_ | refine DrawL.nil ?_ | refine AWq.draw (by decide +kernel) ?_ | (refine Both.mk ?_ ?_ <;> intro hc <;> (first | exact Bool.noConfusion hc | exact absurd (by with_reducible rfl) hc | exact (hc : False).elim | exact absurd (by assumption) hc | exact absurd hc (by assumption) | (exfalso; omega) | exact absurd hc (by decide) | skip)) | (intro c hc; (try (simp only [AH.none_iff] at hc; repeat (have hn := hc.1; replace hc := hc.2))); (first | (refine i64_k hc ?_ ?_ ?_ ; omega; omega; (clear hc; intro hc; subst hc)) | (refine u64_k hc ?_ ?_ ?_ ; omega; omega; (clear hc; intro hc; subst hc)) | (refine u8_k hc ?_ ?_ ?_ ; omega; omega; (clear hc; intro hc; subst hc)) | subst hc | skip)) | (apply Exists.intro; apply And.intro; (focus (repeat (first | assumption | exact AH.set_same _ _ _ | ((first | refine AH.get_ne ?_ ?_ | refine AH.getd_ne ?_ ?_); (first | assumption | omega | exact Ne.symm (by assumption) | exact AH.ne_none (by assumption) (by assumption) | exact AH.none_ne (by assumption) (by assumption) | exact (AH.none_set (by assumption)).1 | exact Ne.symm (AH.none_set (by assumption)).1)))); done)) | (apply Exists.intro; apply And.intro; (try simp only [List.getElem?_drop, Nat.mul_one, Nat.add_zero, Nat.zero_add]); first | (refine u8s_get ?_; omega) | (refine iS_get ?_; omega) | assumption | rfl | fail) | (apply And.intro; (first | rfl | assumption | exact Nat.le_of_ble_eq_true rfl | omega | (simp <;> fail) | (simp <;> omega) | (focus (repeat' (first | exact one_u8s _ | exact one_iS _ _ | rfl | apply one_take | apply one_drop | apply one_append)); done) | fail)) | fail)) <;> (try (conv => whnf))
  refine Then.mk (AWq.in ?_)
  obtain ⟨D, hD⟩ : ∃ D, D = A.take (A.length - 1) := ⟨_, rfl⟩
  obtain ⟨E, hE⟩ : ∃ E, E = B ++ [x3] := ⟨_, rfl⟩
  have lD : D.length = A.length - 1 := by rw [hD, List.length_take]; omega
  have lE : E.length = B.length + 1 := by rw [hE]; simp
  refine AWp_less (H0.set (nm 0) (.row (iS .i64 E) 2)) (HLe.of_eq ?_) ?_
  · rw [hE, ← iS_append]
    ((funext s; simp only [AH.set, AH.del]; repeat' split) <;> (first | rfl | (exfalso; omega)))
  refine AWp_freezeAt 13 4 (r := nm 0) (v := 2) (es := 1) (m := E.length) (lim := none) (cells := iS .i64 E) rfl rfl (by show some (AV.sl (nm 0) 2 1 0 (B.length + 1) none) = _; rw [lE]) (by (focus (repeat (first | assumption | exact AH.set_same _ _ _ | ((first | refine AH.get_ne ?_ ?_ | refine AH.getd_ne ?_ ?_); (first | assumption | omega | exact Ne.symm (by assumption) | exact AH.ne_none (by assumption) (by assumption) | exact AH.none_ne (by assumption) (by assumption) | exact (AH.none_set (by assumption)).1 | exact Ne.symm (AH.none_set (by assumption)).1)))); done)) (by simp) ?_
  obtain ⟨l, hl⟩ : ∃ l, l = [AV.cs (iS .i64 A) A.length, .cs (iS .i64 B) B.length, .cs (iS .i64 W) W.length, .cs (iS .i64 D) D.length, .cs (iS .i64 E) E.length] := ⟨_, rfl⟩
  refine AWp_cut (H2 := H0) [(0, .int .i64 x0), (9, .int .i64 S), (13, .cs l 5)] ⟨rfl, rfl, ?_, trivial⟩ (fun _ => rfl) (HLe.del _ (HLe.set_of _ _ (HLe.refl _) h1) h1) ?_
  · have hz : List.take (((A.length : Int) - 1).toNat * 1) (iS .i64 A) = iS .i64 D := by
      rw [hD, iS_take, Nat.mul_one, show ((A.length : Int) - 1).toNat = A.length - 1 by omega]
    have hz2 : ((A.length : Int) - 1).toNat = D.length := by omega
    show AV.cs [AV.cs (iS .i64 A) A.length, .cs (iS .i64 B) B.length, .cs (iS .i64 W) W.length, .cs (List.take (((A.length : Int) - 1).toNat * 1) (iS .i64 A)) (((A.length : Int) - 1).toNat), .cs _ _] 5 = _
    rw [hl, hz, hz2]
  have hcell : ∀ i : Nat, i < 5 → ∃ a : List Int, l[(i : Int).toNat]? = some (.cs (iS .i64 a) a.length) ∧ a.length ≤ 4098 := by
    intro i hi
    rcases (show i = 0 ∨ i = 1 ∨ i = 2 ∨ i = 3 ∨ i = 4 by omega) with rfl | rfl | rfl | rfl | rfl
    · exact ⟨A, by rw [hl]; rfl, by omega⟩
    · exact ⟨B, by rw [hl]; rfl, by omega⟩
    · exact ⟨W, by rw [hl]; rfl, by omega⟩
    · exact ⟨D, by rw [hl]; rfl, by omega⟩
    · exact ⟨E, by rw [hl]; rfl, by omega⟩
  have ll : l.length = 5 := by rw [hl]; rfl
  clear hl hn0
  refine AWp.of tt_ok (dok _) rfl ?_
  (repeat' ((conv => whnf); first | left | refine OpsA.cons ?_ | refine OpsA.nil ?_ | refine AWq.seq ?_ | refine AWq.region ?_ | refine AWq.cond ?_ | refine AWq.block ?_ | refine AWq.skip ?_ | refine AWq.ret ?_ | refine AWq.exit ?_ | refine AWq.loop ?_ | refine AWq.rangeFunc ?_ | refine DrawA.consD ?_ | refine DrawA.nil ?_ | refine DrawL.consD ?_ | refine DrawL.nil ?_ | refine AWq.draw (by decide +kernel) ?_ | (refine Both.mk ?_ ?_ <;> intro hc <;> (first | exact Bool.noConfusion hc | exact absurd (by with_reducible rfl) hc | exact (hc : False).elim | exact absurd (by assumption) hc | exact absurd hc (by assumption) | (exfalso; omega) | exact absurd hc (by decide) | skip)) | (intro c hc; (try (simp only [AH.none_iff] at hc; repeat (have hn := hc.1; replace hc := hc.2))); (first | (refine i64_k hc ?_ ?_ ?_ ; omega; omega; (clear hc; intro hc; subst hc)) | (refine u64_k hc ?_ ?_ ?_ ; omega; omega; (clear hc; intro hc; subst hc)) | (refine u8_k hc ?_ ?_ ?_ ; omega; omega; (clear hc; intro hc; subst hc)) | subst hc | skip)) | (apply Exists.intro; apply And.intro; (focus (repeat (first | assumption | exact AH.set_same _ _ _ | ((first | refine AH.get_ne ?_ ?_ | refine AH.getd_ne ?_ ?_); (first | assumption | omega | exact Ne.symm (by assumption) | exact AH.ne_none (by assumption) (by assumption) | exact AH.none_ne (by assumption) (by assumption) | exact (AH.none_set (by assumption)).1 | exact Ne.symm (AH.none_set (by assumption)).1)))); done)) | (apply Exists.intro; apply And.intro; (try simp only [List.getElem?_drop, Nat.mul_one, Nat.add_zero, Nat.zero_add]); first | (refine u8s_get ?_; omega) | (refine iS_get ?_; omega) | assumption | rfl | fail) | (apply And.intro; (first | rfl | assumption | exact Nat.le_of_ble_eq_true rfl | omega | (simp <;> fail) | (simp <;> omega) | (focus (repeat' (first | exact one_u8s _ | exact one_iS _ _ | rfl | apply one_take | apply one_drop | apply one_append)); done) | fail)) | fail)) <;> (try (conv => whnf))
  refine Then.mk (AWq.in ?_)
  obtain ⟨sd, hsd⟩ : ∃ sd, sd = [AV.int .i64 S, AV.int .i64 x0, AV.int .i64 (S + 1)] := ⟨_, rfl⟩
  refine AWp_cut (H2 := H0) [(13, .cs l 5), (14, .cs sd 3)] ⟨rfl, by rw [hsd]; rfl, trivial⟩ (fun _ => rfl) (HLe.refl _) ?_
  have hside : ∀ i : Nat, i < 3 → ∃ s : Int, sd[(i : Int).toNat]? = some (.int .i64 s) ∧ -9223372036854775808 ≤ s ∧ s ≤ 9223372036854775807 := by
    intro i hi
    rcases (show i = 0 ∨ i = 1 ∨ i = 2 by omega) with rfl | rfl | rfl
    · exact ⟨S, by rw [hsd]; rfl, by omega⟩
    · exact ⟨x0, by rw [hsd]; rfl, by omega⟩
    · exact ⟨S + 1, by rw [hsd]; rfl, by omega⟩
  have lsd : sd.length = 3 := by rw [hsd]; rfl
  clear hsd
  refine AWp.of tt_ok (dok _) rfl ?_
  (repeat' ((conv => whnf); first | refine Then.mk ?_ | left | refine OpsA.cons ?_ | refine OpsA.nil ?_ | refine AWq.seq ?_ | refine AWq.region ?_ | refine AWq.cond ?_ | refine AWq.block ?_ | refine AWq.skip ?_ | refine AWq.ret ?_ | refine AWq.exit ?_ | refine AWq.loop ?_ | refine AWq.rangeFunc ?_ | refine DrawA.consD ?_ | refine DrawA.nil ?_ | refine DrawL.consD ?_ | refine DrawL.nil ?_ | refine AWq.draw (by decide +kernel) ?_ | (refine Both.mk ?_ ?_ <;> intro hc <;> (first | exact Bool.noConfusion hc | exact absurd (by with_reducible rfl) hc | exact (hc : False).elim | exact absurd (by assumption) hc | exact absurd hc (by assumption) | (exfalso; omega) | exact absurd hc (by decide) | skip)) | (intro c hc; (try (simp only [AH.none_iff] at hc; repeat (have hn := hc.1; replace hc := hc.2))); (first | (refine i64_k hc ?_ ?_ ?_ ; omega; omega; (clear hc; intro hc; subst hc)) | (refine u64_k hc ?_ ?_ ?_ ; omega; omega; (clear hc; intro hc; subst hc)) | (refine u8_k hc ?_ ?_ ?_ ; omega; omega; (clear hc; intro hc; subst hc)) | subst hc | skip)) | (apply Exists.intro; apply And.intro; (focus (repeat (first | assumption | exact AH.set_same _ _ _ | ((first | refine AH.get_ne ?_ ?_ | refine AH.getd_ne ?_ ?_); (first | assumption | omega | exact Ne.symm (by assumption) | exact AH.ne_none (by assumption) (by assumption) | exact AH.none_ne (by assumption) (by assumption) | exact (AH.none_set (by assumption)).1 | exact Ne.symm (AH.none_set (by assumption)).1)))); done)) | (apply Exists.intro; apply And.intro; (try simp only [List.getElem?_drop, Nat.mul_one, Nat.add_zero, Nat.zero_add]); first | (refine u8s_get ?_; omega) | (refine iS_get ?_; omega) | assumption | rfl | fail) | (apply And.intro; (first | rfl | assumption | exact Nat.le_of_ble_eq_true rfl | omega | (simp <;> fail) | (simp <;> omega) | (focus (repeat' (first | exact one_u8s _ | exact one_iS _ _ | rfl | apply one_take | apply one_drop | apply one_append)); done) | fail)) | fail)) <;> (try (conv => whnf))
  refine AWp_loop (σ := Nat) (8 :: 15 :: 16 :: 17 :: 18 :: 19 :: 20 :: 21 :: 22 :: 23 :: 24 :: 69 :: 70 :: 71 :: 72 :: 73 :: 74 :: 75 :: 76 :: 77 :: 78 :: 79 :: 80 :: 81 :: 82 :: 83 :: 84 :: 85 :: 86 :: 87 :: 88 :: 89 :: 90 :: 91 :: 92 :: 93 :: 94 :: 95 :: 96 :: 97 :: 98 :: 99 :: 100 :: 101 :: 102 :: 103 :: 104 :: 105 :: 106 :: 107 :: 108 :: 109 :: 110 :: 111 :: 112 :: 113 :: 114 :: 115 :: 116 :: 117 :: 118 :: 119 :: 120 :: 121 :: 122 :: 123 :: 124 :: 125 :: 126 :: 127 :: 128 :: 129 :: 130 :: 131 :: 132 :: 133 :: 134 :: 135 :: 136 :: 137 :: 138 :: 139 :: 140 :: 141 :: 142 :: 143 :: 144 :: 145 :: 146 :: []) (fun i => [(15, .int .i64 i)]) (fun _ => H0) (fun i => i ≤ 5) (fun i => 5 - i) 0 rfl ?_ ?_ ?_ ?_
  · exact Nat.zero_le _
  · exact ⟨rfl, trivial⟩
  · exact HLe.refl _
  · rintro i hi
    dsimp only at hi ⊢
    refine AWp.of tt_ok (dok _) rfl ?_
    by_cases hil : i < 5
    · obtain ⟨a, hla, la⟩ := hcell i hil
      (repeat' ((conv => whnf); first | refine Then.mk ?_ | left | refine OpsA.cons ?_ | refine OpsA.nil ?_ | refine AWq.seq ?_ | refine AWq.region ?_ | refine AWq.cond ?_ | refine AWq.block ?_ | refine AWq.skip ?_ | refine AWq.ret ?_ | refine AWq.exit ?_ | refine AWq.loop ?_ | refine AWq.rangeFunc ?_ | refine DrawA.consD ?_ | refine DrawA.nil ?_ | refine DrawL.consD ?_ | refine DrawL.nil ?_ | refine AWq.draw (by decide +kernel) ?_ | (refine Both.mk ?_ ?_ <;> intro hc <;> (first | exact Bool.noConfusion hc | exact absurd (by with_reducible rfl) hc | exact (hc : False).elim | exact absurd (by assumption) hc | exact absurd hc (by assumption) | (exfalso; omega) | exact absurd hc (by decide) | skip)) | (intro c hc; (try (simp only [AH.none_iff] at hc; repeat (have hn := hc.1; replace hc := hc.2))); (first | (refine i64_k hc ?_ ?_ ?_ ; omega; omega; (clear hc; intro hc; subst hc)) | (refine u64_k hc ?_ ?_ ?_ ; omega; omega; (clear hc; intro hc; subst hc)) | (refine u8_k hc ?_ ?_ ?_ ; omega; omega; (clear hc; intro hc; subst hc)) | subst hc | skip)) | (apply Exists.intro; apply And.intro; (focus (repeat (first | assumption | exact AH.set_same _ _ _ | ((first | refine AH.get_ne ?_ ?_ | refine AH.getd_ne ?_ ?_); (first | assumption | omega | exact Ne.symm (by assumption) | exact AH.ne_none (by assumption) (by assumption) | exact AH.none_ne (by assumption) (by assumption) | exact (AH.none_set (by assumption)).1 | exact Ne.symm (AH.none_set (by assumption)).1)))); done)) | (apply Exists.intro; apply And.intro; (try simp only [List.getElem?_drop, Nat.mul_one, Nat.add_zero, Nat.zero_add]); first | (refine u8s_get ?_; omega) | (refine iS_get ?_; omega) | assumption | rfl | fail) | (apply And.intro; (first | rfl | assumption | exact Nat.le_of_ble_eq_true rfl | omega | (simp <;> fail) | (simp <;> omega) | (focus (repeat' (first | exact one_u8s _ | exact one_iS _ _ | rfl | apply one_take | apply one_drop | apply one_append)); done) | fail)) | fail)) <;> (try (conv => whnf))
      refine AWp_loop (σ := Nat) (8 :: 16 :: 17 :: 18 :: 19 :: 20 :: 21 :: 22 :: 23 :: 24 :: 75 :: 76 :: 77 :: 78 :: 79 :: 80 :: 81 :: 82 :: 83 :: 84 :: 85 :: 86 :: 87 :: 88 :: 89 :: 90 :: 91 :: 92 :: 93 :: 94 :: 95 :: 96 :: 97 :: 98 :: 99 :: 100 :: 101 :: 102 :: 103 :: 104 :: 105 :: 106 :: 107 :: 108 :: 109 :: 110 :: 111 :: 112 :: 113 :: 114 :: 115 :: 116 :: 117 :: 118 :: 119 :: 120 :: 121 :: 122 :: 123 :: 124 :: 125 :: 126 :: 127 :: 128 :: 129 :: 130 :: 131 :: 132 :: 133 :: 134 :: 135 :: 136 :: 137 :: 138 :: 139 :: 140 :: 141 :: 142 :: 143 :: 144 :: 145 :: 146 :: []) (fun j => [(16, .int .i64 j)]) (fun _ => H0) (fun j => j ≤ 3) (fun j => 3 - j) 0 rfl ?_ ?_ ?_ ?_
      · exact Nat.zero_le _
      · exact ⟨rfl, trivial⟩
      · exact HLe.refl _
      · rintro j hj
        dsimp only at hj ⊢
        refine AWp.of tt_ok (dok _) rfl ?_
        by_cases hjl : j < 3
        · obtain ⟨s, hls, hs⟩ := hside j hjl
          obtain ⟨L1, e1, h1⟩ : ∃ L e, sqR 1099511627776 fwd s a = (L, e) := ⟨_, _, rfl⟩
          obtain ⟨L2, e2, h2⟩ : ∃ L e, sqR 4398046511104 inv s a = (L, e) := ⟨_, _, rfl⟩
          have ll1 : L1.length ≤ 256 := by have := sq_len 1099511627776 fwd s a; rw [h1] at this; exact this
          have ll2 : L2.length ≤ 256 := by have := sq_len 4398046511104 inv s a; rw [h2] at this; exact this
          have he1 := sq_e 1099511627776 fwd s a
          rw [h1] at he1
          have he2 := sq_e 4398046511104 inv s a
          rw [h2] at he2
          have s1 := fun H => forward_c s hs a (by omega) L1 e1 h1 H
          have s2 := fun H => rforward_c s hs a (by omega) L1 e1 h1 H
          have b1 := fun H => inverse_c s hs a (by omega) L2 e2 h2 H
          have b2 := fun H => rinverse_c s hs a (by omega) L2 e2 h2 H
          have t1 := fun H => same_t L1 (by omega) H
          have t2 := fun H => same_t L2 (by omega) H
          (repeat' ((conv => whnf); first | refine Then.mk ?_ | left | refine OpsA.cons ?_ | refine OpsA.nil ?_ | refine AWq.seq ?_ | refine AWq.region ?_ | refine AWq.cond ?_ | refine AWq.block ?_ | refine AWq.skip ?_ | refine AWq.ret ?_ | refine AWq.exit ?_ | refine AWq.loop ?_ | refine AWq.rangeFunc ?_ | refine DrawA.consD ?_ | refine DrawA.nil ?_ | refine DrawL.consD ?_ | refine DrawL.nil ?_ | refine AWq.draw (by decide +kernel) ?_ | (refine ACall.to (s1 _) ?_) | (refine ACall.to (s2 _) ?_) | (refine ACall.to (b1 _) ?_) | (refine ACall.to (b2 _) ?_) | (refine ACall.to (t1 _) ?_) | (refine ACall.to (t2 _) ?_) | (apply Exists.intro; apply And.intro; exact s1 _) | (apply Exists.intro; apply And.intro; exact s2 _) | (apply Exists.intro; apply And.intro; exact b1 _) | (apply Exists.intro; apply And.intro; exact b2 _) | (apply Exists.intro; apply And.intro; exact t1 _) | (apply Exists.intro; apply And.intro; exact t2 _) | (apply Exists.intro; apply Exists.intro; apply And.intro; exact s1 _) | (apply Exists.intro; apply Exists.intro; apply And.intro; exact s2 _) | (apply Exists.intro; apply Exists.intro; apply And.intro; exact b1 _) | (apply Exists.intro; apply Exists.intro; apply And.intro; exact b2 _) | (apply Exists.intro; apply Exists.intro; apply And.intro; exact t1 _) | (apply Exists.intro; apply Exists.intro; apply And.intro; exact t2 _) | (refine Both.mk ?_ ?_ <;> intro hc <;> (first | exact Bool.noConfusion hc | exact absurd (by with_reducible rfl) hc | exact (hc : False).elim | exact absurd (by assumption) hc | exact absurd hc (by assumption) | (exfalso; omega) | exact absurd hc (by decide) | skip)) | (intro c hc; (try (simp only [AH.none_iff] at hc; repeat (have hn := hc.1; replace hc := hc.2))); (first | (refine i64_k hc ?_ ?_ ?_ ; omega; omega; (clear hc; intro hc; subst hc)) | (refine u64_k hc ?_ ?_ ?_ ; omega; omega; (clear hc; intro hc; subst hc)) | (refine u8_k hc ?_ ?_ ?_ ; omega; omega; (clear hc; intro hc; subst hc)) | subst hc | skip)) | (apply Exists.intro; apply And.intro; (focus (repeat (first | assumption | exact AH.set_same _ _ _ | ((first | refine AH.get_ne ?_ ?_ | refine AH.getd_ne ?_ ?_); (first | assumption | omega | exact Ne.symm (by assumption) | exact AH.ne_none (by assumption) (by assumption) | exact AH.none_ne (by assumption) (by assumption) | exact (AH.none_set (by assumption)).1 | exact Ne.symm (AH.none_set (by assumption)).1)))); done)) | (apply Exists.intro; apply And.intro; (try simp only [List.getElem?_drop, Nat.mul_one, Nat.add_zero, Nat.zero_add]); first | (refine u8s_get ?_; omega) | (refine iS_get ?_; omega) | assumption | rfl | fail) | (apply And.intro; (first | rfl | assumption | exact Nat.le_of_ble_eq_true rfl | omega | (simp <;> fail) | (simp <;> omega) | (focus (repeat' (first | exact one_u8s _ | exact one_iS _ _ | rfl | apply one_take | apply one_drop | apply one_append)); done) | fail)) | fail)) <;> (try (conv => whnf))
          exact ⟨j + 1, by omega, by omega, ⟨congrArg (AV.int .i64) (by omega), trivial⟩, HLe.refl _⟩
        · (repeat' ((conv => whnf); first | refine Then.mk ?_ | left | refine OpsA.cons ?_ | refine OpsA.nil ?_ | refine AWq.seq ?_ | refine AWq.region ?_ | refine AWq.cond ?_ | refine AWq.block ?_ | refine AWq.skip ?_ | refine AWq.ret ?_ | refine AWq.exit ?_ | refine AWq.loop ?_ | refine AWq.rangeFunc ?_ | refine DrawA.consD ?_ | refine DrawA.nil ?_ | refine DrawL.consD ?_ | refine DrawL.nil ?_ | refine AWq.draw (by decide +kernel) ?_ | (refine Both.mk ?_ ?_ <;> intro hc <;> (first | exact Bool.noConfusion hc | exact absurd (by with_reducible rfl) hc | exact (hc : False).elim | exact absurd (by assumption) hc | exact absurd hc (by assumption) | (exfalso; omega) | exact absurd hc (by decide) | skip)) | (intro c hc; (try (simp only [AH.none_iff] at hc; repeat (have hn := hc.1; replace hc := hc.2))); (first | (refine i64_k hc ?_ ?_ ?_ ; omega; omega; (clear hc; intro hc; subst hc)) | (refine u64_k hc ?_ ?_ ?_ ; omega; omega; (clear hc; intro hc; subst hc)) | (refine u8_k hc ?_ ?_ ?_ ; omega; omega; (clear hc; intro hc; subst hc)) | subst hc | skip)) | (apply Exists.intro; apply And.intro; (focus (repeat (first | assumption | exact AH.set_same _ _ _ | ((first | refine AH.get_ne ?_ ?_ | refine AH.getd_ne ?_ ?_); (first | assumption | omega | exact Ne.symm (by assumption) | exact AH.ne_none (by assumption) (by assumption) | exact AH.none_ne (by assumption) (by assumption) | exact (AH.none_set (by assumption)).1 | exact Ne.symm (AH.none_set (by assumption)).1)))); done)) | (apply Exists.intro; apply And.intro; (try simp only [List.getElem?_drop, Nat.mul_one, Nat.add_zero, Nat.zero_add]); first | (refine u8s_get ?_; omega) | (refine iS_get ?_; omega) | assumption | rfl | fail) | (apply And.intro; (first | rfl | assumption | exact Nat.le_of_ble_eq_true rfl | omega | (simp <;> fail) | (simp <;> omega) | (focus (repeat' (first | exact one_u8s _ | exact one_iS _ _ | rfl | apply one_take | apply one_drop | apply one_append)); done) | fail)) | fail)) <;> (try (conv => whnf))
          exact ⟨i + 1, by omega, by omega, ⟨congrArg (AV.int .i64) (by omega), trivial⟩, HLe.refl _⟩
    · (repeat' ((conv => whnf); first | refine Then.mk ?_ | left | refine OpsA.cons ?_ | refine OpsA.nil ?_ | refine AWq.seq ?_ | refine AWq.region ?_ | refine AWq.cond ?_ | refine AWq.block ?_ | refine AWq.skip ?_ | refine AWq.ret ?_ | refine AWq.exit ?_ | refine AWq.loop ?_ | refine AWq.rangeFunc ?_ | refine DrawA.consD ?_ | refine DrawA.nil ?_ | refine DrawL.consD ?_ | refine DrawL.nil ?_ | refine AWq.draw (by decide +kernel) ?_ | (refine ACall.to (lives_c _) ?_) | (apply Exists.intro; apply And.intro; exact lives_c _) | (apply Exists.intro; apply Exists.intro; apply And.intro; exact lives_c _) | (refine Both.mk ?_ ?_ <;> intro hc <;> (first | exact Bool.noConfusion hc | exact absurd (by with_reducible rfl) hc | exact (hc : False).elim | exact absurd (by assumption) hc | exact absurd hc (by assumption) | (exfalso; omega) | exact absurd hc (by decide) | skip)) | (intro c hc; (try (simp only [AH.none_iff] at hc; repeat (have hn := hc.1; replace hc := hc.2))); (first | (refine i64_k hc ?_ ?_ ?_ ; omega; omega; (clear hc; intro hc; subst hc)) | (refine u64_k hc ?_ ?_ ?_ ; omega; omega; (clear hc; intro hc; subst hc)) | (refine u8_k hc ?_ ?_ ?_ ; omega; omega; (clear hc; intro hc; subst hc)) | subst hc | skip)) | (apply Exists.intro; apply And.intro; (focus (repeat (first | assumption | exact AH.set_same _ _ _ | ((first | refine AH.get_ne ?_ ?_ | refine AH.getd_ne ?_ ?_); (first | assumption | omega | exact Ne.symm (by assumption) | exact AH.ne_none (by assumption) (by assumption) | exact AH.none_ne (by assumption) (by assumption) | exact (AH.none_set (by assumption)).1 | exact Ne.symm (AH.none_set (by assumption)).1)))); done)) | (apply Exists.intro; apply And.intro; (try simp only [List.getElem?_drop, Nat.mul_one, Nat.add_zero, Nat.zero_add]); first | (refine u8s_get ?_; omega) | (refine iS_get ?_; omega) | assumption | rfl | fail) | (apply And.intro; (first | rfl | assumption | exact Nat.le_of_ble_eq_true rfl | omega | (simp <;> fail) | (simp <;> omega) | (focus (repeat' (first | exact one_u8s _ | exact one_iS _ _ | rfl | apply one_take | apply one_drop | apply one_append)); done) | fail)) | fail)) <;> (try (conv => whnf))
end Go.Proofs.Ytajmabnnaidhkaa
