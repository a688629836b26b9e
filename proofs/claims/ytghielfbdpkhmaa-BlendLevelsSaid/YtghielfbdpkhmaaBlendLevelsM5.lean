/- For the law BlendLevels, part 5 of 6: the frame of the walk, the walks of the functions, the plain law, the row. No conditions. -/
import Derived.Test.YtghielfbdpkhmaaBlendLevelsM4
/- Tiles: Empty, its rows handed out. -/
namespace Go.Proofs.Ytghielfbdpkhmaa
open Go.Fw Go
set_option linter.unusedVariables false
set_option linter.unusedSimpArgs false

set_option maxHeartbeats 8000000 in
set_option maxRecDepth 8000 in
theorem empty_r (n : Nat) (h1 : 1 ≤ (n : Int) ∧ (n : Int) ≤ 4) (H : AH) : ACall Try.prog 40 [.int .i64 n] H (fun z H' => ∃ q1 q2 v1 v2, EmR H H' q1 q2 v1 v2 n ∧ z = .tup [.agg [.int .i64 n, .sl q1 v1 1 0 256 none, .sl q2 v2 1 0 (256 * n) none], .int .i64 0]) := by
  have b0 := fun H => btw_t (n : Int) 1 4 h1 H
  have rp := fun H => Repeat_c (-1) 256 (by decide) (by decide) H
  refine ACall.told ?_
  refine ACall_of tt_ok (dok _) Try.func40 rfl (by decide) rfl ?_
  (repeat' ((conv => whnf); first | refine Then.mk ?_ | refine OpsA.cons ?_ | refine OpsA.nil ?_ | refine AWq.seq ?_ | refine AWq.region ?_ | refine AWq.cond ?_ | refine AWq.skip ?_ | refine AWq.ret ?_ | (refine Both.mk ?_ ?_ <;> intro hc <;> (first | exact Bool.noConfusion hc | skip)) | (intro c hc; (try (simp only [AH.none_iff] at hc; repeat (have hn := hc.1; replace hc := hc.2))); (first | (refine i64_k hc ?_ ?_ ?_ ; omega; omega; (clear hc; intro hc; subst hc)) | skip)) | (apply Exists.intro; apply And.intro; (first | (focus (repeat (first | (with_reducible assumption) | (with_reducible exact AH.set_same _ _ _) | ((first | refine AH.get_ne ?_ ?_); (first | (with_reducible assumption) | exact Ne.symm (by with_reducible assumption))))); done))) | (apply Exists.intro; apply And.intro; first | (with_reducible assumption) | ((try simp only [List.getElem?_drop, Nat.mul_one, Nat.add_zero, Nat.zero_add]); first | (with_reducible assumption) | rfl)) | (apply Exists.intro; apply And.intro; (focus (intro G; ((conv => whnf); (try left); (conv => whnf); first | exact And.intro rfl rfl)))) | (apply And.intro; (first | rfl | (with_reducible assumption) | exact Nat.le_of_ble_eq_true rfl)) | (refine ACall.to (b0 _) ?_))) <;> (try (conv => whnf))
  (obtain ⟨t2, hq_⟩ : ∃ t2, t2 = c := ⟨_, rfl⟩); subst hq_
  have h2 : H t2 = none := by assumption
  refine AWq.in ?_
  refine AWp_spare fun q1 hq1 => ?_
  refine AWp_spare fun q2 hq2 => ?_
  refine AWp.of tt_ok (dok _) rfl ?_
  obtain ⟨nm, k0, k1, k2⟩ : ∃ nm : Nat → Nat, nm 0 = t2 ∧ nm 1 = q1 ∧ nm 2 = q2 := ⟨fun k => if k = 0 then t2 else if k = 1 then q1 else q2, rfl, rfl, rfl⟩
  subst k0 k1 k2
  have n10 : nm 1 ≠ nm 0 := (AH.none_set hq1).1
  have n21 : nm 2 ≠ nm 1 := (AH.none_set hq2).1
  have n20 : nm 2 ≠ nm 0 := (AH.none_set (AH.none_set hq2).2).1
  refine AWq.drawK mo [(2, 0), (10, 1), (13, 2)] nm ?_ (by decide +kernel) ?_
  · intro a b ha hb hab
    simp at ha hb
    rcases ha with rfl | rfl | rfl <;> rcases hb with rfl | rfl | rfl <;> first | rfl | exact absurd hab n10 | exact absurd hab (Ne.symm n10) | exact absurd hab n21 | exact absurd hab (Ne.symm n21) | exact absurd hab n20 | exact absurd hab (Ne.symm n20)
  (repeat' ((conv => whnf); first | refine DrawK.consD ?_ | refine DrawK.nil ?_ | refine Then.mk ?_ | refine OpsA.cons ?_ | refine OpsA.nil ?_ | refine AWq.seq ?_ | refine AWq.region ?_ | refine AWq.cond ?_ | refine AWq.skip ?_ | refine AWq.ret ?_ | (refine Both.mk ?_ ?_ <;> intro hc <;> (first | exact Bool.noConfusion hc | skip)) | (intro c hc; (try (simp only [AH.none_iff] at hc; repeat (have hn := hc.1; replace hc := hc.2))); (first | (refine i64_k hc ?_ ?_ ?_ ; omega; omega; (clear hc; intro hc; subst hc)) | skip)) | (apply Exists.intro; apply And.intro; (first | (focus (repeat (first | (with_reducible assumption) | (with_reducible exact AH.set_same _ _ _) | ((first | refine AH.get_ne ?_ ?_); (first | (with_reducible assumption) | exact Ne.symm (by with_reducible assumption))))); done))) | (apply Exists.intro; apply And.intro; first | (with_reducible assumption) | ((try simp only [List.getElem?_drop, Nat.mul_one, Nat.add_zero, Nat.zero_add]); first | (with_reducible assumption) | rfl)) | (apply Exists.intro; apply And.intro; (focus (intro G; ((conv => whnf); (try left); (conv => whnf); first | exact And.intro rfl rfl)))) | (apply And.intro; (first | rfl | (with_reducible assumption) | exact Nat.le_of_ble_eq_true rfl)) | (refine ACall.to (b0 _) ?_))) <;> (try (conv => whnf))
  refine Or.inr ⟨dL 256 fun _ => -1, 256, 1, rfl, fun G => ?_, ?_⟩
  · exact (rp G).mono (by rintro y H' ⟨q, hq, rfl, rfl⟩; exact ⟨q, hq, rfl, rfl⟩)
  (repeat' ((conv => whnf); first | refine DrawK.consD ?_ | refine DrawK.nil ?_ | refine Then.mk ?_ | refine OpsA.cons ?_ | refine OpsA.nil ?_ | refine AWq.seq ?_ | refine AWq.region ?_ | refine AWq.cond ?_ | refine AWq.skip ?_ | refine AWq.ret ?_ | (refine Both.mk ?_ ?_ <;> intro hc <;> (first | exact Bool.noConfusion hc | skip)) | (intro c hc; (try (simp only [AH.none_iff] at hc; repeat (have hn := hc.1; replace hc := hc.2))); (first | (refine i64_k hc ?_ ?_ ?_ ; omega; omega; (clear hc; intro hc; subst hc)) | skip)) | (apply Exists.intro; apply And.intro; (first | (focus (repeat (first | (with_reducible assumption) | (with_reducible exact AH.set_same _ _ _) | ((first | refine AH.get_ne ?_ ?_); (first | (with_reducible assumption) | exact Ne.symm (by with_reducible assumption))))); done))) | (apply Exists.intro; apply And.intro; first | (with_reducible assumption) | ((try simp only [List.getElem?_drop, Nat.mul_one, Nat.add_zero, Nat.zero_add]); first | (with_reducible assumption) | rfl)) | (apply Exists.intro; apply And.intro; (focus (intro G; ((conv => whnf); (try left); (conv => whnf); first | exact And.intro rfl rfl)))) | (apply And.intro; (first | rfl | (with_reducible assumption) | exact Nat.le_of_ble_eq_true rfl)) | (refine ACall.to (b0 _) ?_))) <;> (try (conv => whnf))
  refine Or.inr ⟨(List.replicate (256 * (n : Int)).toNat [AV.int .i64 0]).flatten, (256 * (n : Int)).toNat, 1, rfl, fun G => ?_, ?_⟩
  · exact ⟨by omega, Int.le_refl _, by omega, fun r hr => ⟨r, hr, rfl, rfl⟩⟩
  (repeat' ((conv => whnf); first | refine DrawK.consD ?_ | refine DrawK.nil ?_ | refine Then.mk ?_ | refine OpsA.cons ?_ | refine OpsA.nil ?_ | refine AWq.seq ?_ | refine AWq.region ?_ | refine AWq.cond ?_ | refine AWq.skip ?_ | refine AWq.ret ?_ | (refine Both.mk ?_ ?_ <;> intro hc <;> (first | exact Bool.noConfusion hc | skip)) | (intro c hc; (try (simp only [AH.none_iff] at hc; repeat (have hn := hc.1; replace hc := hc.2))); (first | (refine i64_k hc ?_ ?_ ?_ ; omega; omega; (clear hc; intro hc; subst hc)) | skip)) | (apply Exists.intro; apply And.intro; (first | (focus (repeat (first | (with_reducible assumption) | (with_reducible exact AH.set_same _ _ _) | ((first | refine AH.get_ne ?_ ?_); (first | (with_reducible assumption) | exact Ne.symm (by with_reducible assumption))))); done))) | (apply Exists.intro; apply And.intro; first | (with_reducible assumption) | ((try simp only [List.getElem?_drop, Nat.mul_one, Nat.add_zero, Nat.zero_add]); first | (with_reducible assumption) | rfl)) | (apply Exists.intro; apply And.intro; (focus (intro G; ((conv => whnf); (try left); (conv => whnf); first | exact And.intro rfl rfl)))) | (apply And.intro; (first | rfl | (with_reducible assumption) | exact Nat.le_of_ble_eq_true rfl)) | (refine ACall.to (b0 _) ?_))) <;> (try (conv => whnf))
  have hqa : H (nm 1) = none := (AH.none_set hq1).2
  have hqb : H (nm 2) = none := (AH.none_set (AH.none_set hq2).2).2
  rw [show (256 * (n : Int)).toNat = 256 * n by omega, show (List.replicate (256 * n) [AV.int .i64 0]).flatten = iS .i64 (emP n) from dL_zero _]
  refine ⟨_, (AH.set H (nm 1) (.row (iS .i64 emL) 1)).set (nm 2) (.row (iS .i64 (emP n)) 1), AVle.refl _, ⟨fun r x hr => ?_⟩, nm 1, nm 2, 1, 1, ⟨hqa, hqb, Ne.symm n21, rfl⟩, rfl⟩
  have m20 := Ne.symm n20
  have m10 := Ne.symm n10
  by_cases e2 : r = nm 2
  · subst e2
    rw [AH.set_same] at hr
    rw [AH.set_ne _ _ n20, AH.set_same]; exact hr
  · rw [AH.set_ne _ _ e2] at hr
    by_cases e1 : r = nm 1
    · subst e1
      rw [AH.set_same] at hr
      rw [AH.set_ne _ _ n10, AH.set_ne _ _ e2, AH.set_same]; exact hr
    · rw [AH.set_ne _ _ e1] at hr
      have e0 : r ≠ nm 0 := fun e => by rw [e, h2] at hr; cases hr
      rw [AH.set_ne _ _ e0, AH.set_ne _ _ e2, AH.set_ne _ _ e1, AH.set_ne _ _ e2, AH.set_ne _ _ e1, AH.set_ne _ _ e0]; exact hr
end Go.Proofs.Ytghielfbdpkhmaa
/- The walk of blend.Shrink. -/
namespace Go.Proofs.Ytghielfbdpkhmaa
open Go.Fw Go
set_option linter.unusedVariables false
set_option linter.unusedSimpArgs false

set_option maxHeartbeats 8000000 in
set_option maxRecDepth 8000 in
theorem shrink_ok (n : Nat) (h1 : 1 ≤ (n : Int) ∧ (n : Int) ≤ 4) (T : Nat → Tl) (hT : ∀ q, q < 4 → (T q).Fit) (hg : ∀ q, q < 4 → goodT n (T q)) (H : AH) :
    ACall Try.prog 44 [.int .i64 n, .agg (rowF T)] H (fun z H' => z = .tup [tV n (shLL T) (shPP n T), .int .i64 0] ∧ H' = H) := by
  have em := fun H => empty_r n h1 H
  have hseg : ∀ q : Nat, q < 4 → List.take 3 (List.drop ((q : Int).toNat * 3) (List.take 12 (rowF T))) = (T q).cells := fun q hq => by
    rw [List.take_of_length_le (Nat.le_of_eq (rowF_len T)), Int.toNat_natCast]; exact rowF_seg T hq
  have hRl := rowF_len T
  refine ACall.coldT ?_
  generalize rowF T = R at *
  refine ACall_of tt_ok (dok _) Try.func44 rfl (by decide) rfl ?_
  (repeat' ((conv => whnf); first | refine OpsA.cons ?_ | refine OpsA.nil ?_ | refine AWq.seq ?_ | refine AWq.region ?_ | refine AWq.cond ?_ | refine AWq.block ?_ | refine AWq.skip ?_ | refine AWq.ret ?_ | refine AWq.exit ?_ | refine AWq.loop ?_ | refine DrawA.consD ?_ | refine DrawA.nil ?_ | refine AWq.draw (by decide +kernel) ?_ | (refine Both.mk ?_ ?_ <;> intro hc <;> (first | exact Bool.noConfusion hc | exact absurd (by with_reducible rfl) hc | exact absurd hc (by assumption) | (exfalso; omega) | skip)) | (intro c hc; (try (simp only [AH.none_iff] at hc; repeat (have hn := hc.1; replace hc := hc.2))); (first | (have hc2 := Eq.trans hc (by with_reducible assumption); clear hc; subst hc2) | (refine i64_k hc ?_ ?_ ?_ ; omega; omega; (clear hc; intro hc; subst hc)) | subst hc | skip)) | (apply Exists.intro; apply And.intro; (first | (focus (repeat (first | (with_reducible assumption) | (with_reducible exact AH.set_same _ _ _) | ((first | refine AH.get_ne ?_ ?_); (first | (with_reducible assumption))))); done))) | (apply Exists.intro; apply And.intro; first | (with_reducible assumption) | ((try simp only [List.getElem?_drop, Nat.mul_one, Nat.add_zero, Nat.zero_add]); first | (with_reducible assumption) | rfl)) | (apply And.intro; (first | rfl | (with_reducible assumption) | exact Nat.le_of_ble_eq_true rfl | omega | (simp <;> omega))))) <;> (try (conv => whnf))
  (obtain ⟨c4, hq_⟩ : ∃ c4, c4 = c := ⟨_, rfl⟩); subst hq_
  have h4 : H c4 = none := hc
  have hn' : c ≠ c4 := Ne.symm hn
  refine Then.mk (AWq.in ?_)
  refine AWp_freezeP 3 rfl rfl (by (first | (focus (repeat (first | (with_reducible assumption) | (with_reducible exact AH.set_same _ _ _) | ((first | refine AH.get_ne ?_ ?_); (first | (with_reducible assumption))))); done))) ?_
  rw [AH.set_comm _ _ _ hn', AH.del_set _ _ _ (by rw [AH.set_ne _ _ hn']; assumption)]
  clear hn hn' hc
  refine AWp.of tt_ok (dok _) rfl ?_
  (repeat' ((conv => whnf); first | refine OpsA.cons ?_ | refine OpsA.nil ?_ | refine AWq.seq ?_ | refine AWq.region ?_ | refine AWq.cond ?_ | refine AWq.block ?_ | refine AWq.skip ?_ | refine AWq.ret ?_ | refine AWq.exit ?_ | refine AWq.loop ?_ | refine DrawA.consD ?_ | refine DrawA.nil ?_ | refine AWq.draw (by decide +kernel) ?_ | (refine Both.mk ?_ ?_ <;> intro hc <;> (first | exact Bool.noConfusion hc | exact absurd (by with_reducible rfl) hc | exact absurd hc (by assumption) | (exfalso; omega) | skip)) | (intro c hc; (try (simp only [AH.none_iff] at hc; repeat (have hn := hc.1; replace hc := hc.2))); (first | (have hc2 := Eq.trans hc (by with_reducible assumption); clear hc; subst hc2) | (refine i64_k hc ?_ ?_ ?_ ; omega; omega; (clear hc; intro hc; subst hc)) | subst hc | skip)) | (apply Exists.intro; apply And.intro; (first | (focus (repeat (first | (with_reducible assumption) | (with_reducible exact AH.set_same _ _ _) | ((first | refine AH.get_ne ?_ ?_); (first | (with_reducible assumption))))); done))) | (apply Exists.intro; apply And.intro; first | (with_reducible assumption) | ((try simp only [List.getElem?_drop, Nat.mul_one, Nat.add_zero, Nat.zero_add]); first | (with_reducible assumption) | rfl)) | (apply And.intro; (first | rfl | (with_reducible assumption) | exact Nat.le_of_ble_eq_true rfl | omega | (simp <;> omega))))) <;> (try (conv => whnf))
  refine (em _).mono ?_
  rintro y H' ⟨q1, q2, v1, v2, g, rfl⟩
  have hq1 : (H.set c4 (.row [.int .i64 0, .nils, .nils] 0)) q1 = none := g.ha
  have hq2 : (H.set c4 (.row [.int .i64 0, .nils, .nils] 0)) q2 = none := g.hb
  have n12 := g.ab
  obtain ⟨Sh, hSh⟩ : ∃ Sh : List Int → List Int → AH, ∀ A B, Sh A B = ((H.set c4 (.row [.int .i64 0, .nils, .nils] 0)).set q1 (.row (iS .i64 A) v1)).set q2 (.row (iS .i64 B) v2) := ⟨_, fun _ _ => rfl⟩
  have hH' : H' = Sh emL (emP n) := by rw [hSh]; exact g.e
  obtain ⟨hq1a, hq1b⟩ := AH.none_set hq1
  obtain ⟨hq2a, hq2b⟩ := AH.none_set hq2
  subst hH'
  clear g
  have e0 : emL = lbD T (doneQ 0 0) := by rw [doneQ_first, lbD_none]
  have e1 : emP n = pxD n T (doneQ 0 0) 0 0 := by rw [doneQ_first, pxD_none]
  rw [e0, e1]
  have gc4 : ∀ A B, Sh A B c4 = some (.row [.int .i64 0, .nils, .nils] 0) := fun A B => by
    rw [hSh, AH.set_ne _ _ (Ne.symm hq2a), AH.set_ne _ _ (Ne.symm hq1a), AH.set_same]
  (repeat' ((conv => whnf); first | refine OpsA.cons ?_ | refine OpsA.nil ?_ | refine AWq.seq ?_ | refine AWq.region ?_ | refine AWq.cond ?_ | refine AWq.block ?_ | refine AWq.skip ?_ | refine AWq.ret ?_ | refine AWq.exit ?_ | refine AWq.loop ?_ | refine DrawA.consD ?_ | refine DrawA.nil ?_ | refine AWq.draw (by decide +kernel) ?_ | (refine Both.mk ?_ ?_ <;> intro hc <;> (first | exact Bool.noConfusion hc | exact absurd (by with_reducible rfl) hc | exact absurd hc (by assumption) | (exfalso; omega) | skip)) | (intro c hc; (try (simp only [AH.none_iff] at hc; repeat (have hn := hc.1; replace hc := hc.2))); (first | (have hc2 := Eq.trans hc (by with_reducible assumption); clear hc; subst hc2) | (refine i64_k hc ?_ ?_ ?_ ; omega; omega; (clear hc; intro hc; subst hc)) | subst hc | skip)) | (apply Exists.intro; apply And.intro; (first | (focus (repeat (first | (with_reducible assumption) | (with_reducible exact AH.set_same _ _ _) | ((first | refine AH.get_ne ?_ ?_); (first | (with_reducible assumption))))); done))) | (apply Exists.intro; apply And.intro; first | (with_reducible assumption) | ((try simp only [List.getElem?_drop, Nat.mul_one, Nat.add_zero, Nat.zero_add]); first | (with_reducible assumption) | rfl)) | (apply And.intro; (first | rfl | (with_reducible assumption) | exact Nat.le_of_ble_eq_true rfl | omega | (simp <;> omega))))) <;> (try (conv => whnf))
  refine Then.mk (AWq.in ?_)
  refine AWp_segP 6 [.int .i64 n, .sl q1 v1 1 0 256 none, .sl q2 v2 1 0 (256 * n) none] rfl rfl (by assumption) rfl rfl ?_
  refine AWp.of tt_ok (dok _) rfl ?_
  obtain ⟨S, hS⟩ : ∃ S, S = Sh (lbD T (doneQ 0 0)) (pxD n T (doneQ 0 0) 0 0) := ⟨_, rfl⟩
  rw [← hS]
  (repeat' ((conv => whnf); first | refine Then.mk ?_ | refine OpsA.cons ?_ | refine OpsA.nil ?_ | refine AWq.seq ?_ | refine AWq.region ?_ | refine AWq.cond ?_ | refine AWq.block ?_ | refine AWq.skip ?_ | refine AWq.ret ?_ | refine AWq.exit ?_ | refine AWq.loop ?_ | refine DrawA.consD ?_ | refine DrawA.nil ?_ | refine AWq.draw (by decide +kernel) ?_ | (refine Both.mk ?_ ?_ <;> intro hc <;> (first | exact Bool.noConfusion hc | exact absurd (by with_reducible rfl) hc | exact absurd hc (by assumption) | (exfalso; omega) | skip)) | (intro c hc; (try (simp only [AH.none_iff] at hc; repeat (have hn := hc.1; replace hc := hc.2))); (first | (have hc2 := Eq.trans hc (by with_reducible assumption); clear hc; subst hc2) | (refine i64_k hc ?_ ?_ ?_ ; omega; omega; (clear hc; intro hc; subst hc)) | subst hc | skip)) | (apply Exists.intro; apply And.intro; (first | (focus (repeat (first | (with_reducible assumption) | (with_reducible exact AH.set_same _ _ _) | ((first | refine AH.get_ne ?_ ?_); (first | (with_reducible assumption))))); done))) | (apply Exists.intro; apply And.intro; first | (with_reducible assumption) | ((try simp only [List.getElem?_drop, Nat.mul_one, Nat.add_zero, Nat.zero_add]); first | (with_reducible assumption) | rfl)) | (apply And.intro; (first | rfl | (with_reducible assumption) | exact Nat.le_of_ble_eq_true rfl | omega | (simp <;> omega))))) <;> (try (conv => whnf))
  refine AWp_loop (σ := Nat) (5 :: 9 :: 33 :: 34 :: 35 :: 36 :: 37 :: 38 :: 39 :: 40 :: 41 :: 42 :: 43 :: 44 :: 45 :: 46 :: 47 :: 48 :: 49 :: 50 :: 51 :: 52 :: []) (fun i => [(33, .int .i64 i)]) (fun _ => S) (fun i => i ≤ 4) (fun i => 4 - i) 0 rfl (Nat.zero_le _) ⟨rfl, trivial⟩ (HLe.refl _) ?_
  intro i hi
  refine AWp.of tt_ok (dok _) rfl ?_
  dsimp only at hi ⊢
  by_cases hit : i < 4
  · have hsg : List.take 3 (List.drop ((i : Int).toNat * 3) (List.take 12 R)) = (T i).cells := hseg i hit
    have hf := hT i hit
    have hgi := hg i hit
    generalize T i = t at *
    obtain ⟨b, L, P⟩ := t
    obtain ⟨f1, f2, f3⟩ := hf
    unfold goodT at hgi
    unfold Tl.cells at hsg
    dsimp only at hgi hsg f1 f2 f3
    have ho3 : (List.take 3 (List.drop ((i : Int).toNat * 3) (List.take 12 R))).all one = true := by rw [hsg]; rfl
    have vc := fun H => valid_c b L P f1 (by unfold tI; omega) (by unfold tI; omega) H
    unfold tV at vc
    have l1 : (iS .i64 L).length = L.length := by simp
    rcases hgi with h0 | ⟨h0, hb⟩
    · (repeat' ((conv => whnf); first | (refine Then.mk (AWq.in ?_); refine AWp_segP 9 ([.int .i64 b, .cs (iS .i64 L) L.length, .cs (iS .i64 P) P.length]) rfl rfl (by assumption) (hsg) (rfl) ?_; refine AWp.of tt_ok (dok _) rfl ?_) | refine Then.mk ?_ | refine OpsA.cons ?_ | refine OpsA.nil ?_ | refine AWq.seq ?_ | refine AWq.region ?_ | refine AWq.cond ?_ | refine AWq.block ?_ | refine AWq.skip ?_ | refine AWq.ret ?_ | refine AWq.exit ?_ | refine AWq.loop ?_ | refine DrawA.consD ?_ | refine DrawA.nil ?_ | refine AWq.draw (by decide +kernel) ?_ | (refine Both.mk ?_ ?_ <;> intro hc <;> (first | exact Bool.noConfusion hc | exact absurd (by with_reducible rfl) hc | exact absurd hc (by assumption) | (exfalso; omega) | skip)) | (intro c hc; (try (simp only [AH.none_iff] at hc; repeat (have hn := hc.1; replace hc := hc.2))); (first | (have hc2 := Eq.trans hc (by with_reducible assumption); clear hc; subst hc2) | (refine i64_k hc ?_ ?_ ?_ ; omega; omega; (clear hc; intro hc; subst hc)) | subst hc | skip)) | (apply Exists.intro; apply And.intro; (first | (focus (repeat (first | (with_reducible assumption) | (with_reducible exact AH.set_same _ _ _) | ((first | refine AH.get_ne ?_ ?_); (first | (with_reducible assumption))))); done))) | (apply Exists.intro; apply And.intro; first | (with_reducible assumption) | ((try simp only [List.getElem?_drop, Nat.mul_one, Nat.add_zero, Nat.zero_add]); first | (with_reducible assumption) | rfl)) | (apply And.intro; (first | rfl | (with_reducible assumption) | exact Nat.le_of_ble_eq_true rfl | omega | (simp <;> omega))) | (refine ACall.to (vc _) ?_))) <;> (try (conv => whnf))
      exact ⟨i + 1, hit, by omega, ⟨congrArg (AV.int .i64) (by omega), trivial⟩, HLe.refl _⟩
    · rw [h0] at vc
      subst hb
      (repeat' ((conv => whnf); first | (refine Then.mk (AWq.in ?_); refine AWp_segP 9 ([.int .i64 (n : Int), .cs (iS .i64 L) L.length, .cs (iS .i64 P) P.length]) rfl rfl (by assumption) (hsg) (rfl) ?_; refine AWp.of tt_ok (dok _) rfl ?_) | refine Then.mk ?_ | refine OpsA.cons ?_ | refine OpsA.nil ?_ | refine AWq.seq ?_ | refine AWq.region ?_ | refine AWq.cond ?_ | refine AWq.block ?_ | refine AWq.skip ?_ | refine AWq.ret ?_ | refine AWq.exit ?_ | refine AWq.loop ?_ | refine DrawA.consD ?_ | refine DrawA.nil ?_ | refine AWq.draw (by decide +kernel) ?_ | (refine Both.mk ?_ ?_ <;> intro hc <;> (first | exact Bool.noConfusion hc | exact absurd (by with_reducible rfl) hc | exact absurd hc (by assumption) | (exfalso; omega) | skip)) | (intro c hc; (try (simp only [AH.none_iff] at hc; repeat (have hn := hc.1; replace hc := hc.2))); (first | (have hc2 := Eq.trans hc (by with_reducible assumption); clear hc; subst hc2) | (refine i64_k hc ?_ ?_ ?_ ; omega; omega; (clear hc; intro hc; subst hc)) | subst hc | skip)) | (apply Exists.intro; apply And.intro; (first | (focus (repeat (first | (with_reducible assumption) | (with_reducible exact AH.set_same _ _ _) | ((first | refine AH.get_ne ?_ ?_); (first | (with_reducible assumption))))); done))) | (apply Exists.intro; apply And.intro; first | (with_reducible assumption) | ((try simp only [List.getElem?_drop, Nat.mul_one, Nat.add_zero, Nat.zero_add]); first | (with_reducible assumption) | rfl)) | (apply And.intro; (first | rfl | (with_reducible assumption) | exact Nat.le_of_ble_eq_true rfl | omega | (simp <;> omega))) | (refine ACall.to (vc _) ?_))) <;> (try (conv => whnf))
      all_goals exact ⟨i + 1, hit, by omega, ⟨congrArg (AV.int .i64) (by omega), trivial⟩, HLe.refl _⟩
  have hie : i = 4 := by omega
  subst hie
  (repeat' ((conv => whnf); first | refine Then.mk ?_ | refine OpsA.cons ?_ | refine OpsA.nil ?_ | refine AWq.seq ?_ | refine AWq.region ?_ | refine AWq.cond ?_ | refine AWq.block ?_ | refine AWq.skip ?_ | refine AWq.ret ?_ | refine AWq.exit ?_ | refine AWq.loop ?_ | refine DrawA.consD ?_ | refine DrawA.nil ?_ | refine AWq.draw (by decide +kernel) ?_ | (refine Both.mk ?_ ?_ <;> intro hc <;> (first | exact Bool.noConfusion hc | exact absurd (by with_reducible rfl) hc | exact absurd hc (by assumption) | (exfalso; omega) | skip)) | (intro c hc; (try (simp only [AH.none_iff] at hc; repeat (have hn := hc.1; replace hc := hc.2))); (first | (have hc2 := Eq.trans hc (by with_reducible assumption); clear hc; subst hc2) | (refine i64_k hc ?_ ?_ ?_ ; omega; omega; (clear hc; intro hc; subst hc)) | subst hc | skip)) | (apply Exists.intro; apply And.intro; (first | (focus (repeat (first | (with_reducible assumption) | (with_reducible exact AH.set_same _ _ _) | ((first | refine AH.get_ne ?_ ?_); (first | (with_reducible assumption))))); done))) | (apply Exists.intro; apply And.intro; first | (with_reducible assumption) | ((try simp only [List.getElem?_drop, Nat.mul_one, Nat.add_zero, Nat.zero_add]); first | (with_reducible assumption) | rfl)) | (apply And.intro; (first | rfl | (with_reducible assumption) | exact Nat.le_of_ble_eq_true rfl | omega | (simp <;> omega))))) <;> (try (conv => whnf))
  rw [hS]
  clear hS S
  refine AWp_loop (σ := Nat) (10 :: 11 :: 12 :: 13 :: 14 :: 15 :: 16 :: 17 :: 18 :: 19 :: 20 :: 22 :: 54 :: 55 :: 56 :: 57 :: 58 :: 59 :: 60 :: 61 :: 62 :: 63 :: 64 :: 65 :: 66 :: 67 :: 68 :: 69 :: 70 :: 71 :: 72 :: 73 :: 74 :: 75 :: 76 :: 77 :: 78 :: 79 :: 80 :: 81 :: 82 :: 83 :: 84 :: 85 :: 86 :: 87 :: 88 :: 89 :: 90 :: 91 :: 92 :: 93 :: 94 :: 95 :: 96 :: 97 :: 98 :: 99 :: 100 :: 101 :: 102 :: 103 :: 104 :: 105 :: 106 :: 107 :: 108 :: 109 :: 110 :: 111 :: 112 :: 113 :: 114 :: 115 :: 116 :: 117 :: 118 :: 119 :: 120 :: 121 :: 122 :: 123 :: 124 :: 125 :: 126 :: 127 :: 128 :: 129 :: 130 :: 131 :: 132 :: 133 :: 134 :: 135 :: 136 :: 137 :: 138 :: 139 :: 140 :: 141 :: 142 :: 143 :: 144 :: 145 :: 146 :: 147 :: 148 :: 149 :: 150 :: 151 :: 152 :: 153 :: 154 :: 155 :: 156 :: []) (fun q => [(54, .int .i64 q)]) (fun q => Sh (lbD T (doneQ q 0)) (pxD n T (doneQ q 0) 0 0)) (fun q => q ≤ 4) (fun q => 4 - q) 0 rfl (Nat.zero_le _) ⟨rfl, trivial⟩ (HLe.refl _) ?_
  intro q hq
  refine AWp.of tt_ok (dok _) rfl ?_
  dsimp only at hq ⊢
  by_cases hqt : q < 4
  · have hsg : List.take 3 (List.drop ((q : Int).toNat * 3) (List.take 12 R)) = (T q).cells := hseg q hqt
    have hf := hT q hqt
    have hgq := hg q hqt
    obtain ⟨t, ht⟩ : ∃ t, t = T q := ⟨_, rfl⟩
    rw [← ht] at hsg hf hgq
    obtain ⟨b, L, P⟩ := t
    obtain ⟨f1, f2, f3⟩ := hf
    unfold goodT at hgq
    unfold Tl.cells at hsg
    dsimp only at hgq hsg f1 f2 f3
    have ho3 : (List.take 3 (List.drop ((q : Int).toNat * 3) (List.take 12 R))).all one = true := by rw [hsg]; rfl
    have l1 : (iS .i64 L).length = L.length := by simp
    by_cases hL0 : L.length = 0
    · have hTL : (T q).L.length = 0 := by rw [← ht]; exact hL0
      have e2 : lbD T (doneQ q 0) = lbD T (doneQ (q + 1) 0) := lbD_same fun a ha => by
        rw [doneQ_next]
        by_cases e : shQ a = q
        · exact .inr (by unfold labA; rw [e, if_pos hTL])
        · exact .inl (decide_eq_decide.2 (by omega))
      have e3 : pxD n T (doneQ q 0) 0 0 = pxD n T (doneQ (q + 1) 0) 0 0 := pxD_same (by omega) fun a ha => by
        rw [doneQ_next]
        by_cases e : shQ a = q
        · exact .inr fun b hb => by unfold pixA; rw [e, if_pos hTL]
        · exact .inl (decide_eq_decide.2 (by omega))
      have eG : Sh (lbD T (doneQ q 0)) (pxD n T (doneQ q 0) 0 0) = Sh (lbD T (doneQ (q + 1) 0)) (pxD n T (doneQ (q + 1) 0) 0 0) := by rw [← e2, ← e3]
      generalize Sh (lbD T (doneQ q 0)) (pxD n T (doneQ q 0) 0 0) = G at *
      (repeat' ((conv => whnf); first | (refine Then.mk (AWq.in ?_); refine AWp_segP 11 ([.int .i64 b, .cs (iS .i64 L) L.length, .cs (iS .i64 P) P.length]) rfl rfl (by assumption) (hsg) (rfl) ?_; refine AWp.of tt_ok (dok _) rfl ?_) | refine Then.mk ?_ | refine OpsA.cons ?_ | refine OpsA.nil ?_ | refine AWq.seq ?_ | refine AWq.region ?_ | refine AWq.cond ?_ | refine AWq.block ?_ | refine AWq.skip ?_ | refine AWq.ret ?_ | refine AWq.exit ?_ | refine AWq.loop ?_ | refine DrawA.consD ?_ | refine DrawA.nil ?_ | refine AWq.draw (by decide +kernel) ?_ | (refine Both.mk ?_ ?_ <;> intro hc <;> (first | exact Bool.noConfusion hc | exact absurd (by with_reducible rfl) hc | exact absurd hc (by assumption) | (exfalso; omega) | skip)) | (intro c hc; (try (simp only [AH.none_iff] at hc; repeat (have hn := hc.1; replace hc := hc.2))); (first | (have hc2 := Eq.trans hc (by with_reducible assumption); clear hc; subst hc2) | (refine i64_k hc ?_ ?_ ?_ ; omega; omega; (clear hc; intro hc; subst hc)) | subst hc | skip)) | (apply Exists.intro; apply And.intro; (first | (focus (repeat (first | (with_reducible assumption) | (with_reducible exact AH.set_same _ _ _) | ((first | refine AH.get_ne ?_ ?_); (first | (with_reducible assumption))))); done))) | (apply Exists.intro; apply And.intro; first | (with_reducible assumption) | ((try simp only [List.getElem?_drop, Nat.mul_one, Nat.add_zero, Nat.zero_add]); first | (with_reducible assumption) | rfl)) | (apply And.intro; (first | rfl | (with_reducible assumption) | exact Nat.le_of_ble_eq_true rfl | omega | (simp <;> omega))))) <;> (try (conv => whnf))
      refine AWp_loop (σ := Nat) (12 :: 13 :: 14 :: 15 :: 16 :: 17 :: 18 :: 19 :: 20 :: 22 :: 58 :: 59 :: 60 :: 61 :: 62 :: 63 :: 64 :: 65 :: 66 :: 67 :: 68 :: 69 :: 70 :: 71 :: 72 :: 73 :: 74 :: 75 :: 76 :: 77 :: 78 :: 79 :: 80 :: 81 :: 82 :: 83 :: 84 :: 85 :: 86 :: 87 :: 88 :: 89 :: 90 :: 91 :: 92 :: 93 :: 94 :: 95 :: 96 :: 97 :: 98 :: 99 :: 100 :: 101 :: 102 :: 103 :: 104 :: 105 :: 106 :: 107 :: 108 :: 109 :: 110 :: 111 :: 112 :: 113 :: 114 :: 115 :: 116 :: 117 :: 118 :: 119 :: 120 :: 121 :: 122 :: 123 :: 124 :: 125 :: 126 :: 127 :: 128 :: 129 :: 130 :: 131 :: 132 :: 133 :: 134 :: 135 :: 136 :: 137 :: 138 :: 139 :: 140 :: 141 :: 142 :: 143 :: 144 :: 145 :: 146 :: 147 :: 148 :: 149 :: 150 :: 151 :: 152 :: 153 :: 154 :: 155 :: []) (fun i => [(12, .int .i64 0)]) (fun i => G) (fun i => i ≤ 64) (fun i => 64 - i) 0 rfl (Nat.zero_le _) ⟨rfl, trivial⟩ (HLe.refl _) ?_
      intro i hi
      refine AWp.of tt_ok (dok _) rfl ?_
      dsimp only at hi ⊢
      (repeat' ((conv => whnf); first | refine Then.mk ?_ | refine OpsA.cons ?_ | refine OpsA.nil ?_ | refine AWq.seq ?_ | refine AWq.region ?_ | refine AWq.cond ?_ | refine AWq.block ?_ | refine AWq.skip ?_ | refine AWq.ret ?_ | refine AWq.exit ?_ | refine AWq.loop ?_ | refine DrawA.consD ?_ | refine DrawA.nil ?_ | refine AWq.draw (by decide +kernel) ?_ | (refine Both.mk ?_ ?_ <;> intro hc <;> (first | exact Bool.noConfusion hc | exact absurd (by with_reducible rfl) hc | exact absurd hc (by assumption) | (exfalso; omega) | skip)) | (intro c hc; (try (simp only [AH.none_iff] at hc; repeat (have hn := hc.1; replace hc := hc.2))); (first | (have hc2 := Eq.trans hc (by with_reducible assumption); clear hc; subst hc2) | (refine i64_k hc ?_ ?_ ?_ ; omega; omega; (clear hc; intro hc; subst hc)) | subst hc | skip)) | (apply Exists.intro; apply And.intro; (first | (focus (repeat (first | (with_reducible assumption) | (with_reducible exact AH.set_same _ _ _) | ((first | refine AH.get_ne ?_ ?_); (first | (with_reducible assumption))))); done))) | (apply Exists.intro; apply And.intro; first | (with_reducible assumption) | ((try simp only [List.getElem?_drop, Nat.mul_one, Nat.add_zero, Nat.zero_add]); first | (with_reducible assumption) | rfl)) | (apply And.intro; (first | rfl | (with_reducible assumption) | exact Nat.le_of_ble_eq_true rfl | omega | (simp <;> omega))))) <;> (try (conv => whnf))
      exact ⟨q + 1, hqt, by omega, ⟨congrArg (AV.int .i64) (by omega), trivial⟩, HLe.of_eq eG.symm⟩
    · have hgd := hgq.resolve_left hL0
      obtain ⟨hte, rfl⟩ := hgd
      obtain ⟨⟨-, t2, t3⟩, hlb⟩ := tile_good hte
      rw [Int.toNat_natCast] at hlb
      have hl2 : P.length = 256 * n := by omega
      have hfl := fun a => frm_labels t2 hlb a
      have labT : ∀ a, shQ a = q → labA T a = shL L a := fun a ha => by unfold labA; rw [ha, ← ht, if_neg hL0]
      have pixT : ∀ a b, shQ a = q → pixA n T a b = shP n L P a b := fun a b ha => by unfold pixA; rw [ha, ← ht, if_neg hL0]
      obtain ⟨G, hG⟩ : ∃ G, G = Sh (lbD T (doneQ q 0)) (pxD n T (doneQ q 0) 0 0) := ⟨_, rfl⟩
      rw [← hG]
      (repeat' ((conv => whnf); first | (refine Then.mk (AWq.in ?_); refine AWp_segP 11 ([.int .i64 (n : Int), .cs (iS .i64 L) L.length, .cs (iS .i64 P) P.length]) rfl rfl (by assumption) (hsg) (rfl) ?_; refine AWp.of tt_ok (dok _) rfl ?_) | refine Then.mk ?_ | refine OpsA.cons ?_ | refine OpsA.nil ?_ | refine AWq.seq ?_ | refine AWq.region ?_ | refine AWq.cond ?_ | refine AWq.block ?_ | refine AWq.skip ?_ | refine AWq.ret ?_ | refine AWq.exit ?_ | refine AWq.loop ?_ | refine DrawA.consD ?_ | refine DrawA.nil ?_ | refine AWq.draw (by decide +kernel) ?_ | (refine Both.mk ?_ ?_ <;> intro hc <;> (first | exact Bool.noConfusion hc | exact absurd (by with_reducible rfl) hc | exact absurd hc (by assumption) | (exfalso; omega) | skip)) | (intro c hc; (try (simp only [AH.none_iff] at hc; repeat (have hn := hc.1; replace hc := hc.2))); (first | (have hc2 := Eq.trans hc (by with_reducible assumption); clear hc; subst hc2) | (refine i64_k hc ?_ ?_ ?_ ; omega; omega; (clear hc; intro hc; subst hc)) | subst hc | skip)) | (apply Exists.intro; apply And.intro; (first | (focus (repeat (first | (with_reducible assumption) | (with_reducible exact AH.set_same _ _ _) | ((first | refine AH.get_ne ?_ ?_); (first | (with_reducible assumption))))); done))) | (apply Exists.intro; apply And.intro; first | (with_reducible assumption) | ((try simp only [List.getElem?_drop, Nat.mul_one, Nat.add_zero, Nat.zero_add]); first | (with_reducible assumption) | rfl)) | (apply And.intro; (first | rfl | (with_reducible assumption) | exact Nat.le_of_ble_eq_true rfl | omega | (simp <;> omega))))) <;> (try (conv => whnf))
      rw [hG]
      clear hc hG G
      refine AWp_loop (σ := Nat) (12 :: 13 :: 14 :: 15 :: 16 :: 17 :: 18 :: 19 :: 20 :: 22 :: 58 :: 59 :: 60 :: 61 :: 62 :: 63 :: 64 :: 65 :: 66 :: 67 :: 68 :: 69 :: 70 :: 71 :: 72 :: 73 :: 74 :: 75 :: 76 :: 77 :: 78 :: 79 :: 80 :: 81 :: 82 :: 83 :: 84 :: 85 :: 86 :: 87 :: 88 :: 89 :: 90 :: 91 :: 92 :: 93 :: 94 :: 95 :: 96 :: 97 :: 98 :: 99 :: 100 :: 101 :: 102 :: 103 :: 104 :: 105 :: 106 :: 107 :: 108 :: 109 :: 110 :: 111 :: 112 :: 113 :: 114 :: 115 :: 116 :: 117 :: 118 :: 119 :: 120 :: 121 :: 122 :: 123 :: 124 :: 125 :: 126 :: 127 :: 128 :: 129 :: 130 :: 131 :: 132 :: 133 :: 134 :: 135 :: 136 :: 137 :: 138 :: 139 :: 140 :: 141 :: 142 :: 143 :: 144 :: 145 :: 146 :: 147 :: 148 :: 149 :: 150 :: 151 :: 152 :: 153 :: 154 :: 155 :: []) (fun i => [(12, .int .i64 i)]) (fun i => Sh (lbD T (doneQ q i)) (pxD n T (doneQ q i) 0 0)) (fun i => i ≤ 64) (fun i => 64 - i) 0 rfl (Nat.zero_le _) ⟨rfl, trivial⟩ (HLe.refl _) ?_
      intro i hi
      refine AWp.of tt_ok (dok _) rfl ?_
      dsimp only at hi ⊢
      by_cases hit : i < 64
      · obtain ⟨G, hG⟩ : ∃ G, G = Sh (lbD T (doneQ q i)) (pxD n T (doneQ q i) 0 0) := ⟨_, rfl⟩
        rw [← hG]
        obtain ⟨a, ha⟩ : ∃ a, a = shAt q i := ⟨_, rfl⟩
        obtain ⟨F, hF⟩ : ∃ F, F = shF a := ⟨_, rfl⟩
        have ww : ∀ x : Int, 0 ≤ x → x < 1000000 → IntKind.i64.wrap x = x := fun x h1 h2 => by rw [IntKind.wrap_i64]; omega
        have eA : IntKind.i64.wrap (IntKind.i64.wrap (IntKind.i64.wrap (IntKind.i64.wrap (IntKind.i64.wrap (IntKind.i64.wrap ((q : Int).tdiv 2) * 8) + IntKind.i64.wrap ((i : Int).tdiv 8)) * 16) + IntKind.i64.wrap ((q : Int).tmod 2 * 8)) + (i : Int).tmod 8) = (a : Nat) := by
          rw [ha, show (q : Int).tdiv 2 = ((q / 2 : Nat) : Int) from rfl, show (q : Int).tmod 2 = ((q % 2 : Nat) : Int) from rfl, show (i : Int).tdiv 8 = ((i / 8 : Nat) : Int) from rfl, show (i : Int).tmod 8 = ((i % 8 : Nat) : Int) from rfl]
          unfold shAt
          rw [ww ((q / 2 : Nat) : Int) (by omega) (by omega), ww (((q / 2 : Nat) : Int) * 8) (by omega) (by omega), ww ((i / 8 : Nat) : Int) (by omega) (by omega), ww (((q / 2 : Nat) : Int) * 8 + ((i / 8 : Nat) : Int)) (by omega) (by omega),
            ww ((((q / 2 : Nat) : Int) * 8 + ((i / 8 : Nat) : Int)) * 16) (by omega) (by omega), ww (((q % 2 : Nat) : Int) * 8) (by omega) (by omega), ww ((((q / 2 : Nat) : Int) * 8 + ((i / 8 : Nat) : Int)) * 16 + ((q % 2 : Nat) : Int) * 8) (by omega) (by omega),
            ww ((((q / 2 : Nat) : Int) * 8 + ((i / 8 : Nat) : Int)) * 16 + ((q % 2 : Nat) : Int) * 8 + ((i % 8 : Nat) : Int)) (by omega) (by omega)]
          omega
        have eF : IntKind.i64.wrap (IntKind.i64.wrap (IntKind.i64.wrap (2 * IntKind.i64.wrap ((i : Int).tdiv 8)) * 16) + IntKind.i64.wrap (2 * (i : Int).tmod 8)) = (F : Nat) := by
          rw [hF, ha, shF_at hqt hit, show (i : Int).tdiv 8 = ((i / 8 : Nat) : Int) from rfl, show (i : Int).tmod 8 = ((i % 8 : Nat) : Int) from rfl]
          rw [ww ((i / 8 : Nat) : Int) (by omega) (by omega), ww (2 * ((i / 8 : Nat) : Int)) (by omega) (by omega), ww (2 * ((i / 8 : Nat) : Int) * 16) (by omega) (by omega), ww (2 * ((i % 8 : Nat) : Int)) (by omega) (by omega), ww (2 * ((i / 8 : Nat) : Int) * 16 + 2 * ((i % 8 : Nat) : Int)) (by omega) (by omega)]
          omega
        have hF2 : F ≤ 238 := by rw [hF]; exact shF_le _
        have hac : a < 256 := by rw [ha]; exact shAt_lt hqt hit
        have haq : shQ a = q := by rw [ha]; exact shQ_at hqt hit
        have x1 : IntKind.i64.wrap ((F : Int) + 1) = F + 1 := by rw [IntKind.wrap_i64]; omega
        have x2 : IntKind.i64.wrap ((F : Int) + 16) = F + 16 := by rw [IntKind.wrap_i64]; omega
        have x3 : IntKind.i64.wrap (((F : Int) + 16) + 1) = F + 17 := by rw [IntKind.wrap_i64]; omega
        have hdel := fun c H h => delete_c 55 (tC n L P) (lessP L) (shA F) (Nat.le_of_ble_eq_true rfl) (shr1_c n L P (shA F) (fun x hx => by have := shA_in hF2 x hx; omega) (by omega)) c 0 H h
        have hfr : keep (lessP L) (shA F) = frm L a := by rw [hF]; rfl
        rw [hfr] at hdel
        iterate 5 ((repeat' ((conv => whnf); first | refine OpsA.cons ?_ | refine OpsA.nil ?_ | refine AWq.seq ?_ | refine AWq.region ?_ | refine AWq.cond ?_ | refine AWq.block ?_ | refine AWq.skip ?_ | refine AWq.ret ?_ | refine AWq.exit ?_ | refine AWq.loop ?_ | refine DrawA.consD ?_ | refine DrawA.nil ?_ | refine AWq.draw (by decide +kernel) ?_ | (refine Both.mk ?_ ?_ <;> intro hc <;> (first | exact Bool.noConfusion hc | exact absurd (by with_reducible rfl) hc | exact absurd hc (by assumption) | (exfalso; omega) | skip)) | (intro c hc; (try (simp only [AH.none_iff] at hc; repeat (have hn := hc.1; replace hc := hc.2))); (first | (have hc2 := Eq.trans hc (by with_reducible assumption); clear hc; subst hc2) | (refine i64_k hc ?_ ?_ ?_ ; omega; omega; (clear hc; intro hc; subst hc)) | subst hc | skip)) | (apply Exists.intro; apply And.intro; (first | (focus (repeat (first | (with_reducible assumption) | (with_reducible exact AH.set_same _ _ _) | ((first | refine AH.get_ne ?_ ?_); (first | (with_reducible assumption))))); done))) | (apply Exists.intro; apply And.intro; first | (with_reducible assumption) | ((try simp only [List.getElem?_drop, Nat.mul_one, Nat.add_zero, Nat.zero_add]); first | (with_reducible assumption) | rfl)) | (apply And.intro; (first | rfl | (with_reducible assumption) | exact Nat.le_of_ble_eq_true rfl | omega | (simp <;> omega))))) <;> (try (conv => whnf)); refine Then.mk ?_)
        (repeat' ((conv => whnf); first | refine Or.inr (Or.inl ?_) | refine OpsA.cons ?_ | refine OpsA.nil ?_ | refine AWq.seq ?_ | refine AWq.region ?_ | refine AWq.cond ?_ | refine AWq.block ?_ | refine AWq.skip ?_ | refine AWq.ret ?_ | refine AWq.exit ?_ | refine AWq.loop ?_ | refine DrawA.consD ?_ | refine DrawA.nil ?_ | refine AWq.draw (by decide +kernel) ?_ | (refine Both.mk ?_ ?_ <;> intro hc <;> (first | exact Bool.noConfusion hc | exact absurd (by with_reducible rfl) hc | exact absurd hc (by assumption) | (exfalso; omega) | skip)) | (intro c hc; (try (simp only [AH.none_iff] at hc; repeat (have hn := hc.1; replace hc := hc.2))); (first | (have hc2 := Eq.trans hc (by with_reducible assumption); clear hc; subst hc2) | (refine i64_k hc ?_ ?_ ?_ ; omega; omega; (clear hc; intro hc; subst hc)) | subst hc | skip)) | (apply Exists.intro; apply And.intro; (first | (focus (repeat (first | (with_reducible assumption) | (with_reducible exact AH.set_same _ _ _) | ((first | refine AH.get_ne ?_ ?_); (first | (with_reducible assumption))))); done))) | (apply Exists.intro; apply And.intro; first | (with_reducible assumption) | ((try simp only [List.getElem?_drop, Nat.mul_one, Nat.add_zero, Nat.zero_add]); first | (with_reducible assumption) | rfl)) | (apply And.intro; (first | rfl | (with_reducible assumption) | exact Nat.le_of_ble_eq_true rfl | omega | (simp <;> omega))))) <;> (try (conv => whnf))
        refine (hdel c (G.set c (.row (iS .i64 (shA F)) 0)) (AH.set_same _ _ _)).mono ?_
        have hGc : G c = none := hc
        rintro y H' ⟨lim, rfl, rfl⟩
        (repeat' ((conv => whnf); first | refine OpsA.cons ?_ | refine OpsA.nil ?_ | refine AWq.seq ?_ | refine AWq.region ?_ | refine AWq.cond ?_ | refine AWq.block ?_ | refine AWq.skip ?_ | refine AWq.ret ?_ | refine AWq.exit ?_ | refine AWq.loop ?_ | refine DrawA.consD ?_ | refine DrawA.nil ?_ | refine AWq.draw (by decide +kernel) ?_ | (refine Both.mk ?_ ?_ <;> intro hc <;> (first | exact Bool.noConfusion hc | exact absurd (by with_reducible rfl) hc | exact absurd hc (by assumption) | (exfalso; omega) | skip)) | (intro c hc; (try (simp only [AH.none_iff] at hc; repeat (have hn := hc.1; replace hc := hc.2))); (first | (have hc2 := Eq.trans hc (by with_reducible assumption); clear hc; subst hc2) | (refine i64_k hc ?_ ?_ ?_ ; omega; omega; (clear hc; intro hc; subst hc)) | subst hc | skip)) | (apply Exists.intro; apply And.intro; (first | (focus (repeat (first | (with_reducible assumption) | (with_reducible exact AH.set_same _ _ _) | ((first | refine AH.get_ne ?_ ?_); (first | (with_reducible assumption))))); done))) | (apply Exists.intro; apply And.intro; first | (with_reducible assumption) | ((try simp only [List.getElem?_drop, Nat.mul_one, Nat.add_zero, Nat.zero_add]); first | (with_reducible assumption) | rfl)) | (apply And.intro; (first | rfl | (with_reducible assumption) | exact Nat.le_of_ble_eq_true rfl | omega | (simp <;> omega))))) <;> (try (conv => whnf))
        refine Then.mk (AWq.in ?_)
        refine AWp_freezeK 17 (frm L a) _ rfl rfl rfl hGc ?_
        refine AWp.of tt_ok (dok _) rfl ?_
        clear eA eF x1 x2 x3 hdel hfr
        have hlf : (iS .i64 (frm L a)).length = (frm L a).length := by simp
        have hf4 := frm_len L a
        have hdq : ∀ x, x < 256 → doneQ q (i + 1) x = (doneQ q i x || decide (x = a)) := by rw [ha]; exact doneQ_put hqt hit
        have hput := lbD_put (T := T) (p := a) hdq
        by_cases h0 : (frm L a).length = 0
        · have hA1 : labA T a = -1 := by rw [labT a haq]; unfold shL; rw [if_pos h0]
          have eL : lbD T (doneQ q (i + 1)) = lbD T (doneQ q i) := lbD_same fun x hx => by
            by_cases e : x = a
            · rw [e]; exact .inr hA1
            · rw [hdq x hx, decide_eq_false e, Bool.or_false]; exact .inl rfl
          have eP : pxD n T (doneQ q (i + 1)) 0 0 = pxD n T (doneQ q i) 0 0 := pxD_same (by omega) fun x hx => by
            by_cases e : x = a
            · rw [e]; exact .inr fun b hb => by rw [pixT a b haq]; unfold shP; rw [if_pos h0]
            · rw [hdq x hx, decide_eq_false e, Bool.or_false]; exact .inl rfl
          (repeat' ((conv => whnf); first | refine Then.mk ?_ | refine OpsA.cons ?_ | refine OpsA.nil ?_ | refine AWq.seq ?_ | refine AWq.region ?_ | refine AWq.cond ?_ | refine AWq.block ?_ | refine AWq.skip ?_ | refine AWq.ret ?_ | refine AWq.exit ?_ | refine AWq.loop ?_ | refine DrawA.consD ?_ | refine DrawA.nil ?_ | refine AWq.draw (by decide +kernel) ?_ | (refine Both.mk ?_ ?_ <;> intro hc <;> (first | exact Bool.noConfusion hc | exact absurd (by with_reducible rfl) hc | exact absurd hc (by assumption) | (exfalso; omega) | skip)) | (intro c hc; (try (simp only [AH.none_iff] at hc; repeat (have hn := hc.1; replace hc := hc.2))); (first | (have hc2 := Eq.trans hc (by with_reducible assumption); clear hc; subst hc2) | (refine i64_k hc ?_ ?_ ?_ ; omega; omega; (clear hc; intro hc; subst hc)) | subst hc | skip)) | (apply Exists.intro; apply And.intro; (first | (focus (repeat (first | (with_reducible assumption) | (with_reducible exact AH.set_same _ _ _) | ((first | refine AH.get_ne ?_ ?_); (first | (with_reducible assumption))))); done))) | (apply Exists.intro; apply And.intro; first | (with_reducible assumption) | ((try simp only [List.getElem?_drop, Nat.mul_one, Nat.add_zero, Nat.zero_add]); first | (with_reducible assumption) | rfl)) | (apply And.intro; (first | rfl | (with_reducible assumption) | exact Nat.le_of_ble_eq_true rfl | omega | (simp <;> omega))))) <;> (try (conv => whnf))
          exact ⟨i + 1, hit, by omega, ⟨congrArg (AV.int .i64) (by omega), trivial⟩, HLe.of_eq (by rw [eL, eP, hG])⟩
        · have hmin := fun H => min_c 57 (tC n L P) (fun x => L.getD x.toNat 0) (frm L a) (by omega) (by omega) (shr2_c n L P (frm L a) (fun x hx => by have := (frm_in L a x hx).1; omega) (hfl a) (by omega)) H
          have hsl : L.getD (leastF (fun x => L.getD x.toNat 0) (frm L a) ((frm L a).length - 1)).toNat 0 = labA T a := by rw [labT a haq]; unfold shL; rw [if_neg h0]
          have hml := frm_in L a _ (leastF_mem (fun x => L.getD x.toNat 0) (frm L a) ((frm L a).length - 1) (by omega))
          generalize leastF (fun x => L.getD x.toNat 0) (frm L a) ((frm L a).length - 1) = m0 at *
          have gm : (iS .i64 L)[m0.toNat]? = some (.int .i64 (L.getD m0.toNat 0)) := iS_get (by omega)
          rw [hsl] at gm
          iterate 2 ((repeat' ((conv => whnf); first | refine OpsA.cons ?_ | refine OpsA.nil ?_ | refine AWq.seq ?_ | refine AWq.region ?_ | refine AWq.cond ?_ | refine AWq.block ?_ | refine AWq.skip ?_ | refine AWq.ret ?_ | refine AWq.exit ?_ | refine AWq.loop ?_ | refine DrawA.consD ?_ | refine DrawA.nil ?_ | refine AWq.draw (by decide +kernel) ?_ | (refine Both.mk ?_ ?_ <;> intro hc <;> (first | exact Bool.noConfusion hc | exact absurd (by with_reducible rfl) hc | exact absurd hc (by assumption) | (exfalso; omega) | skip)) | (intro c hc; (try (simp only [AH.none_iff] at hc; repeat (have hn := hc.1; replace hc := hc.2))); (first | (have hc2 := Eq.trans hc (by with_reducible assumption); clear hc; subst hc2) | (refine i64_k hc ?_ ?_ ?_ ; omega; omega; (clear hc; intro hc; subst hc)) | subst hc | skip)) | (apply Exists.intro; apply And.intro; (first | (focus (repeat (first | (with_reducible assumption) | (with_reducible exact AH.set_same _ _ _) | ((first | refine AH.get_ne ?_ ?_); (first | (with_reducible assumption))))); done))) | (apply Exists.intro; apply And.intro; first | (with_reducible assumption) | ((try simp only [List.getElem?_drop, Nat.mul_one, Nat.add_zero, Nat.zero_add]); first | (with_reducible assumption) | rfl)) | (apply And.intro; (first | rfl | (with_reducible assumption) | exact Nat.le_of_ble_eq_true rfl | omega | (simp <;> omega))) | (refine ACall.to (hmin _) ?_))) <;> (try (conv => whnf)); refine Then.mk ?_)
          have gA : G q1 = some (.row (iS .i64 (lbD T (doneQ q i))) v1) := by rw [hG, hSh]; (first | (focus (repeat (first | (with_reducible assumption) | (with_reducible exact AH.set_same _ _ _) | ((first | refine AH.get_ne ?_ ?_); (first | (with_reducible assumption))))); done))
          have lA : (iS .i64 (lbD T (doneQ q i))).length = 256 := by rw [iS_length]; exact lbD_len _ _
          have hwr : wrA (iS .i64 (lbD T (doneQ q i))) (0 + (a : Int).toNat * 1) [.int .i64 (labA T a)] = iS .i64 (lbD T (doneQ q (i + 1))) := by
            rw [show 0 + (a : Int).toNat * 1 = a by omega, iS_wr1 (by rw [lbD_len]; exact hac), hput]
          have e5 : Sh (lbD T (doneQ q (i + 1))) (pxD n T (doneQ q i) a 0) = G.set q1 (.row (wrA (iS .i64 (lbD T (doneQ q i))) (0 + (a : Int).toNat * 1) [.int .i64 (labA T a)]) v1) := by
            rw [hwr, hG, hSh, hSh, pxD_same (n := n) (T := T) (D := doneQ q i) (D2 := doneQ q i) (p := a) (p2 := 0) (by omega) fun x hx => .inl rfl]; ((funext s; simp only [AH.set, AH.del]; repeat' split) <;> (first | rfl | (exfalso; omega)))
          generalize hRA : iS .i64 (lbD T (doneQ q i)) = RA at *
          iterate 2 ((repeat' ((conv => whnf); first | refine OpsA.cons ?_ | refine OpsA.nil ?_ | refine AWq.seq ?_ | refine AWq.region ?_ | refine AWq.cond ?_ | refine AWq.block ?_ | refine AWq.skip ?_ | refine AWq.ret ?_ | refine AWq.exit ?_ | refine AWq.loop ?_ | refine DrawA.consD ?_ | refine DrawA.nil ?_ | refine AWq.draw (by decide +kernel) ?_ | (refine Both.mk ?_ ?_ <;> intro hc <;> (first | exact Bool.noConfusion hc | exact absurd (by with_reducible rfl) hc | exact absurd hc (by assumption) | (exfalso; omega) | skip)) | (intro c hc; (try (simp only [AH.none_iff] at hc; repeat (have hn := hc.1; replace hc := hc.2))); (first | (have hc2 := Eq.trans hc (by with_reducible assumption); clear hc; subst hc2) | (refine i64_k hc ?_ ?_ ?_ ; omega; omega; (clear hc; intro hc; subst hc)) | subst hc | skip)) | (apply Exists.intro; apply And.intro; (first | (focus (repeat (first | (with_reducible assumption) | (with_reducible exact AH.set_same _ _ _) | ((first | refine AH.get_ne ?_ ?_); (first | (with_reducible assumption))))); done))) | (apply Exists.intro; apply And.intro; first | (with_reducible assumption) | ((try simp only [List.getElem?_drop, Nat.mul_one, Nat.add_zero, Nat.zero_add]); first | (with_reducible assumption) | rfl)) | (apply And.intro; (first | rfl | (with_reducible assumption) | exact Nat.le_of_ble_eq_true rfl | omega | (simp <;> omega))) | (refine ACall.to (hmin _) ?_))) <;> (try (conv => whnf)); refine Then.mk ?_)
          (repeat' ((conv => whnf); first | refine Then.mk ?_ | refine OpsA.cons ?_ | refine OpsA.nil ?_ | refine AWq.seq ?_ | refine AWq.region ?_ | refine AWq.cond ?_ | refine AWq.block ?_ | refine AWq.skip ?_ | refine AWq.ret ?_ | refine AWq.exit ?_ | refine AWq.loop ?_ | refine DrawA.consD ?_ | refine DrawA.nil ?_ | refine AWq.draw (by decide +kernel) ?_ | (refine Both.mk ?_ ?_ <;> intro hc <;> (first | exact Bool.noConfusion hc | exact absurd (by with_reducible rfl) hc | exact absurd hc (by assumption) | (exfalso; omega) | skip)) | (intro c hc; (try (simp only [AH.none_iff] at hc; repeat (have hn := hc.1; replace hc := hc.2))); (first | (have hc2 := Eq.trans hc (by with_reducible assumption); clear hc; subst hc2) | (refine i64_k hc ?_ ?_ ?_ ; omega; omega; (clear hc; intro hc; subst hc)) | subst hc | skip)) | (apply Exists.intro; apply And.intro; (first | (focus (repeat (first | (with_reducible assumption) | (with_reducible exact AH.set_same _ _ _) | ((first | refine AH.get_ne ?_ ?_); (first | (with_reducible assumption))))); done))) | (apply Exists.intro; apply And.intro; first | (with_reducible assumption) | ((try simp only [List.getElem?_drop, Nat.mul_one, Nat.add_zero, Nat.zero_add]); first | (with_reducible assumption) | rfl)) | (apply And.intro; (first | rfl | (with_reducible assumption) | exact Nat.le_of_ble_eq_true rfl | omega | (simp <;> omega))))) <;> (try (conv => whnf))
          refine AWp_loop (σ := Nat) (19 :: 20 :: 22 :: 117 :: 118 :: 119 :: 120 :: 121 :: 122 :: 123 :: 124 :: 125 :: 126 :: 127 :: 128 :: 129 :: 130 :: 131 :: 132 :: 133 :: 134 :: 135 :: 136 :: 137 :: 138 :: 139 :: 140 :: 141 :: 142 :: 143 :: 144 :: 145 :: 146 :: 147 :: 148 :: 149 :: 150 :: 151 :: 152 :: 153 :: 154 :: 155 :: []) (fun k => [(117, .int .i64 k)]) (fun k => Sh (lbD T (doneQ q (i + 1))) (pxD n T (doneQ q i) a k)) (fun k => k ≤ n) (fun k => n - k) 0 rfl (Nat.zero_le _) ⟨rfl, trivial⟩ (HLe.of_eq e5) ?_
          clear e5 hwr gA lA hRA hc RA hmin
          intro k hk
          refine AWp.of tt_ok (dok _) rfl ?_
          dsimp only at hk ⊢
          by_cases hkt : k < n
          · have hbd := shS_bd t2 hlb (a := a) hkt
            obtain ⟨G2, hG2⟩ : ∃ G2, G2 = Sh (lbD T (doneQ q (i + 1))) (pxD n T (doneQ q i) a k) := ⟨_, rfl⟩
            rw [← hG2]
            (repeat' ((conv => whnf); first | refine Then.mk ?_ | refine OpsA.cons ?_ | refine OpsA.nil ?_ | refine AWq.seq ?_ | refine AWq.region ?_ | refine AWq.cond ?_ | refine AWq.block ?_ | refine AWq.skip ?_ | refine AWq.ret ?_ | refine AWq.exit ?_ | refine AWq.loop ?_ | refine DrawA.consD ?_ | refine DrawA.nil ?_ | refine AWq.draw (by decide +kernel) ?_ | (refine Both.mk ?_ ?_ <;> intro hc <;> (first | exact Bool.noConfusion hc | exact absurd (by with_reducible rfl) hc | exact absurd hc (by assumption) | (exfalso; omega) | skip)) | (intro c hc; (try (simp only [AH.none_iff] at hc; repeat (have hn := hc.1; replace hc := hc.2))); (first | (have hc2 := Eq.trans hc (by with_reducible assumption); clear hc; subst hc2) | (refine i64_k hc ?_ ?_ ?_ ; omega; omega; (clear hc; intro hc; subst hc)) | subst hc | skip)) | (apply Exists.intro; apply And.intro; (first | (focus (repeat (first | (with_reducible assumption) | (with_reducible exact AH.set_same _ _ _) | ((first | refine AH.get_ne ?_ ?_); (first | (with_reducible assumption))))); done))) | (apply Exists.intro; apply And.intro; first | (with_reducible assumption) | ((try simp only [List.getElem?_drop, Nat.mul_one, Nat.add_zero, Nat.zero_add]); first | (with_reducible assumption) | rfl)) | (apply And.intro; (first | rfl | (with_reducible assumption) | exact Nat.le_of_ble_eq_true rfl | omega | (simp <;> omega))))) <;> (try (conv => whnf))
            refine AWp_loop (σ := Nat) (20 :: 22 :: 122 :: 123 :: 124 :: 125 :: 126 :: 127 :: 128 :: 129 :: 130 :: 131 :: 132 :: 133 :: 134 :: 135 :: 136 :: 137 :: []) (fun j => [(122, .int .i64 j), (20, .int .i64 (shS n P k (frm L a) j))]) (fun _ => G2) (fun j => j ≤ (frm L a).length) (fun j => (frm L a).length - j) 0 rfl (Nat.zero_le _) ⟨rfl, rfl, trivial⟩ (HLe.refl _) ?_
            intro j hj
            refine AWp.of tt_ok (dok _) rfl ?_
            dsimp only at hj ⊢
            have hbj := hbd j hj
            by_cases hjt : j < (frm L a).length
            · have hm := (frm_in L a _ (getD_in hjt)).1
              have gx : (iS .i64 (frm L a))[(j : Int).toNat]? = some (.int .i64 ((frm L a).getD j 0)) := iS_get hjt
              have hvb := (hlb ((frm L a).getD j 0).toNat (by omega)).2 k hkt
              unfold vOk at hvb
              have hS1 : shS n P k (frm L a) (j + 1) = shS n P k (frm L a) j + P.getD (((frm L a).getD j 0).toNat * n + k) 0 := rfl
              generalize (frm L a).getD j 0 = x at *
              have hxn : x.toNat * n + n ≤ 256 * n := by
                have := Nat.mul_le_mul_right n (show x.toNat + 1 ≤ 256 by omega)
                rwa [Nat.add_mul, Nat.one_mul] at this
              have w1 : IntKind.i64.wrap (x * (n : Int)) = ((x.toNat * n : Nat) : Int) := by
                rw [Int.natCast_mul, Int.toNat_of_nonneg hm.1, IntKind.wrap_i64]
                have : x * (n : Int) = ((x.toNat * n : Nat) : Int) := by rw [Int.natCast_mul, Int.toNat_of_nonneg hm.1]
                omega
              have gp : (iS .i64 P)[x.toNat * n + k]? = some (.int .i64 (P.getD (x.toNat * n + k) 0)) := iS_get (by omega)
              have hPl : (iS .i64 P).length = P.length := by simp
              generalize x.toNat * n = Q at *
              have gp : (iS .i64 P)[((Q : Int) + k).toNat]? = some (.int .i64 (P.getD (Q + k) 0)) := by rw [show ((Q : Int) + k).toNat = Q + k by omega]; exact gp
              have w2 : IntKind.i64.wrap ((Q : Int) + k) = (Q : Int) + k := by rw [IntKind.wrap_i64]; omega
              generalize P.getD (Q + k) 0 = u at *
              have w3 : IntKind.i64.wrap (shS n P k (frm L a) j + u) = shS n P k (frm L a) (j + 1) := by rw [hS1, IntKind.wrap_i64]; omega
              (repeat' ((conv => whnf); first | refine Then.mk ?_ | refine OpsA.cons ?_ | refine OpsA.nil ?_ | refine AWq.seq ?_ | refine AWq.region ?_ | refine AWq.cond ?_ | refine AWq.block ?_ | refine AWq.skip ?_ | refine AWq.ret ?_ | refine AWq.exit ?_ | refine AWq.loop ?_ | refine DrawA.consD ?_ | refine DrawA.nil ?_ | refine AWq.draw (by decide +kernel) ?_ | (refine Both.mk ?_ ?_ <;> intro hc <;> (first | exact Bool.noConfusion hc | exact absurd (by with_reducible rfl) hc | exact absurd hc (by assumption) | (exfalso; omega) | skip)) | (intro c hc; (try (simp only [AH.none_iff] at hc; repeat (have hn := hc.1; replace hc := hc.2))); (first | (have hc2 := Eq.trans hc (by with_reducible assumption); clear hc; subst hc2) | (refine i64_k hc ?_ ?_ ?_ ; omega; omega; (clear hc; intro hc; subst hc)) | subst hc | skip)) | (apply Exists.intro; apply And.intro; (first | (focus (repeat (first | (with_reducible assumption) | (with_reducible exact AH.set_same _ _ _) | ((first | refine AH.get_ne ?_ ?_); (first | (with_reducible assumption))))); done))) | (apply Exists.intro; apply And.intro; first | (with_reducible assumption) | ((try simp only [List.getElem?_drop, Nat.mul_one, Nat.add_zero, Nat.zero_add]); first | (with_reducible assumption) | rfl)) | (apply And.intro; (first | rfl | (with_reducible assumption) | exact Nat.le_of_ble_eq_true rfl | omega | (simp <;> omega))))) <;> (try (conv => whnf))
              exact ⟨j + 1, hjt, by omega, ⟨congrArg (AV.int .i64) (by omega), rfl, trivial⟩, HLe.refl _⟩
            · have hje : j = (frm L a).length := by omega
              subst hje
              have hpp := pixT a k haq
              unfold shP at hpp
              rw [if_neg h0] at hpp
              generalize shS n P k (frm L a) (frm L a).length = S at *
              generalize (frm L a).length = m at *
              have hfl := fun H => floor_c (2 * S + m) (2 * m) (by unfold I64; omega) (by omega) H
              rw [← hpp] at hfl
              have gB : G2 q2 = some (.row (iS .i64 (pxD n T (doneQ q i) a k)) v2) := by rw [hG2, hSh, AH.set_same]
              have lB : (iS .i64 (pxD n T (doneQ q i) a k)).length = 256 * n := by rw [iS_length]; exact pxD_len _ _ _ _ _
              have han : a * n + n ≤ 256 * n := by
                have := Nat.mul_le_mul_right n (show a + 1 ≤ 256 by omega)
                rwa [Nat.add_mul, Nat.one_mul] at this
              have w1 : IntKind.i64.wrap ((a : Int) * (n : Int)) = ((a * n : Nat) : Int) := by
                rw [← Int.natCast_mul, IntKind.wrap_i64]; omega
              have hwr : wrA (iS .i64 (pxD n T (doneQ q i) a k)) (a * n + k) [.int .i64 (pixA n T a k)] = iS .i64 (pxD n T (doneQ q i) a (k + 1)) := by
                rw [iS_wr1 (by rw [pxD_len]; omega), pxD_put hkt]
              have e5 : Sh (lbD T (doneQ q (i + 1))) (pxD n T (doneQ q i) a (k + 1)) = G2.set q2 (.row (wrA (iS .i64 (pxD n T (doneQ q i) a k)) (a * n + k) [.int .i64 (pixA n T a k)]) v2) := by
                rw [hwr, hG2, hSh, hSh, AH.set_set]
              generalize hRB : iS .i64 (pxD n T (doneQ q i) a k) = RB at *
              generalize a * n = Q at *
              have w2 : IntKind.i64.wrap ((Q : Int) + k) = (Q : Int) + k := by rw [IntKind.wrap_i64]; omega
              have w4 : IntKind.i64.wrap (2 * S) = 2 * S := by rw [IntKind.wrap_i64]; omega
              have w5 : IntKind.i64.wrap (2 * S + m) = 2 * S + m := by rw [IntKind.wrap_i64]; omega
              have w6 : IntKind.i64.wrap (2 * (m : Int)) = 2 * m := by rw [IntKind.wrap_i64]; omega
              rw [show Q + k = 0 + ((Q : Int) + k).toNat * 1 by omega] at e5
              (repeat' ((conv => whnf); first | refine Then.mk ?_ | refine OpsA.cons ?_ | refine OpsA.nil ?_ | refine AWq.seq ?_ | refine AWq.region ?_ | refine AWq.cond ?_ | refine AWq.block ?_ | refine AWq.skip ?_ | refine AWq.ret ?_ | refine AWq.exit ?_ | refine AWq.loop ?_ | refine DrawA.consD ?_ | refine DrawA.nil ?_ | refine AWq.draw (by decide +kernel) ?_ | (apply Exists.intro; apply And.intro; exact hfl _) | (refine Both.mk ?_ ?_ <;> intro hc <;> (first | exact Bool.noConfusion hc | exact absurd (by with_reducible rfl) hc | exact absurd hc (by assumption) | (exfalso; omega) | skip)) | (intro c hc; (try (simp only [AH.none_iff] at hc; repeat (have hn := hc.1; replace hc := hc.2))); (first | (have hc2 := Eq.trans hc (by with_reducible assumption); clear hc; subst hc2) | (refine i64_k hc ?_ ?_ ?_ ; omega; omega; (clear hc; intro hc; subst hc)) | subst hc | skip)) | (apply Exists.intro; apply And.intro; (first | (focus (repeat (first | (with_reducible assumption) | (with_reducible exact AH.set_same _ _ _) | ((first | refine AH.get_ne ?_ ?_); (first | (with_reducible assumption))))); done))) | (apply Exists.intro; apply And.intro; first | (with_reducible assumption) | ((try simp only [List.getElem?_drop, Nat.mul_one, Nat.add_zero, Nat.zero_add]); first | (with_reducible assumption) | rfl)) | (apply And.intro; (first | rfl | (with_reducible assumption) | exact Nat.le_of_ble_eq_true rfl | omega | (simp <;> omega))))) <;> (try (conv => whnf))
              exact ⟨k + 1, hkt, by omega, ⟨congrArg (AV.int .i64) (by omega), trivial⟩, HLe.of_eq e5⟩
          · have hke : k = n := by omega
            subst hke
            (repeat' ((conv => whnf); first | refine Then.mk ?_ | refine OpsA.cons ?_ | refine OpsA.nil ?_ | refine AWq.seq ?_ | refine AWq.region ?_ | refine AWq.cond ?_ | refine AWq.block ?_ | refine AWq.skip ?_ | refine AWq.ret ?_ | refine AWq.exit ?_ | refine AWq.loop ?_ | refine DrawA.consD ?_ | refine DrawA.nil ?_ | refine AWq.draw (by decide +kernel) ?_ | (refine Both.mk ?_ ?_ <;> intro hc <;> (first | exact Bool.noConfusion hc | exact absurd (by with_reducible rfl) hc | exact absurd hc (by assumption) | (exfalso; omega) | skip)) | (intro c hc; (try (simp only [AH.none_iff] at hc; repeat (have hn := hc.1; replace hc := hc.2))); (first | (have hc2 := Eq.trans hc (by with_reducible assumption); clear hc; subst hc2) | (refine i64_k hc ?_ ?_ ?_ ; omega; omega; (clear hc; intro hc; subst hc)) | subst hc | skip)) | (apply Exists.intro; apply And.intro; (first | (focus (repeat (first | (with_reducible assumption) | (with_reducible exact AH.set_same _ _ _) | ((first | refine AH.get_ne ?_ ?_); (first | (with_reducible assumption))))); done))) | (apply Exists.intro; apply And.intro; first | (with_reducible assumption) | ((try simp only [List.getElem?_drop, Nat.mul_one, Nat.add_zero, Nat.zero_add]); first | (with_reducible assumption) | rfl)) | (apply And.intro; (first | rfl | (with_reducible assumption) | exact Nat.le_of_ble_eq_true rfl | omega | (simp <;> omega))))) <;> (try (conv => whnf))
            exact ⟨i + 1, hit, by omega, ⟨congrArg (AV.int .i64) (by omega), trivial⟩, HLe.of_eq (by rw [pxD_end (p2 := 0) (by omega) hdq])⟩
      · have hie : i = 64 := by omega
        subst hie
        (repeat' ((conv => whnf); first | refine Then.mk ?_ | refine OpsA.cons ?_ | refine OpsA.nil ?_ | refine AWq.seq ?_ | refine AWq.region ?_ | refine AWq.cond ?_ | refine AWq.block ?_ | refine AWq.skip ?_ | refine AWq.ret ?_ | refine AWq.exit ?_ | refine AWq.loop ?_ | refine DrawA.consD ?_ | refine DrawA.nil ?_ | refine AWq.draw (by decide +kernel) ?_ | (refine Both.mk ?_ ?_ <;> intro hc <;> (first | exact Bool.noConfusion hc | exact absurd (by with_reducible rfl) hc | exact absurd hc (by assumption) | (exfalso; omega) | skip)) | (intro c hc; (try (simp only [AH.none_iff] at hc; repeat (have hn := hc.1; replace hc := hc.2))); (first | (have hc2 := Eq.trans hc (by with_reducible assumption); clear hc; subst hc2) | (refine i64_k hc ?_ ?_ ?_ ; omega; omega; (clear hc; intro hc; subst hc)) | subst hc | skip)) | (apply Exists.intro; apply And.intro; (first | (focus (repeat (first | (with_reducible assumption) | (with_reducible exact AH.set_same _ _ _) | ((first | refine AH.get_ne ?_ ?_); (first | (with_reducible assumption))))); done))) | (apply Exists.intro; apply And.intro; first | (with_reducible assumption) | ((try simp only [List.getElem?_drop, Nat.mul_one, Nat.add_zero, Nat.zero_add]); first | (with_reducible assumption) | rfl)) | (apply And.intro; (first | rfl | (with_reducible assumption) | exact Nat.le_of_ble_eq_true rfl | omega | (simp <;> omega))))) <;> (try (conv => whnf))
        exact ⟨q + 1, hqt, by omega, ⟨congrArg (AV.int .i64) (by omega), trivial⟩, HLe.of_eq (by rw [show doneQ (q + 1) 0 = doneQ q 64 from funext (doneQ_next q)])⟩
  · have hqe : q = 4 := by omega
    subst hqe
    have e2 : lbD T (doneQ 4 0) = shLL T := lbD_same fun a ha => .inl (doneQ_last a ha)
    have e3 : pxD n T (doneQ 4 0) 0 0 = shPP n T := pxD_same (by omega) fun a ha => .inl (doneQ_last a ha)
    rw [e2, e3]
    have gc := gc4 (shLL T) (shPP n T)
    have hle : HLe ((H.set q1 (.row (iS .i64 (shLL T)) v1)).set q2 (.row (iS .i64 (shPP n T)) v2)) (Sh (shLL T) (shPP n T)) := by
      rw [hSh]
      have n4 := Ne.symm hq1a
      have n5 := Ne.symm hq2a
      rw [AH.set_comm H _ _ n4, AH.set_comm (H.set q1 _) _ _ n5]
      exact HLe.fresh _ (by rw [AH.set_ne _ _ n5, AH.set_ne _ _ n4]; exact h4)
    have l1 := shLL_len T
    have l2 := shPP_len n T
    generalize Sh (shLL T) (shPP n T) = G at *
    (repeat' ((conv => whnf); first | refine Then.mk ?_ | refine OpsA.cons ?_ | refine OpsA.nil ?_ | refine AWq.seq ?_ | refine AWq.region ?_ | refine AWq.cond ?_ | refine AWq.block ?_ | refine AWq.skip ?_ | refine AWq.ret ?_ | refine AWq.exit ?_ | refine AWq.loop ?_ | refine DrawA.consD ?_ | refine DrawA.nil ?_ | refine AWq.draw (by decide +kernel) ?_ | (refine Both.mk ?_ ?_ <;> intro hc <;> (first | exact Bool.noConfusion hc | exact absurd (by with_reducible rfl) hc | exact absurd hc (by assumption) | (exfalso; omega) | skip)) | (intro c hc; (try (simp only [AH.none_iff] at hc; repeat (have hn := hc.1; replace hc := hc.2))); (first | (have hc2 := Eq.trans hc (by with_reducible assumption); clear hc; subst hc2) | (refine i64_k hc ?_ ?_ ?_ ; omega; omega; (clear hc; intro hc; subst hc)) | subst hc | skip)) | (apply Exists.intro; apply And.intro; (first | (focus (repeat (first | (with_reducible assumption) | (with_reducible exact AH.set_same _ _ _) | ((first | refine AH.get_ne ?_ ?_); (first | (with_reducible assumption))))); done))) | (apply Exists.intro; apply And.intro; first | (with_reducible assumption) | ((try simp only [List.getElem?_drop, Nat.mul_one, Nat.add_zero, Nat.zero_add]); first | (with_reducible assumption) | rfl)) | (apply And.intro; (first | rfl | (with_reducible assumption) | exact Nat.le_of_ble_eq_true rfl | omega | (simp <;> omega))))) <;> (try (conv => whnf))
    exact ⟨q1, q2, v1, v2, shLL T, shPP n T, n, hq1b, hq2b, n12, by rw [l1, l2]; rfl, HLe.set_of _ _ hle (by rw [AH.set_ne _ _ (Ne.symm hq2a), AH.set_ne _ _ (Ne.symm hq1a)]; exact h4), rfl⟩
end Go.Proofs.Ytghielfbdpkhmaa
/- Four tiles made from numbers: there are such. -/
namespace Go.Proofs.Ytghielfbdpkhmaa
open Go.Fw Go
set_option linter.unusedVariables false
set_option linter.unusedSimpArgs false

theorem tlN_fit (x : Int) (l : List Int) (b : Int) : (tlN x l (1 + aro b 3)).Fit := by
  have h := aro_lt (n := b) (m := 3) (by decide)
  unfold tlN
  exact ⟨by unfold I64; dsimp only; omega, by dsimp only; rw [fnL_len]; omega, by dsimp only; rw [fnL_len]; omega⟩
theorem zero_fit : Tl.zero.Fit := ⟨by decide, by decide, by decide⟩
theorem four_ex (l m : List Int) (hl : ∀ n ∈ l, -9223372036854775808 ≤ n ∧ n ≤ 9223372036854775807) (hz : l.length * 8 ≤ 140737488351232) (hm : ∀ n ∈ m, -9223372036854775808 ≤ n ∧ n ≤ 9223372036854775807) (hml : m.length ≤ maxLen)
    (b how y : Int) (hb : I64 b) (hh : I64 how) (hy : I64 y) : ∃ T : Nat → Tl, (∀ q, (T q).Fit) ∧ (¬ aro how 3 = 0 → ∀ q, T q = Tl.zero ∨ ∃ x, T q = tlN x l (1 + aro b 3)) ∧
    ∀ H, ACall Try.prog 43 [.cs (iS .i64 l) l.length, .cs (iS .i64 m) m.length, .int .i64 b, .int .i64 how, .int .i64 y] H (fun z H' => z = .agg (rowF T) ∧ H' = H) := by
  have hex : ∀ i : Nat, ∃ t : Tl, t.Fit ∧ (¬ aro how 3 = 0 → t = Tl.zero ∨ ∃ x, t = tlN x l (1 + aro b 3)) ∧
      ((pickV m i 7 = 0 ∧ t = Tl.zero) ∨ (pickV m i 7 = 1 ∧ aro how 3 = 0 ∧ ∀ H, ACall Try.prog 37 [(tlN (pickV m ((i : Int) + 4) 100 : Nat) l (1 + aro b 3)).v, .int .i64 (IntKind.i64.wrap (how.tdiv 3)), .int .i64 y] H (fun z H' => z = t.v ∧ H' = H)) ∨
      (pickV m i 7 ≠ 0 ∧ ¬ (pickV m i 7 = 1 ∧ aro how 3 = 0) ∧ t = tlN (pickV m ((i : Int) + 4) 100 : Nat) l (1 + aro b 3))) := fun i => by
    by_cases h0 : pickV m i 7 = 0
    · exact ⟨Tl.zero, zero_fit, fun _ => .inl rfl, .inl ⟨h0, rfl⟩⟩
    · by_cases h1 : pickV m i 7 = 1 ∧ aro how 3 = 0
      · have hf := tlN_fit (pickV m ((i : Int) + 4) 100 : Nat) l b
        have h3 := aro_lt (n := b) (m := 3) (by decide)
        have e1 : (tlN (pickV m ((i : Int) + 4) 100 : Nat) l (1 + aro b 3)).L.length = 256 := fnL_len _ _
        have e2 : (tlN (pickV m ((i : Int) + 4) 100 : Nat) l (1 + aro b 3)).P.length = 256 * (1 + aro b 3) := fnL_len _ _
        obtain ⟨b', L', P', p1, p2, p3, p4⟩ := spoilt_c (tlN (pickV m ((i : Int) + 4) 100 : Nat) l (1 + aro b 3)).b (tlN (pickV m ((i : Int) + 4) 100 : Nat) l (1 + aro b 3)).L (tlN (pickV m ((i : Int) + 4) 100 : Nat) l (1 + aro b 3)).P hf.b (by omega) (by omega) (IntKind.i64.wrap (how.tdiv 3)) (by unfold I64; rw [IntKind.wrap_i64]; omega) y hy
        exact ⟨⟨b', L', P'⟩, ⟨p1, by dsimp only; omega, by dsimp only; omega⟩, fun h => absurd h1.2 h, .inr (.inl ⟨h1.1, h1.2, p4⟩)⟩
      · exact ⟨_, tlN_fit _ l b, fun _ => .inr ⟨_, rfl⟩, .inr (.inr ⟨h0, h1, rfl⟩)⟩
  obtain ⟨T, hT⟩ : ∃ T : Nat → Tl, ∀ i : Nat, (T i).Fit ∧ (¬ aro how 3 = 0 → T i = Tl.zero ∨ ∃ x, T i = tlN x l (1 + aro b 3)) ∧
      ((pickV m i 7 = 0 ∧ T i = Tl.zero) ∨ (pickV m i 7 = 1 ∧ aro how 3 = 0 ∧ ∀ H, ACall Try.prog 37 [(tlN (pickV m ((i : Int) + 4) 100 : Nat) l (1 + aro b 3)).v, .int .i64 (IntKind.i64.wrap (how.tdiv 3)), .int .i64 y] H (fun z H' => z = (T i).v ∧ H' = H)) ∨
      (pickV m i 7 ≠ 0 ∧ ¬ (pickV m i 7 = 1 ∧ aro how 3 = 0) ∧ T i = tlN (pickV m ((i : Int) + 4) 100 : Nat) l (1 + aro b 3))) := ⟨fun i => Classical.choose (hex i), fun i => Classical.choose_spec (hex i)⟩
  exact ⟨T, fun q => (hT q).1, fun h q => (hT q).2.1 h, fun H => four_c l m hl hz hm hml b how y hb hh hy T (fun i _ => (hT i).2.2) H⟩
end Go.Proofs.Ytghielfbdpkhmaa
/- What Shrink answers is a tile, its values between those that they come from; equal tiles. -/
namespace Go.Proofs.Ytghielfbdpkhmaa
open Go.Fw Go
set_option linter.unusedVariables false
set_option linter.unusedSimpArgs false

theorem shLL_at (T : Nat → Tl) {a : Nat} (h : a < 256) : (shLL T).getD a 0 = labA T a := by
  unfold shLL lbD
  rw [getD_fnL _ h]
  exact if_pos rfl
theorem row_lt {n a k : Nat} (ha : a < 256) (hk : k < n) : a * n + k < 256 * n := by
  have := Nat.mul_le_mul_right n (show a + 1 ≤ 256 by omega)
  rw [Nat.add_mul, Nat.one_mul] at this
  omega
theorem shPP_at (n : Nat) (T : Nat → Tl) {a k : Nat} (h : a < 256) (hk : k < n) : (shPP n T).getD (a * n + k) 0 = pixA n T a k := by
  unfold shPP pxD
  rw [getD_fnL _ (row_lt h hk), at_div hk, at_mod hk, Bool.true_or]
  exact if_pos rfl
/-- A tile that is well. -/
structure Well (n : Nat) (L P : List Int) : Prop where
  l : L.length = 256
  p : P.length = 256 * n
  ok : lbOk n L P 256
theorem good_well {n : Nat} {t : Tl} (h : goodT n t) (hL : ¬ t.L.length = 0) : t.b = n ∧ Well n t.L t.P := by
  obtain ⟨h1, h2⟩ := h.resolve_left hL
  obtain ⟨⟨-, t2, t3⟩, t4⟩ := tile_good h1
  rw [h2] at t3 t4
  rw [Int.toNat_natCast] at t4
  exact ⟨h2, t2, by omega, t4⟩
theorem shL_bd {n : Nat} {L P : List Int} (w : Well n L P) (a : Nat) : (-1 ≤ shL L a ∧ shL L a ≤ 4095) ∧ (shL L a < 0 → (frm L a).length = 0) := by
  unfold shL
  by_cases h0 : (frm L a).length = 0
  · rw [if_pos h0]; exact ⟨by omega, fun _ => h0⟩
  · rw [if_neg h0]
    have := frm_labels w.l w.ok a _ (leastF_mem (fun x => L.getD x.toNat 0) (frm L a) ((frm L a).length - 1) (by omega))
    exact ⟨by omega, fun h => by omega⟩
theorem shP_bd {n : Nat} {L P : List Int} (w : Well n L P) (a : Nat) {b : Nat} (hb : b < n) : (0 ≤ shP n L P a b ∧ shP n L P a b ≤ 65535) ∧ ((frm L a).length = 0 → shP n L P a b = 0) := by
  unfold shP
  by_cases h0 : (frm L a).length = 0
  · rw [if_pos h0]; exact ⟨by omega, fun _ => rfl⟩
  · rw [if_neg h0]
    have := shS_bd w.l w.ok (a := a) hb (frm L a).length (Nat.le_refl _)
    refine ⟨⟨mix_lo (by omega) (by omega), mix_hi (by omega) (by omega)⟩, fun h => absurd h h0⟩
theorem shrink_tile {n : Nat} (hn : 1 ≤ n ∧ n ≤ 4) {T : Nat → Tl} (hg : ∀ q, q < 4 → goodT n (T q)) : tileE n (shLL T) (shPP n T) = 0 := by
  have hf : tForm (n : Int) (shLL T) (shPP n T) := by
    unfold tForm; rw [shLL_len, shPP_len]; omega
  have hl : lbOk n (shLL T) (shPP n T) 256 := fun a ha => by
    rw [shLL_at T ha]
    by_cases hL : (T (shQ a)).L.length = 0
    · refine ⟨by unfold labA; rw [if_pos hL]; omega, fun k hk => ?_⟩
      rw [shLL_at T ha, shPP_at n T ha hk]
      unfold vOk labA pixA
      rw [if_pos hL, if_pos hL]
      omega
    · have w := (good_well (hg _ (shQ_lt ha)) hL).2
      have e1 : labA T a = shL (T (shQ a)).L a := if_neg hL
      have b1 := shL_bd w a
      refine ⟨by rw [e1]; exact b1.1, fun k hk => ?_⟩
      have e2 : pixA n T a k = shP n (T (shQ a)).L (T (shQ a)).P a k := if_neg hL
      have b2 := shP_bd w a hk
      rw [shLL_at T ha, shPP_at n T ha hk, e1, e2]
      exact ⟨b2.1, fun h => b2.2 (b1.2 h)⟩
  unfold tileE
  rw [if_neg (fun h => h hf), Int.toNat_natCast, if_pos hl]
theorem sumN_lo {f : Nat → Int} {lo : Int} : ∀ k : Nat, (∀ j, j < k → lo ≤ f j) → (k : Int) * lo ≤ sumN f k
  | 0, _ => by show ((0 : Nat) : Int) * lo ≤ 0; rw [show ((0 : Nat) : Int) = 0 from rfl, Int.zero_mul]; exact Int.le_refl _
  | k + 1, h => by
    have ih := sumN_lo k fun j hj => h j (by omega)
    have := h k (by omega)
    show ((k + 1 : Nat) : Int) * lo ≤ sumN f k + f k
    rw [Int.natCast_add, Int.add_mul]
    omega
theorem sumN_hi {f : Nat → Int} {hi : Int} : ∀ k : Nat, (∀ j, j < k → f j ≤ hi) → sumN f k ≤ (k : Int) * hi
  | 0, _ => by show (0 : Int) ≤ ((0 : Nat) : Int) * hi; rw [show ((0 : Nat) : Int) = 0 from rfl, Int.zero_mul]; exact Int.le_refl _
  | k + 1, h => by
    have ih := sumN_hi k fun j hj => h j (by omega)
    have := h k (by omega)
    show sumN f k + f k ≤ ((k + 1 : Nat) : Int) * hi
    rw [Int.natCast_add, Int.add_mul]
    omega
/-- One that is at most the mean, one that is at least the mean. -/
theorem mean_lo {f : Nat → Int} {k : Nat} (hk : 0 < k) : ∃ j, j < k ∧ f j ≤ (2 * sumN f k + k) / (2 * k) := by
  refine Decidable.byContradiction fun h => ?_
  have h2 := sumN_lo (f := f) (lo := (2 * sumN f k + k) / (2 * k) + 1) k fun j hj => by
    have : ¬ f j ≤ (2 * sumN f k + k) / (2 * k) := fun h3 => h ⟨j, hj, h3⟩
    omega
  have := mix_lo (D := sumN f k) (A := (k : Int)) (by omega) h2
  omega
theorem mean_hi {f : Nat → Int} {k : Nat} (hk : 0 < k) : ∃ j, j < k ∧ (2 * sumN f k + k) / (2 * k) ≤ f j := by
  refine Decidable.byContradiction fun h => ?_
  have h2 := sumN_hi (f := f) (hi := (2 * sumN f k + k) / (2 * k) - 1) k fun j hj => by
    have : ¬ (2 * sumN f k + k) / (2 * k) ≤ f j := fun h3 => h ⟨j, hj, h3⟩
    omega
  have := mix_hi (D := sumN f k) (A := (k : Int)) (by omega) h2
  omega
/-- The pixels below a place. -/
def shX (a k : Nat) : Int := (shA (shF a)).getD k 0
theorem frm_at {L : List Int} {a : Nat} {x : Int} (h : x ∈ frm L a) : ∃ k, k < 4 ∧ shX a k = x := by
  have : x ∈ shA (shF a) := (List.mem_filter.1 h).1
  unfold shA at this
  simp only [List.mem_cons, List.not_mem_nil, or_false] at this
  rcases this with h | h | h | h
  · exact ⟨0, by omega, h.symm⟩
  · exact ⟨1, by omega, h.symm⟩
  · exact ⟨2, by omega, h.symm⟩
  · exact ⟨3, by omega, h.symm⟩
theorem at_frm {L : List Int} {a k : Nat} (hk : k < 4) (h : 0 ≤ L.getD (shX a k).toNat 0) : shX a k ∈ frm L a := by
  refine List.mem_filter.2 ⟨getD_in (show k < (shA (shF a)).length from hk), ?_⟩
  unfold lessP
  rw [decide_eq_false (by exact Int.not_lt.2 h)]
  rfl
def orK (c0 : Bool) (c : Nat → Bool) : Nat → Bool
  | 0 => c0
  | k + 1 => orK c0 c k || c k
theorem orK_some {c0 : Bool} {c : Nat → Bool} {n k : Nat} (hk : k < n) (h : c k = true) : orK c0 c n = true := by
  induction n with
  | zero => omega
  | succ n ih =>
    show (orK c0 c n || c n) = true
    by_cases e : k = n
    · rw [← e, h, Bool.or_true]
    · rw [ih (by omega), Bool.true_or]
theorem orK_first {c0 : Bool} {c : Nat → Bool} {n : Nat} (h : c0 = true) : orK c0 c n = true := by
  induction n with
  | zero => exact h
  | succ n ih => show (orK c0 c n || c n) = true; rw [ih, Bool.true_or]
def lessB (n : Nat) (L P : List Int) (a b : Nat) (l z : Int) : Nat → Bool := orK (decide (l < 0)) fun k => decide (0 ≤ L.getD (shX a k).toNat 0) && decide (P.getD ((shX a k).toNat * n + b) 0 ≤ z)
def moreB (n : Nat) (L P : List Int) (a b : Nat) (l z : Int) : Nat → Bool := orK (decide (l < 0)) fun k => decide (0 ≤ L.getD (shX a k).toNat 0) && decide (P.getD ((shX a k).toNat * n + b) 0 ≥ z)
def sameB (L : List Int) (a : Nat) (l : Int) : Nat → Bool := orK (decide (l < 0)) fun k => decide (0 ≤ L.getD (shX a k).toNat 0) && decide (L.getD (shX a k).toNat 0 = l)
theorem less_end {n : Nat} {L P : List Int} (w : Well n L P) (a : Nat) {b : Nat} (hb : b < n) : lessB n L P a b (shL L a) (shP n L P a b) 4 = true := by
  by_cases h0 : (frm L a).length = 0
  · refine orK_first (decide_eq_true ?_)
    unfold shL; rw [if_pos h0]; omega
  · obtain ⟨j, hj, hjl⟩ := mean_lo (f := fun j => P.getD (((frm L a).getD j 0).toNat * n + b) 0) (k := (frm L a).length) (by omega)
    obtain ⟨k, hk, hkx⟩ := frm_at (getD_in hj)
    refine orK_some hk ?_
    have := (frm_in L a _ (getD_in hj)).2
    rw [hkx, decide_eq_true this, Bool.true_and]
    refine decide_eq_true ?_
    unfold shP; rw [if_neg h0]; exact hjl
theorem more_end {n : Nat} {L P : List Int} (w : Well n L P) (a : Nat) {b : Nat} (hb : b < n) : moreB n L P a b (shL L a) (shP n L P a b) 4 = true := by
  by_cases h0 : (frm L a).length = 0
  · refine orK_first (decide_eq_true ?_)
    unfold shL; rw [if_pos h0]; omega
  · obtain ⟨j, hj, hjl⟩ := mean_hi (f := fun j => P.getD (((frm L a).getD j 0).toNat * n + b) 0) (k := (frm L a).length) (by omega)
    obtain ⟨k, hk, hkx⟩ := frm_at (getD_in hj)
    refine orK_some hk ?_
    have := (frm_in L a _ (getD_in hj)).2
    rw [hkx, decide_eq_true this, Bool.true_and]
    refine decide_eq_true ?_
    unfold shP; rw [if_neg h0]; exact hjl
theorem same_end {L : List Int} (a : Nat) : sameB L a (shL L a) 4 = true := by
  by_cases h0 : (frm L a).length = 0
  · refine orK_first (decide_eq_true ?_)
    unfold shL; rw [if_pos h0]; omega
  · have hm := leastF_mem (fun x => L.getD x.toNat 0) (frm L a) ((frm L a).length - 1) (by omega)
    obtain ⟨k, hk, hkx⟩ := frm_at hm
    refine orK_some hk ?_
    have := (frm_in L a _ hm).2
    rw [hkx, decide_eq_true this, Bool.true_and]
    refine decide_eq_true ?_
    unfold shL; rw [if_neg h0]
/-- A pixel with a label: the label there is, and is at most it. -/
theorem least_le {n : Nat} {L P : List Int} (w : Well n L P) {a k : Nat} (hk : k < 4) (h : 0 ≤ L.getD (shX a k).toNat 0) : 0 ≤ shL L a ∧ shL L a ≤ L.getD (shX a k).toNat 0 := by
  have hm := at_frm hk h
  have h0 : ¬ (frm L a).length = 0 := fun h0 => by rw [List.eq_nil_of_length_eq_zero h0] at hm; cases hm
  have hb := shL_bd w a
  refine ⟨Int.not_lt.1 fun hl => h0 (hb.2 hl), ?_⟩
  obtain ⟨j, hj, hje⟩ := List.getElem_of_mem hm
  have := leastF_le (fun x => L.getD x.toNat 0) (frm L a) ((frm L a).length - 1) j (by omega)
  rw [List.getD_eq_getElem?_getD (l := frm L a), List.getElem?_eq_getElem hj, hje] at this
  unfold shL; rw [if_neg h0]; exact this
/-- Four equal tiles. -/
def oneT (n : Nat) (l v : Int) : Tl := ⟨n, fnL 256 fun _ => l, fnL (256 * n) fun _ => v⟩
theorem one_well (n : Nat) {l v : Int} (hl : 0 ≤ l ∧ l ≤ 4095) (hv : 0 ≤ v ∧ v ≤ 65535) : Well n (fnL 256 fun _ => l) (fnL (256 * n) fun _ => v) := by
  refine ⟨fnL_len _ _, fnL_len _ _, fun j hj => ?_⟩
  rw [getD_fnL _ hj]
  refine ⟨by omega, fun k hk => ?_⟩
  rw [getD_fnL _ hj, getD_fnL _ (row_lt hj hk)]
  exact ⟨hv, fun h => by omega⟩
theorem one_good {n : Nat} (hn : 1 ≤ n ∧ n ≤ 4) {l v : Int} (hl : 0 ≤ l ∧ l ≤ 4095) (hv : 0 ≤ v ∧ v ≤ 65535) : goodT n (oneT n l v) := by
  have w := one_well n hl hv
  refine .inr ⟨?_, rfl⟩
  unfold oneT tileE
  dsimp only
  rw [if_neg (fun h => h (by unfold tForm; rw [w.l, w.p]; omega)), Int.toNat_natCast, if_pos w.ok]
theorem one_frm {l : Int} (hl : 0 ≤ l) (a : Nat) : frm (fnL 256 fun _ => l) a = shA (shF a) := by
  unfold frm
  refine keep_none fun i hi => ?_
  have := shA_in (shF_le a) _ (getD_in hi)
  unfold lessP
  rw [getD_fnL _ (by omega)]
  exact decide_eq_false (by omega)
theorem sum_const (c : Int) : ∀ k : Nat, sumN (fun _ => c) k = k * c
  | 0 => by show (0 : Int) = ((0 : Nat) : Int) * c; rw [show ((0 : Nat) : Int) = 0 from rfl, Int.zero_mul]
  | k + 1 => by show sumN (fun _ => c) k + c = _; rw [sum_const c k, Int.natCast_add, Int.add_mul]; omega
theorem one_lab {n : Nat} {l v : Int} (hl : 0 ≤ l ∧ l ≤ 4095) : shLL (fun _ => oneT n l v) = fnL 256 fun _ => l := fnL_congr fun a ha => by
  rw [if_pos rfl]
  have hL : ¬ (oneT n l v).L.length = 0 := by unfold oneT; dsimp only; rw [fnL_len]; omega
  unfold labA
  rw [if_neg hL]
  unfold oneT shL
  dsimp only
  have h4 : (frm (fnL 256 fun _ => l) a).length = 4 := by rw [one_frm hl.1]; rfl
  rw [if_neg (by omega)]
  have := (frm_in _ a _ (leastF_mem (fun x => (fnL 256 fun _ => l).getD x.toNat 0) (frm (fnL 256 fun _ => l) a) ((frm (fnL 256 fun _ => l) a).length - 1) (by omega))).1
  rw [getD_fnL _ (by omega)]
theorem one_pix {n : Nat} (hn : 1 ≤ n) {l v : Int} (hl : 0 ≤ l ∧ l ≤ 4095) : shPP n (fun _ => oneT n l v) = fnL (256 * n) fun _ => v := fnL_congr fun j hj => by
  have ha : j / n < 256 := Nat.div_lt_of_lt_mul (by rw [Nat.mul_comm]; exact hj)
  have hk : j % n < n := Nat.mod_lt _ (by omega)
  rw [Bool.true_or, if_pos rfl]
  generalize j / n = a at *
  generalize j % n = k at *
  have hL : ¬ (oneT n l v).L.length = 0 := by unfold oneT; dsimp only; rw [fnL_len]; omega
  unfold pixA
  rw [if_neg hL]
  unfold oneT shP
  dsimp only
  have h4 : (frm (fnL 256 fun _ => l) a).length = 4 := by rw [one_frm hl.1]; rfl
  rw [if_neg (by omega)]
  have hs : shS n (fnL (256 * n) fun _ => v) k (frm (fnL 256 fun _ => l) a) (frm (fnL 256 fun _ => l) a).length = sumN (fun _ => v) (frm (fnL 256 fun _ => l) a).length := sumN_congr fun i hi => by
    have := (frm_in _ a _ (getD_in hi)).1
    exact getD_fnL _ (row_lt (by omega) hk)
  rw [hs, h4, sum_const]
  show (2 * (4 * v) + 4) / (2 * 4) = v
  omega
end Go.Proofs.Ytghielfbdpkhmaa
/- A row within a value, frozen. -/
set_option linter.unusedVariables false
namespace Go.Fw
open Go.RowKit

/-- A row in a value, told as a constant. -/
def Fr (r v : Nat) (cells : List AV) (a a' : AV) : Prop := ∀ (κ : KM) (F F' : FM) (x : Value), FLe F F' → (∀ (es m : Nat) (lim : Option Nat) (y : Value), cells.length = m * es → VR κ F (.sl r v es 0 m lim) y → VR κ F' (.cs cells m) y) → VR κ F a x → VR κ F' a' x
theorem Fr.refl {r v : Nat} {cells : List AV} (a : AV) : Fr r v cells a a := fun κ F F' x hF _ hx => hx.mono (KLe.refl _) hF
theorem Fr.sl {r v es m : Nat} {lim : Option Nat} {cells : List AV} (h : cells.length = m * es) : Fr r v cells (.sl r v es 0 m lim) (.cs cells m) := fun κ F F' x _ hs hx => hs _ _ _ _ h hx
theorem Fr.cs {r v n : Nat} {cells l m : List AV} (hl : m.length = l.length) (h : ∀ i (hi : i < l.length) (hj : i < m.length), Fr r v cells l[i] m[i]) : Fr r v cells (.cs l n) (.cs m n) := fun κ F F' x hF hs hx => by
  cases hx with
  | cs0 a c =>
    have : m = [] := by apply List.eq_nil_of_length_eq_zero; rw [hl]; rfl
    rw [this]; exact .cs0 _ _
  | cs hFb hle hc hi => exact .cs (hF _ _ hFb) (by rw [hl]; exact hle) hc fun i hj => h i (by rw [← hl]; exact hj) hj κ F F' _ hF hs (hi i (by rw [← hl]; exact hj))
theorem AWp_freezeIn {P : Program} {N : Nat} {ro : Option Nat} {ws : Nat → Bool} {c : Code} {K R : St → AH → Prop} {X : Nat → St → AH → Prop} {s : St} {H : AH} (t : Nat) {r v : Nat} {cells : List AV} {a a' : AV} (hts : ws t = true)
    (he : s.e t = a) (hH : H r = some (.row cells v)) (hfr : Fr r v cells a a')
    (h : AWp N P ro ws c K R X ⟨retold [t] a' s.e, s.d⟩ (H.del r)) : AWp N P ro ws c K R X s H := by
  refine ⟨fun κ F B w0 w a I hE => ?_⟩
  obtain ⟨F', hF, I', hall⟩ := I.coolAll hH
  have hag : Agree ws s ⟨retold [t] a' s.e, s.d⟩ := by
    intro u hu
    simp only [retold]
    cases hm : memA [t] u with
    | false => rfl
    | true =>
      have : u = t := by have := (memA_iff _ _).1 hm; simpa using this
      rw [this, hts] at hu; cases hu
  have hE' : ER κ F' N ⟨retold [t] a' s.e, s.d⟩ a := by
    refine ⟨fun u => ?_, hE.size, hE.d⟩
    simp only [retold]
    cases hm : memA [t] u with
    | false => exact (hE.e u).mono (KLe.refl _) hF
    | true =>
      have hut : u = t := by have := (memA_iff _ _).1 hm; simpa using this
      have hx := hE.e u
      rw [hut, he] at hx
      rw [hut]
      exact hfr κ F F' _ hF (fun es m lim y hl hy => hall _ _ _ _ _ hl hy) hx
  exact wpIn_mono (h.out κ F' B w0 w a I' hE') (fun e a w hq => QOk.from (KLe.refl _) hF hag hq)

end Go.Fw
/- The law BlendLevels: the contract of the law's function. -/
namespace Go.Fw
open Go.RowKit
theorem Fr.cp {r v : Nat} {cells l m : List AV} (hl : m.length = l.length) (h : ∀ i (hi : i < l.length) (hj : i < m.length), Fr r v cells l[i] m[i]) : Fr r v cells (.cp l) (.cp m) := fun κ F F' x hF hs hx => by
  cases hx with
  | cp hFb hle hi => exact .cp (hF _ _ hFb) (by rw [hl]; exact hle) fun i hj => h i (by rw [← hl]; exact hj) hj κ F F' _ hF hs (hi i (by rw [← hl]; exact hj))
end Go.Fw
namespace Go.Proofs.Ytghielfbdpkhmaa
open Go.Fw Go
set_option linter.unusedVariables false
set_option linter.unusedSimpArgs false

theorem tlN_good (x : Int) (l : List Int) (b : Int) : goodT ((1 + aro b 3 : Nat) : Int) (tlN x l (1 + aro b 3)) := by
  have h3 := aro_lt (n := b) (m := 3) (by decide)
  unfold tlN
  generalize hn : 1 + aro b 3 = n at *
  refine .inr ⟨?_, rfl⟩
  dsimp only
  have hf : tForm (n : Int) (fnL 256 (tlA (x :: l))) (fnL (256 * n) (tlB (x :: l) n)) := by
    unfold tForm; rw [fnL_len, fnL_len]; omega
  have hl : lbOk n (fnL 256 (tlA (x :: l))) (fnL (256 * n) (tlB (x :: l) n)) 256 := fun i hi => by
    have hb := lblN_bd (x :: l) 16 i
    rw [getD_fnL _ hi]
    refine ⟨by unfold tlA; omega, fun k hk => ?_⟩
    rw [getD_fnL _ hi, getD_fnL _ (row_lt hi hk), tlB_at (x :: l) i hk]
    unfold vOk tlA tlQ
    split <;> omega
  unfold tileE
  rw [if_neg (fun h => h hf), Int.toNat_natCast, if_pos hl]
set_option maxHeartbeats 8000000 in
set_option maxRecDepth 8000 in
theorem BlendLevels_c (l0 : List Int) (hl0 : l0.length ≤ maxLen) (hz0 : l0.length * 8 ≤ 140737488351232) (hr0 : ∀ n ∈ l0, -9223372036854775808 ≤ n ∧ n ≤ 9223372036854775807) (l1 : List Int) (hl1 : l1.length ≤ maxLen) (hz1 : l1.length * 8 ≤ 140737488351232) (hr1 : ∀ n ∈ l1, -9223372036854775808 ≤ n ∧ n ≤ 9223372036854775807) (x2 : Int) (hx2 : -9223372036854775808 ≤ x2 ∧ x2 ≤ 9223372036854775807) (x3 : Int) (hx3 : -9223372036854775808 ≤ x3 ∧ x3 ≤ 9223372036854775807) (x4 : Int) (hx4 : -9223372036854775808 ≤ x4 ∧ x4 ≤ 9223372036854775807) :
    ACall Try.prog 12 [.cs (iS .i64 l0) l0.length, .cs (iS .i64 l1) l1.length, .int .i64 x2, .int .i64 x3, .int .i64 x4] (fun _ => none) (fun y _ => y = .bool true) := by
  obtain ⟨T, hT, hT2, hF⟩ := four_ex l0 l1 hr0 hz0 hr1 hl1 x2 1 0 hx2 (by decide) (by decide)
  have hT2 := hT2 (by decide)
  have a3 := fun H => around_f x2 hx2.1 hx2.2 3 (by decide) (by decide) H
  have a4 := fun H => around_f x3 hx3.1 hx3.2 4096 (by decide) (by decide) H
  have a6 := fun H => around_f x4 hx4.1 hx4.2 65536 (by decide) (by decide) H
  have h3 := aro_lt (n := x2) (m := 3) (by decide)
  have h4 := aro_lt (n := x3) (m := 4096) (by decide)
  have h6 := aro_lt (n := x4) (m := 65536) (by decide)
  have hg : ∀ q, q < 4 → goodT ((1 + aro x2 3 : Nat) : Int) (T q) := fun q _ => by
    rcases hT2 q with h | ⟨x, h⟩
    · rw [h]; exact .inl rfl
    · rw [h]; exact tlN_good _ _ _
  obtain ⟨n, hn⟩ : ∃ n, n = 1 + aro x2 3 := ⟨_, rfl⟩
  rw [← hn] at hg
  generalize aro x2 3 = n3 at *
  have w1 : IntKind.i64.wrap (1 + (n3 : Int)) = n := by rw [IntKind.wrap_i64]; omega
  generalize aro x3 4096 = lv at *
  generalize aro x4 65536 = vv at *
  have hn14 : 1 ≤ n ∧ n ≤ 4 := by omega
  have s1 := fun H => shrink_ok n (by omega) T (fun q _ => hT q) hg H
  have vc := fun H => valid_c (n : Int) (shLL T) (shPP n T) (by unfold I64; omega) (by unfold tI; rw [shLL_len]; omega) (by unfold tI; rw [shPP_len]; omega) H
  rw [shrink_tile hn14 hg] at vc
  have em := fun H => empty_r n (by omega) H
  have g1 := fun q (_ : q < 4) => one_good hn14 (l := lv) (v := vv) (by omega) (by omega)
  have s2 := fun H => shrink_ok n (by omega) (fun _ => oneT n lv vv) (fun q _ => ⟨by unfold oneT I64; dsimp only; omega, by unfold oneT; dsimp only; rw [fnL_len]; omega, by unfold oneT; dsimp only; rw [fnL_len]; omega⟩) g1 H
  rw [one_lab (n := n) (by omega), one_pix (n := n) (by omega) (by omega)] at s2
  have m2 := fun H => same_t n (fnL 256 fun _ => (lv : Int)) (fnL (256 * n) fun _ => (vv : Int)) (by unfold tI; rw [fnL_len]; omega) (by unfold tI; rw [fnL_len]; omega) H
  unfold tV at s1 vc s2 m2
  rw [shLL_len, shPP_len] at s1 vc
  unfold rowF rowT oneT Tl.cells at s2
  dsimp only at s2
  simp only [fnL_len, List.cons_append, List.nil_append] at s2 m2
  have hseg : ∀ q : Nat, q < 4 → List.take 3 (List.drop ((q : Int).toNat * 3) (rowF T)) = (T q).cells := fun q hq => by
    rw [Int.toNat_natCast]; exact rowF_seg T hq
  have hRl := rowF_len T
  have hR12 : List.take 12 (rowF T) = rowF T := List.take_of_length_le (by omega)
  have ho : (rowF T).all one = true := rfl
  generalize rowF T = R at *
  generalize (fun _ => none : AH) = H0
  rw [← hR12] at s1
  refine ACall_of tt_ok (dok _) Try.func12 rfl (by decide) rfl ?_
  (repeat' ((conv => whnf); first | left | refine OpsA.cons ?_ | refine OpsA.nil ?_ | refine AWq.seq ?_ | refine AWq.region ?_ | refine AWq.cond ?_ | refine AWq.block ?_ | refine AWq.skip ?_ | refine AWq.ret ?_ | refine AWq.exit ?_ | refine AWq.loop ?_ | refine DrawA.consD ?_ | refine DrawA.nil ?_ | refine AWq.draw (by decide +kernel) ?_ | (refine Both.mk ?_ ?_ <;> intro hc <;> (first | exact Bool.noConfusion hc | exact absurd (by with_reducible rfl) hc | exact absurd (by assumption) hc | exact absurd hc (by assumption) | (exfalso; omega) | skip)) | (intro c hc; (try (simp only [AH.none_iff] at hc; repeat (have hn := hc.1; replace hc := hc.2))); (first | (have hc2 := Eq.trans hc (by with_reducible assumption); clear hc; subst hc2) | (refine i64_k hc ?_ ?_ ?_ ; omega; omega; (clear hc; intro hc; subst hc)) | subst hc | skip)) | (apply Exists.intro; apply And.intro; (first | (focus (repeat (first | (with_reducible assumption) | (with_reducible exact AH.set_same _ _ _) | ((first | refine AH.get_ne ?_ ?_); (first | (with_reducible assumption))))); done))) | (apply Exists.intro; apply And.intro; first | (with_reducible assumption) | ((try simp only [List.getElem?_drop, Nat.mul_one, Nat.add_zero, Nat.zero_add]); first | (with_reducible assumption) | rfl)) | (apply And.intro; (first | rfl | (with_reducible assumption) | exact Nat.le_of_ble_eq_true rfl | omega | (simp <;> omega))))) <;> (try (conv => whnf))
  refine Then.mk ?_
  (repeat' ((conv => whnf); first | left | refine OpsA.cons ?_ | refine OpsA.nil ?_ | refine AWq.seq ?_ | refine AWq.region ?_ | refine AWq.cond ?_ | refine AWq.block ?_ | refine AWq.skip ?_ | refine AWq.ret ?_ | refine AWq.exit ?_ | refine AWq.loop ?_ | refine DrawA.consD ?_ | refine DrawA.nil ?_ | refine AWq.draw (by decide +kernel) ?_ | (refine Both.mk ?_ ?_ <;> intro hc <;> (first | exact Bool.noConfusion hc | exact absurd (by with_reducible rfl) hc | exact absurd (by assumption) hc | exact absurd hc (by assumption) | (exfalso; omega) | skip)) | (intro c hc; (try (simp only [AH.none_iff] at hc; repeat (have hn := hc.1; replace hc := hc.2))); (first | (have hc2 := Eq.trans hc (by with_reducible assumption); clear hc; subst hc2) | (refine i64_k hc ?_ ?_ ?_ ; omega; omega; (clear hc; intro hc; subst hc)) | subst hc | skip)) | (apply Exists.intro; apply And.intro; (first | (focus (repeat (first | (with_reducible assumption) | (with_reducible exact AH.set_same _ _ _) | ((first | refine AH.get_ne ?_ ?_); (first | (with_reducible assumption))))); done))) | (apply Exists.intro; apply And.intro; first | (with_reducible assumption) | ((try simp only [List.getElem?_drop, Nat.mul_one, Nat.add_zero, Nat.zero_add]); first | (with_reducible assumption) | rfl)) | (apply And.intro; (first | rfl | (with_reducible assumption) | exact Nat.le_of_ble_eq_true rfl | omega | (simp <;> omega))) | (refine ACall.to (hF _) ?_))) <;> (try (conv => whnf))
  refine Then.mk (AWq.in ?_)
  refine AWp_segP 11 R rfl rfl (by assumption) rfl hRl.symm ?_
  refine AWp.of tt_ok (dok _) rfl ?_
  have hLl : (iS .i64 (shLL T)).length = 256 := by rw [iS_length]; exact shLL_len T
  have hPl : (iS .i64 (shPP n T)).length = 256 * n := by rw [iS_length]; exact shPP_len n T
  (repeat' ((conv => whnf); first | (refine Then.mk (AWq.in ?_); refine AWp_segP 13 ([.int .i64 n, .cs (iS .i64 (shLL T)) 256, .cs (iS .i64 (shPP n T)) (256 * n)]) rfl rfl (by assumption) (rfl) (rfl) ?_; refine AWp.of tt_ok (dok _) rfl ?_) | refine Then.mk ?_ | left | refine OpsA.cons ?_ | refine OpsA.nil ?_ | refine AWq.seq ?_ | refine AWq.region ?_ | refine AWq.cond ?_ | refine AWq.block ?_ | refine AWq.skip ?_ | refine AWq.ret ?_ | refine AWq.exit ?_ | refine AWq.loop ?_ | refine DrawA.consD ?_ | refine DrawA.nil ?_ | refine AWq.draw (by decide +kernel) ?_ | (refine Both.mk ?_ ?_ <;> intro hc <;> (first | exact Bool.noConfusion hc | exact absurd (by with_reducible rfl) hc | exact absurd (by assumption) hc | exact absurd hc (by assumption) | (exfalso; omega) | skip)) | (intro c hc; (try (simp only [AH.none_iff] at hc; repeat (have hn := hc.1; replace hc := hc.2))); (first | (have hc2 := Eq.trans hc (by with_reducible assumption); clear hc; subst hc2) | (refine i64_k hc ?_ ?_ ?_ ; omega; omega; (clear hc; intro hc; subst hc)) | subst hc | skip)) | (apply Exists.intro; apply And.intro; (first | (focus (repeat (first | (with_reducible assumption) | (with_reducible exact AH.set_same _ _ _) | ((first | refine AH.get_ne ?_ ?_); (first | (with_reducible assumption))))); done))) | (apply Exists.intro; apply And.intro; first | (with_reducible assumption) | ((try simp only [List.getElem?_drop, Nat.mul_one, Nat.add_zero, Nat.zero_add]); first | (with_reducible assumption) | rfl)) | (apply And.intro; (first | rfl | (with_reducible assumption) | exact Nat.le_of_ble_eq_true rfl | omega | (simp <;> omega))) | (refine ACall.to (a3 _) ?_) | (refine ACall.to (s1 _) ?_) | (refine ACall.to (vc _) ?_))) <;> (try (conv => whnf))
  clear s1 vc hF a3
  refine AWp_loop (σ := Nat) (10 :: 15 :: 16 :: 17 :: 18 :: 19 :: 20 :: 21 :: 22 :: 69 :: 70 :: 71 :: 72 :: 73 :: 74 :: 75 :: 76 :: 77 :: 78 :: 79 :: 80 :: 81 :: 82 :: 83 :: 84 :: 85 :: 86 :: 87 :: 88 :: 89 :: 90 :: 91 :: 92 :: 93 :: 94 :: 95 :: 96 :: 97 :: 98 :: 99 :: 100 :: 101 :: 102 :: 103 :: 104 :: 105 :: 106 :: 107 :: 108 :: 109 :: 110 :: 111 :: 112 :: 113 :: 114 :: 115 :: 116 :: 117 :: 118 :: 119 :: 120 :: 121 :: 122 :: 123 :: 124 :: 125 :: 126 :: 127 :: 128 :: 129 :: 130 :: 131 :: 132 :: 133 :: 134 :: 135 :: 136 :: 137 :: 138 :: 139 :: 140 :: 141 :: 142 :: 143 :: 144 :: 145 :: 146 :: 147 :: 148 :: 149 :: 150 :: 151 :: 152 :: 153 :: 154 :: 155 :: 156 :: 157 :: 158 :: 159 :: 160 :: 161 :: 162 :: 163 :: 164 :: 165 :: 166 :: 167 :: 168 :: 169 :: 170 :: 171 :: 172 :: 173 :: 174 :: 175 :: 176 :: 177 :: 178 :: 179 :: 180 :: 181 :: 182 :: 183 :: 184 :: 185 :: 186 :: 187 :: 188 :: 189 :: 190 :: 191 :: 192 :: 193 :: 194 :: 195 :: 196 :: 197 :: 198 :: 199 :: 200 :: 201 :: 202 :: 203 :: 204 :: 205 :: 206 :: 207 :: 208 :: 209 :: 210 :: 211 :: 212 :: 213 :: 214 :: 215 :: 216 :: 217 :: 218 :: 219 :: 220 :: 221 :: 222 :: 223 :: 224 :: 225 :: 226 :: []) (fun p => [(15, .int .i64 p)]) (fun _ => H0) (fun p => p ≤ 256) (fun p => 256 - p) 0 rfl (Nat.zero_le _) ⟨rfl, trivial⟩ (HLe.refl _) ?_
  intro p hp
  refine AWp.of tt_ok (dok _) rfl ?_
  dsimp only at hp ⊢
  by_cases hpt : p < 256
  · obtain ⟨q, hq⟩ : ∃ q, q = shQ p := ⟨_, rfl⟩
    have hqt : q < 4 := by rw [hq]; exact shQ_lt hpt
    have hsg : List.take 3 (List.drop ((q : Int).toNat * 3) R) = (T q).cells := hseg q hqt
    have hgq := hg q hqt
    have hlab := shLL_at T hpt
    have hpix := fun k (hk : k < n) => shPP_at n T hpt hk
    unfold labA at hlab
    unfold pixA at hpix
    rw [← hq] at hlab hpix
    have gl : (iS .i64 (shLL T))[(p : Int).toNat]? = some (.int .i64 ((shLL T).getD p 0)) := iS_get (by rw [Int.toNat_natCast, shLL_len]; exact hpt)
    have ww : ∀ x : Int, 0 ≤ x → x < 1000000 → IntKind.i64.wrap x = x := fun x h1 h2 => by rw [IntKind.wrap_i64]; omega
    have eQ : IntKind.i64.wrap (IntKind.i64.wrap (IntKind.i64.wrap ((p : Int).tdiv 128) * 2) + IntKind.i64.wrap (((p : Int).tmod 16).tdiv 8)) = (q : Nat) := by
      rw [hq, show (p : Int).tdiv 128 = ((p / 128 : Nat) : Int) from rfl, show (p : Int).tmod 16 = ((p % 16 : Nat) : Int) from rfl, show ((p % 16 : Nat) : Int).tdiv 8 = ((p % 16 / 8 : Nat) : Int) from rfl,
        ww ((p / 128 : Nat) : Int) (by omega) (by omega), ww (((p / 128 : Nat) : Int) * 2) (by omega) (by omega), ww ((p % 16 / 8 : Nat) : Int) (by omega) (by omega), ww (((p / 128 : Nat) : Int) * 2 + ((p % 16 / 8 : Nat) : Int)) (by omega) (by omega)]
      unfold shQ
      omega
    by_cases hL0 : (T q).L.length = 0
    · rw [if_pos hL0] at hlab
      rw [hlab] at gl
      generalize T q = t at *
      obtain ⟨b, L, P⟩ := t
      unfold Tl.cells at hsg
      dsimp only at hsg hL0
      have ho3 : (List.take 3 (List.drop ((q : Int).toNat * 3) R)).all one = true := by rw [hsg]; rfl
      (repeat' ((conv => whnf); first | (refine Then.mk (AWq.in ?_); refine AWp_segP 16 ([.int .i64 b, .cs (iS .i64 L) L.length, .cs (iS .i64 P) P.length]) rfl rfl (by assumption) (hsg) (rfl) ?_; refine AWp.of tt_ok (dok _) rfl ?_) | refine Then.mk ?_ | left | refine OpsA.cons ?_ | refine OpsA.nil ?_ | refine AWq.seq ?_ | refine AWq.region ?_ | refine AWq.cond ?_ | refine AWq.block ?_ | refine AWq.skip ?_ | refine AWq.ret ?_ | refine AWq.exit ?_ | refine AWq.loop ?_ | refine DrawA.consD ?_ | refine DrawA.nil ?_ | refine AWq.draw (by decide +kernel) ?_ | (refine Both.mk ?_ ?_ <;> intro hc <;> (first | exact Bool.noConfusion hc | exact absurd (by with_reducible rfl) hc | exact absurd (by assumption) hc | exact absurd hc (by assumption) | (exfalso; omega) | skip)) | (intro c hc; (try (simp only [AH.none_iff] at hc; repeat (have hn := hc.1; replace hc := hc.2))); (first | (have hc2 := Eq.trans hc (by with_reducible assumption); clear hc; subst hc2) | (refine i64_k hc ?_ ?_ ?_ ; omega; omega; (clear hc; intro hc; subst hc)) | subst hc | skip)) | (apply Exists.intro; apply And.intro; (first | (focus (repeat (first | (with_reducible assumption) | (with_reducible exact AH.set_same _ _ _) | ((first | refine AH.get_ne ?_ ?_); (first | (with_reducible assumption))))); done))) | (apply Exists.intro; apply And.intro; first | (with_reducible assumption) | ((try simp only [List.getElem?_drop, Nat.mul_one, Nat.add_zero, Nat.zero_add]); first | (with_reducible assumption) | rfl)) | (apply And.intro; (first | rfl | (with_reducible assumption) | exact Nat.le_of_ble_eq_true rfl | omega | (simp <;> omega))) | (refine ACall.to (m2 _) ?_))) <;> (try (conv => whnf))
      exact ⟨p + 1, hpt, by omega, ⟨congrArg (AV.int .i64) (by omega), trivial⟩, HLe.refl _⟩
    · rw [if_neg hL0] at hlab
      obtain ⟨hb, w⟩ := good_well hgq hL0
      have hpix2 : ∀ k, k < n → (shPP n T).getD (p * n + k) 0 = shP n (T q).L (T q).P p k := fun k hk => by rw [hpix k hk, if_neg hL0]
      clear hpix
      rw [hlab] at gl
      generalize T q = t at *
      obtain ⟨b, L, P⟩ := t
      unfold Tl.cells at hsg
      dsimp only at hsg hL0 hb w gl hpix2 hlab
      subst hb
      have ho3 : (List.take 3 (List.drop ((q : Int).toNat * 3) R)).all one = true := by rw [hsg]; rfl
      have l1 : (iS .i64 L).length = L.length := by simp
      have l2 : (iS .i64 P).length = P.length := by simp
      have w_l := w.l
      have w_p := w.p
      (repeat' ((conv => whnf); first | (refine Then.mk (AWq.in ?_); refine AWp_segP 16 ([.int .i64 n, .cs (iS .i64 L) L.length, .cs (iS .i64 P) P.length]) rfl rfl (by assumption) (hsg) (rfl) ?_; refine AWp.of tt_ok (dok _) rfl ?_) | refine Then.mk ?_ | left | refine OpsA.cons ?_ | refine OpsA.nil ?_ | refine AWq.seq ?_ | refine AWq.region ?_ | refine AWq.cond ?_ | refine AWq.block ?_ | refine AWq.skip ?_ | refine AWq.ret ?_ | refine AWq.exit ?_ | refine AWq.loop ?_ | refine DrawA.consD ?_ | refine DrawA.nil ?_ | refine AWq.draw (by decide +kernel) ?_ | (refine Both.mk ?_ ?_ <;> intro hc <;> (first | exact Bool.noConfusion hc | exact absurd (by with_reducible rfl) hc | exact absurd (by assumption) hc | exact absurd hc (by assumption) | (exfalso; omega) | skip)) | (intro c hc; (try (simp only [AH.none_iff] at hc; repeat (have hn := hc.1; replace hc := hc.2))); (first | (have hc2 := Eq.trans hc (by with_reducible assumption); clear hc; subst hc2) | (refine i64_k hc ?_ ?_ ?_ ; omega; omega; (clear hc; intro hc; subst hc)) | subst hc | skip)) | (apply Exists.intro; apply And.intro; (first | (focus (repeat (first | (with_reducible assumption) | (with_reducible exact AH.set_same _ _ _) | ((first | refine AH.get_ne ?_ ?_); (first | (with_reducible assumption))))); done))) | (apply Exists.intro; apply And.intro; first | (with_reducible assumption) | ((try simp only [List.getElem?_drop, Nat.mul_one, Nat.add_zero, Nat.zero_add]); first | (with_reducible assumption) | rfl)) | (apply And.intro; (first | rfl | (with_reducible assumption) | exact Nat.le_of_ble_eq_true rfl | omega | (simp <;> omega))) | (refine ACall.to (m2 _) ?_))) <;> (try (conv => whnf))
      refine AWp_loop (σ := Nat) (10 :: 17 :: 18 :: 19 :: 20 :: 21 :: 22 :: 92 :: 93 :: 94 :: 95 :: 96 :: 97 :: 98 :: 99 :: 100 :: 101 :: 102 :: 103 :: 104 :: 105 :: 106 :: 107 :: 108 :: 109 :: 110 :: 111 :: 112 :: 113 :: 114 :: 115 :: 116 :: 117 :: 118 :: 119 :: 120 :: 121 :: 122 :: 123 :: 124 :: 125 :: 126 :: 127 :: 128 :: 129 :: 130 :: 131 :: 132 :: 133 :: 134 :: 135 :: 136 :: 137 :: 138 :: 139 :: 140 :: 141 :: 142 :: 143 :: 144 :: 145 :: 146 :: 147 :: 148 :: 149 :: 150 :: 151 :: 152 :: 153 :: 154 :: 155 :: 156 :: 157 :: 158 :: 159 :: 160 :: 161 :: 162 :: 163 :: 164 :: 165 :: 166 :: 167 :: 168 :: 169 :: 170 :: 171 :: 172 :: 173 :: 174 :: 175 :: 176 :: 177 :: 178 :: 179 :: 180 :: 181 :: 182 :: 183 :: 184 :: 185 :: 186 :: 187 :: 188 :: 189 :: 190 :: 191 :: 192 :: 193 :: 194 :: 195 :: 196 :: 197 :: 198 :: 199 :: 200 :: 201 :: 202 :: 203 :: 204 :: 205 :: 206 :: 207 :: 208 :: 209 :: 210 :: 211 :: 212 :: 213 :: 214 :: 215 :: 216 :: 217 :: 218 :: 219 :: 220 :: 221 :: 222 :: 223 :: 224 :: 225 :: 226 :: []) (fun k => [(17, .int .i64 k)]) (fun _ => H0) (fun k => k ≤ n) (fun k => n - k) 0 rfl (Nat.zero_le _) ⟨rfl, trivial⟩ (HLe.refl _) ?_
      intro b hb
      refine AWp.of tt_ok (dok _) rfl ?_
      dsimp only at hb ⊢
      by_cases hbt : b < n
      · have han := row_lt hpt hbt
        have gz : (iS .i64 (shPP n T))[p * n + b]? = some (.int .i64 (shP n L P p b)) := by rw [← hpix2 b hbt]; exact iS_get (by rw [shPP_len]; exact han)
        have le := less_end w p hbt
        have mo' := more_end w p hbt
        have se := same_end (L := L) p
        have hll := fun k (hk : k < 4) => least_le w (a := p) hk
        generalize shL L p = lab at *
        generalize shP n L P p b = z at *
        by_cases hl : lab < 0
        · (repeat' ((conv => whnf); first | refine Then.mk ?_ | left | refine OpsA.cons ?_ | refine OpsA.nil ?_ | refine AWq.seq ?_ | refine AWq.region ?_ | refine AWq.cond ?_ | refine AWq.block ?_ | refine AWq.skip ?_ | refine AWq.ret ?_ | refine AWq.exit ?_ | refine AWq.loop ?_ | refine DrawA.consD ?_ | refine DrawA.nil ?_ | refine AWq.draw (by decide +kernel) ?_ | (refine Both.mk ?_ ?_ <;> intro hc <;> (first | exact Bool.noConfusion hc | exact absurd (by with_reducible rfl) hc | exact absurd (by assumption) hc | exact absurd hc (by assumption) | (exfalso; omega) | skip)) | (intro c hc; (try (simp only [AH.none_iff] at hc; repeat (have hn := hc.1; replace hc := hc.2))); (first | (have hc2 := Eq.trans hc (by with_reducible assumption); clear hc; subst hc2) | (refine i64_k hc ?_ ?_ ?_ ; omega; omega; (clear hc; intro hc; subst hc)) | subst hc | skip)) | (apply Exists.intro; apply And.intro; (first | (focus (repeat (first | (with_reducible assumption) | (with_reducible exact AH.set_same _ _ _) | ((first | refine AH.get_ne ?_ ?_); (first | (with_reducible assumption))))); done))) | (apply Exists.intro; apply And.intro; first | (with_reducible assumption) | ((try simp only [List.getElem?_drop, Nat.mul_one, Nat.add_zero, Nat.zero_add]); first | (with_reducible assumption) | rfl)) | (apply And.intro; (first | rfl | (with_reducible assumption) | exact Nat.le_of_ble_eq_true rfl | omega | (simp <;> omega))))) <;> (try (conv => whnf))
          refine AWp_loop (σ := Nat) (10 :: 18 :: 19 :: 20 :: 21 :: 22 :: 115 :: 116 :: 117 :: 118 :: 119 :: 120 :: 121 :: 122 :: 123 :: 124 :: 125 :: 126 :: 127 :: 128 :: 129 :: 130 :: 131 :: 132 :: 133 :: 134 :: 135 :: 136 :: 137 :: 138 :: 139 :: 140 :: 141 :: 142 :: 143 :: 144 :: 145 :: 146 :: 147 :: 148 :: 149 :: 150 :: 151 :: 152 :: 153 :: 154 :: 155 :: 156 :: 157 :: 158 :: 159 :: 160 :: 161 :: 162 :: 163 :: 164 :: 165 :: 166 :: 167 :: 168 :: 169 :: 170 :: 171 :: 172 :: 173 :: 174 :: 175 :: 176 :: 177 :: 178 :: 179 :: 180 :: 181 :: 182 :: 183 :: 184 :: 185 :: 186 :: 187 :: 188 :: 189 :: 190 :: 191 :: 192 :: 193 :: 194 :: 195 :: 196 :: 197 :: 198 :: 199 :: 200 :: 201 :: 202 :: 203 :: 204 :: 205 :: 206 :: 207 :: 208 :: 209 :: 210 :: 211 :: 212 :: 213 :: 214 :: 215 :: 216 :: []) (fun k => [(21, .int .i64 k), (18, .bool true), (19, .bool true), (20, .bool true)]) (fun _ => H0) (fun k => k ≤ 4) (fun k => 4 - k) 0 rfl (Nat.zero_le _) ⟨rfl, rfl, rfl, rfl, trivial⟩ (HLe.refl _) ?_
          intro k hk
          refine AWp.of tt_ok (dok _) rfl ?_
          dsimp only at hk ⊢
          by_cases hkt : k < 4
          ·
            obtain ⟨x, hxe⟩ : ∃ x, x = shX p k := ⟨_, rfl⟩
            have hx : 0 ≤ x ∧ x < 256 := by rw [hxe]; exact shA_in (shF_le p) _ (getD_in (show k < (shA (shF p)).length from hkt))
            have eX : IntKind.i64.wrap (IntKind.i64.wrap (IntKind.i64.wrap (IntKind.i64.wrap (IntKind.i64.wrap ((IntKind.i64.wrap ((p : Int).tdiv 16)).tmod 8 * 2) + IntKind.i64.wrap ((k : Int).tdiv 2)) * 16) + IntKind.i64.wrap ((p : Int).tmod 8 * 2)) + (k : Int).tmod 2) = x := by
              have hx2 : x = 2 * ((p / 16 % 8 : Nat) : Int) * 16 + 2 * ((p % 8 : Nat) : Int) + ((k / 2 : Nat) : Int) * 16 + ((k % 2 : Nat) : Int) := by
                rw [hxe]
                unfold shX shF
                rcases (show k = 0 ∨ k = 1 ∨ k = 2 ∨ k = 3 by omega) with rfl | rfl | rfl | rfl <;> (unfold shA; simp only [List.getD_cons_zero, List.getD_cons_succ]; omega)
              rw [show (p : Int).tdiv 16 = ((p / 16 : Nat) : Int) from rfl, show (p : Int).tmod 8 = ((p % 8 : Nat) : Int) from rfl, ww ((p / 16 : Nat) : Int) (by omega) (by omega),
                show ((p / 16 : Nat) : Int).tmod 8 = ((p / 16 % 8 : Nat) : Int) from rfl, show (k : Int).tdiv 2 = ((k / 2 : Nat) : Int) from rfl, show (k : Int).tmod 2 = ((k % 2 : Nat) : Int) from rfl,
                ww (((p / 16 % 8 : Nat) : Int) * 2) (by omega) (by omega), ww ((k / 2 : Nat) : Int) (by omega) (by omega), ww (((p / 16 % 8 : Nat) : Int) * 2 + ((k / 2 : Nat) : Int)) (by omega) (by omega),
                ww ((((p / 16 % 8 : Nat) : Int) * 2 + ((k / 2 : Nat) : Int)) * 16) (by omega) (by omega), ww (((p % 8 : Nat) : Int) * 2) (by omega) (by omega),
                ww ((((p / 16 % 8 : Nat) : Int) * 2 + ((k / 2 : Nat) : Int)) * 16 + ((p % 8 : Nat) : Int) * 2) (by omega) (by omega),
                ww ((((p / 16 % 8 : Nat) : Int) * 2 + ((k / 2 : Nat) : Int)) * 16 + ((p % 8 : Nat) : Int) * 2 + ((k % 2 : Nat) : Int)) (by omega) (by omega)]
              omega
            have gx : (iS .i64 L)[x.toNat]? = some (.int .i64 (L.getD x.toNat 0)) := iS_get (by omega)
            have hx0 : L.getD x.toNat 0 < 0 := Int.not_le.1 fun h => by have := (hll k hkt (by rw [← hxe]; exact h)).1; omega
            (repeat' ((conv => whnf); first | refine Then.mk ?_ | left | refine OpsA.cons ?_ | refine OpsA.nil ?_ | refine AWq.seq ?_ | refine AWq.region ?_ | refine AWq.cond ?_ | refine AWq.block ?_ | refine AWq.skip ?_ | refine AWq.ret ?_ | refine AWq.exit ?_ | refine AWq.loop ?_ | refine DrawA.consD ?_ | refine DrawA.nil ?_ | refine AWq.draw (by decide +kernel) ?_ | (refine Both.mk ?_ ?_ <;> intro hc <;> (first | exact Bool.noConfusion hc | exact absurd (by with_reducible rfl) hc | exact absurd (by assumption) hc | exact absurd hc (by assumption) | (exfalso; omega) | skip)) | (intro c hc; (try (simp only [AH.none_iff] at hc; repeat (have hn := hc.1; replace hc := hc.2))); (first | (have hc2 := Eq.trans hc (by with_reducible assumption); clear hc; subst hc2) | (refine i64_k hc ?_ ?_ ?_ ; omega; omega; (clear hc; intro hc; subst hc)) | subst hc | skip)) | (apply Exists.intro; apply And.intro; (first | (focus (repeat (first | (with_reducible assumption) | (with_reducible exact AH.set_same _ _ _) | ((first | refine AH.get_ne ?_ ?_); (first | (with_reducible assumption))))); done))) | (apply Exists.intro; apply And.intro; first | (with_reducible assumption) | ((try simp only [List.getElem?_drop, Nat.mul_one, Nat.add_zero, Nat.zero_add]); first | (with_reducible assumption) | rfl)) | (apply And.intro; (first | rfl | (with_reducible assumption) | exact Nat.le_of_ble_eq_true rfl | omega | (simp <;> omega))))) <;> (try (conv => whnf))
            exact ⟨k + 1, hkt, by omega, ⟨congrArg (AV.int .i64) (by omega), rfl, rfl, rfl, trivial⟩, HLe.refl _⟩
          · (repeat' ((conv => whnf); first | refine Then.mk ?_ | left | refine OpsA.cons ?_ | refine OpsA.nil ?_ | refine AWq.seq ?_ | refine AWq.region ?_ | refine AWq.cond ?_ | refine AWq.block ?_ | refine AWq.skip ?_ | refine AWq.ret ?_ | refine AWq.exit ?_ | refine AWq.loop ?_ | refine DrawA.consD ?_ | refine DrawA.nil ?_ | refine AWq.draw (by decide +kernel) ?_ | (refine Both.mk ?_ ?_ <;> intro hc <;> (first | exact Bool.noConfusion hc | exact absurd (by with_reducible rfl) hc | exact absurd (by assumption) hc | exact absurd hc (by assumption) | (exfalso; omega) | skip)) | (intro c hc; (try (simp only [AH.none_iff] at hc; repeat (have hn := hc.1; replace hc := hc.2))); (first | (have hc2 := Eq.trans hc (by with_reducible assumption); clear hc; subst hc2) | (refine i64_k hc ?_ ?_ ?_ ; omega; omega; (clear hc; intro hc; subst hc)) | subst hc | skip)) | (apply Exists.intro; apply And.intro; (first | (focus (repeat (first | (with_reducible assumption) | (with_reducible exact AH.set_same _ _ _) | ((first | refine AH.get_ne ?_ ?_); (first | (with_reducible assumption))))); done))) | (apply Exists.intro; apply And.intro; first | (with_reducible assumption) | ((try simp only [List.getElem?_drop, Nat.mul_one, Nat.add_zero, Nat.zero_add]); first | (with_reducible assumption) | rfl)) | (apply And.intro; (first | rfl | (with_reducible assumption) | exact Nat.le_of_ble_eq_true rfl | omega | (simp <;> omega))))) <;> (try (conv => whnf))
            exact ⟨b + 1, hbt, by omega, ⟨congrArg (AV.int .i64) (by omega), trivial⟩, HLe.refl _⟩
        · have hd : decide (lab < 0) = false := decide_eq_false hl
          have i1 : lessB n L P p b lab z 0 = false := hd
          have i2 : moreB n L P p b lab z 0 = false := hd
          have i3 : sameB L p lab 0 = false := hd
          (repeat' ((conv => whnf); first | refine Then.mk ?_ | left | refine OpsA.cons ?_ | refine OpsA.nil ?_ | refine AWq.seq ?_ | refine AWq.region ?_ | refine AWq.cond ?_ | refine AWq.block ?_ | refine AWq.skip ?_ | refine AWq.ret ?_ | refine AWq.exit ?_ | refine AWq.loop ?_ | refine DrawA.consD ?_ | refine DrawA.nil ?_ | refine AWq.draw (by decide +kernel) ?_ | (refine Both.mk ?_ ?_ <;> intro hc <;> (first | exact Bool.noConfusion hc | exact absurd (by with_reducible rfl) hc | exact absurd (by assumption) hc | exact absurd hc (by assumption) | (exfalso; omega) | skip)) | (intro c hc; (try (simp only [AH.none_iff] at hc; repeat (have hn := hc.1; replace hc := hc.2))); (first | (have hc2 := Eq.trans hc (by with_reducible assumption); clear hc; subst hc2) | (refine i64_k hc ?_ ?_ ?_ ; omega; omega; (clear hc; intro hc; subst hc)) | subst hc | skip)) | (apply Exists.intro; apply And.intro; (first | (focus (repeat (first | (with_reducible assumption) | (with_reducible exact AH.set_same _ _ _) | ((first | refine AH.get_ne ?_ ?_); (first | (with_reducible assumption))))); done))) | (apply Exists.intro; apply And.intro; first | (with_reducible assumption) | ((try simp only [List.getElem?_drop, Nat.mul_one, Nat.add_zero, Nat.zero_add]); first | (with_reducible assumption) | rfl)) | (apply And.intro; (first | rfl | (with_reducible assumption) | exact Nat.le_of_ble_eq_true rfl | omega | (simp <;> omega))))) <;> (try (conv => whnf))
          refine AWp_loop (σ := Nat) (10 :: 18 :: 19 :: 20 :: 21 :: 22 :: 115 :: 116 :: 117 :: 118 :: 119 :: 120 :: 121 :: 122 :: 123 :: 124 :: 125 :: 126 :: 127 :: 128 :: 129 :: 130 :: 131 :: 132 :: 133 :: 134 :: 135 :: 136 :: 137 :: 138 :: 139 :: 140 :: 141 :: 142 :: 143 :: 144 :: 145 :: 146 :: 147 :: 148 :: 149 :: 150 :: 151 :: 152 :: 153 :: 154 :: 155 :: 156 :: 157 :: 158 :: 159 :: 160 :: 161 :: 162 :: 163 :: 164 :: 165 :: 166 :: 167 :: 168 :: 169 :: 170 :: 171 :: 172 :: 173 :: 174 :: 175 :: 176 :: 177 :: 178 :: 179 :: 180 :: 181 :: 182 :: 183 :: 184 :: 185 :: 186 :: 187 :: 188 :: 189 :: 190 :: 191 :: 192 :: 193 :: 194 :: 195 :: 196 :: 197 :: 198 :: 199 :: 200 :: 201 :: 202 :: 203 :: 204 :: 205 :: 206 :: 207 :: 208 :: 209 :: 210 :: 211 :: 212 :: 213 :: 214 :: 215 :: 216 :: []) (fun k => [(21, .int .i64 k), (18, .bool (lessB n L P p b lab z k)), (19, .bool (moreB n L P p b lab z k)), (20, .bool (sameB L p lab k))]) (fun _ => H0) (fun k => k ≤ 4) (fun k => 4 - k) 0 rfl (Nat.zero_le _) ⟨rfl, by rw [i1]; rfl, by rw [i2]; rfl, by rw [i3]; rfl, trivial⟩ (HLe.refl _) ?_
          clear i1 i2 i3
          intro k hk
          refine AWp.of tt_ok (dok _) rfl ?_
          dsimp only at hk ⊢
          by_cases hkt : k < 4
          ·
            obtain ⟨x, hxe⟩ : ∃ x, x = shX p k := ⟨_, rfl⟩
            have hx : 0 ≤ x ∧ x < 256 := by rw [hxe]; exact shA_in (shF_le p) _ (getD_in (show k < (shA (shF p)).length from hkt))
            have eX : IntKind.i64.wrap (IntKind.i64.wrap (IntKind.i64.wrap (IntKind.i64.wrap (IntKind.i64.wrap ((IntKind.i64.wrap ((p : Int).tdiv 16)).tmod 8 * 2) + IntKind.i64.wrap ((k : Int).tdiv 2)) * 16) + IntKind.i64.wrap ((p : Int).tmod 8 * 2)) + (k : Int).tmod 2) = x := by
              have hx2 : x = 2 * ((p / 16 % 8 : Nat) : Int) * 16 + 2 * ((p % 8 : Nat) : Int) + ((k / 2 : Nat) : Int) * 16 + ((k % 2 : Nat) : Int) := by
                rw [hxe]
                unfold shX shF
                rcases (show k = 0 ∨ k = 1 ∨ k = 2 ∨ k = 3 by omega) with rfl | rfl | rfl | rfl <;> (unfold shA; simp only [List.getD_cons_zero, List.getD_cons_succ]; omega)
              rw [show (p : Int).tdiv 16 = ((p / 16 : Nat) : Int) from rfl, show (p : Int).tmod 8 = ((p % 8 : Nat) : Int) from rfl, ww ((p / 16 : Nat) : Int) (by omega) (by omega),
                show ((p / 16 : Nat) : Int).tmod 8 = ((p / 16 % 8 : Nat) : Int) from rfl, show (k : Int).tdiv 2 = ((k / 2 : Nat) : Int) from rfl, show (k : Int).tmod 2 = ((k % 2 : Nat) : Int) from rfl,
                ww (((p / 16 % 8 : Nat) : Int) * 2) (by omega) (by omega), ww ((k / 2 : Nat) : Int) (by omega) (by omega), ww (((p / 16 % 8 : Nat) : Int) * 2 + ((k / 2 : Nat) : Int)) (by omega) (by omega),
                ww ((((p / 16 % 8 : Nat) : Int) * 2 + ((k / 2 : Nat) : Int)) * 16) (by omega) (by omega), ww (((p % 8 : Nat) : Int) * 2) (by omega) (by omega),
                ww ((((p / 16 % 8 : Nat) : Int) * 2 + ((k / 2 : Nat) : Int)) * 16 + ((p % 8 : Nat) : Int) * 2) (by omega) (by omega),
                ww ((((p / 16 % 8 : Nat) : Int) * 2 + ((k / 2 : Nat) : Int)) * 16 + ((p % 8 : Nat) : Int) * 2 + ((k % 2 : Nat) : Int)) (by omega) (by omega)]
              omega
            have gx : (iS .i64 L)[x.toNat]? = some (.int .i64 (L.getD x.toNat 0)) := iS_get (by omega)
            have e1 : lessB n L P p b lab z (k + 1) = (lessB n L P p b lab z k || (decide (0 ≤ L.getD x.toNat 0) && decide (P.getD (x.toNat * n + b) 0 ≤ z))) := by rw [hxe]; rfl
            have e2 : moreB n L P p b lab z (k + 1) = (moreB n L P p b lab z k || (decide (0 ≤ L.getD x.toNat 0) && decide (P.getD (x.toNat * n + b) 0 ≥ z))) := by rw [hxe]; rfl
            have e3 : sameB L p lab (k + 1) = (sameB L p lab k || (decide (0 ≤ L.getD x.toNat 0) && decide (L.getD x.toNat 0 = lab))) := by rw [hxe]; rfl
            by_cases hx0 : 0 ≤ L.getD x.toNat 0
            · have hlx : lab ≤ L.getD x.toNat 0 := by rw [hxe]; exact (hll k hkt (by rw [← hxe]; exact hx0)).2
              rw [decide_eq_true hx0, Bool.true_and] at e1 e2 e3
              have han2 := row_lt (n := n) (a := x.toNat) (k := b) (by omega) hbt
              have w3 : IntKind.i64.wrap (x * (n : Int)) = ((x.toNat * n : Nat) : Int) := by
                rw [Int.natCast_mul, Int.toNat_of_nonneg hx.1, IntKind.wrap_i64]
                have : x * (n : Int) = ((x.toNat * n : Nat) : Int) := by rw [Int.natCast_mul, Int.toNat_of_nonneg hx.1]
                omega
              have w4 : IntKind.i64.wrap ((p : Int) * (n : Int)) = ((p * n : Nat) : Int) := by
                rw [← Int.natCast_mul, IntKind.wrap_i64]; omega
              have gp : (iS .i64 P)[x.toNat * n + b]? = some (.int .i64 (P.getD (x.toNat * n + b) 0)) := iS_get (by omega)
              generalize x.toNat * n = Q at *
              generalize p * n = Q2 at *
              have gp : (iS .i64 P)[((Q : Int) + b).toNat]? = some (.int .i64 (P.getD (Q + b) 0)) := by rw [show ((Q : Int) + b).toNat = Q + b by omega]; exact gp
              have gz : (iS .i64 (shPP n T))[((Q2 : Int) + b).toNat]? = some (.int .i64 z) := by rw [show ((Q2 : Int) + b).toNat = Q2 + b by omega]; exact gz
              have w5 : IntKind.i64.wrap ((Q : Int) + b) = (Q : Int) + b := by rw [IntKind.wrap_i64]; omega
              have w6 : IntKind.i64.wrap ((Q2 : Int) + b) = (Q2 : Int) + b := by rw [IntKind.wrap_i64]; omega
              generalize P.getD (Q + b) 0 = Pv at *
              generalize L.getD x.toNat 0 = Lx at *
              generalize lessB n L P p b lab z k = B1 at *
              generalize moreB n L P p b lab z k = B2 at *
              generalize sameB L p lab k = B3 at *
              have c1 : (B1 = true ∧ lessB n L P p b lab z (k + 1) = true) ∨ (B1 = false ∧ Pv ≤ z ∧ lessB n L P p b lab z (k + 1) = true) ∨ (B1 = false ∧ ¬ Pv ≤ z ∧ lessB n L P p b lab z (k + 1) = false) := by
                cases B1
                · by_cases h : Pv ≤ z
                  · exact .inr (.inl ⟨rfl, h, by rw [e1, decide_eq_true h]; rfl⟩)
                  · exact .inr (.inr ⟨rfl, h, by rw [e1, decide_eq_false h]; rfl⟩)
                · exact .inl ⟨rfl, by rw [e1]; rfl⟩
              have c2 : (B2 = true ∧ moreB n L P p b lab z (k + 1) = true) ∨ (B2 = false ∧ Pv ≥ z ∧ moreB n L P p b lab z (k + 1) = true) ∨ (B2 = false ∧ ¬ Pv ≥ z ∧ moreB n L P p b lab z (k + 1) = false) := by
                cases B2
                · by_cases h : Pv ≥ z
                  · exact .inr (.inl ⟨rfl, h, by rw [e2, decide_eq_true h]; rfl⟩)
                  · exact .inr (.inr ⟨rfl, h, by rw [e2, decide_eq_false h]; rfl⟩)
                · exact .inl ⟨rfl, by rw [e2]; rfl⟩
              have c3 : (B3 = true ∧ sameB L p lab (k + 1) = true) ∨ (B3 = false ∧ Lx = lab ∧ sameB L p lab (k + 1) = true) ∨ (B3 = false ∧ ¬ Lx = lab ∧ sameB L p lab (k + 1) = false) := by
                cases B3
                · by_cases h : Lx = lab
                  · exact .inr (.inl ⟨rfl, h, by rw [e3, decide_eq_true h]; rfl⟩)
                  · exact .inr (.inr ⟨rfl, h, by rw [e3, decide_eq_false h]; rfl⟩)
                · exact .inl ⟨rfl, by rw [e3]; rfl⟩
              have hnl : ¬ Lx < lab := by omega
              clear e1 e2 e3
              iterate 4 ((repeat' ((conv => whnf); first | left | refine OpsA.cons ?_ | refine OpsA.nil ?_ | refine AWq.seq ?_ | refine AWq.region ?_ | refine AWq.cond ?_ | refine AWq.block ?_ | refine AWq.skip ?_ | refine AWq.ret ?_ | refine AWq.exit ?_ | refine AWq.loop ?_ | refine DrawA.consD ?_ | refine DrawA.nil ?_ | refine AWq.draw (by decide +kernel) ?_ | (refine Both.mk ?_ ?_ <;> intro hc <;> (first | exact Bool.noConfusion hc | exact absurd (by with_reducible rfl) hc | exact absurd (by assumption) hc | exact absurd hc (by assumption) | (exfalso; omega) | skip)) | (intro c hc; (try (simp only [AH.none_iff] at hc; repeat (have hn := hc.1; replace hc := hc.2))); (first | (have hc2 := Eq.trans hc (by with_reducible assumption); clear hc; subst hc2) | (refine i64_k hc ?_ ?_ ?_ ; omega; omega; (clear hc; intro hc; subst hc)) | subst hc | skip)) | (apply Exists.intro; apply And.intro; (first | (focus (repeat (first | (with_reducible assumption) | (with_reducible exact AH.set_same _ _ _) | ((first | refine AH.get_ne ?_ ?_); (first | (with_reducible assumption))))); done))) | (apply Exists.intro; apply And.intro; first | (with_reducible assumption) | ((try simp only [List.getElem?_drop, Nat.mul_one, Nat.add_zero, Nat.zero_add]); first | (with_reducible assumption) | rfl)) | (apply And.intro; (first | rfl | (with_reducible assumption) | exact Nat.le_of_ble_eq_true rfl | omega | (simp <;> omega))))) <;> (try (conv => whnf)); refine Then.mk ?_)
              rcases c1 with ⟨rfl, k1⟩ | ⟨rfl, q1, k1⟩ | ⟨rfl, q1, k1⟩ <;> rcases c2 with ⟨rfl, k2⟩ | ⟨rfl, q2, k2⟩ | ⟨rfl, q2, k2⟩ <;> rcases c3 with ⟨rfl, k3⟩ | ⟨rfl, q3, k3⟩ | ⟨rfl, q3, k3⟩
              all_goals (repeat' ((conv => whnf); first | refine Then.mk ?_ | left | refine OpsA.cons ?_ | refine OpsA.nil ?_ | refine AWq.seq ?_ | refine AWq.region ?_ | refine AWq.cond ?_ | refine AWq.block ?_ | refine AWq.skip ?_ | refine AWq.ret ?_ | refine AWq.exit ?_ | refine AWq.loop ?_ | refine DrawA.consD ?_ | refine DrawA.nil ?_ | refine AWq.draw (by decide +kernel) ?_ | (refine Both.mk ?_ ?_ <;> intro hc <;> (first | exact Bool.noConfusion hc | exact absurd (by with_reducible rfl) hc | exact absurd (by assumption) hc | exact absurd hc (by assumption) | (exfalso; omega) | skip)) | (intro c hc; (try (simp only [AH.none_iff] at hc; repeat (have hn := hc.1; replace hc := hc.2))); (first | (have hc2 := Eq.trans hc (by with_reducible assumption); clear hc; subst hc2) | (refine i64_k hc ?_ ?_ ?_ ; omega; omega; (clear hc; intro hc; subst hc)) | subst hc | skip)) | (apply Exists.intro; apply And.intro; (first | (focus (repeat (first | (with_reducible assumption) | (with_reducible exact AH.set_same _ _ _) | ((first | refine AH.get_ne ?_ ?_); (first | (with_reducible assumption))))); done))) | (apply Exists.intro; apply And.intro; first | (with_reducible assumption) | ((try simp only [List.getElem?_drop, Nat.mul_one, Nat.add_zero, Nat.zero_add]); first | (with_reducible assumption) | rfl)) | (apply And.intro; (first | rfl | (with_reducible assumption) | exact Nat.le_of_ble_eq_true rfl | omega | (simp <;> omega))))) <;> (try (conv => whnf))
              all_goals first | exact ⟨k + 1, hkt, by omega, ⟨congrArg (AV.int .i64) (by omega), by rw [k1]; rfl, by rw [k2]; rfl, by rw [k3]; rfl, trivial⟩, HLe.refl _⟩ | (exfalso; omega)
            · rw [decide_eq_false hx0, Bool.false_and, Bool.or_false] at e1 e2 e3
              generalize lessB n L P p b lab z k = B1 at *
              generalize moreB n L P p b lab z k = B2 at *
              generalize sameB L p lab k = B3 at *
              (repeat' ((conv => whnf); first | refine Then.mk ?_ | left | refine OpsA.cons ?_ | refine OpsA.nil ?_ | refine AWq.seq ?_ | refine AWq.region ?_ | refine AWq.cond ?_ | refine AWq.block ?_ | refine AWq.skip ?_ | refine AWq.ret ?_ | refine AWq.exit ?_ | refine AWq.loop ?_ | refine DrawA.consD ?_ | refine DrawA.nil ?_ | refine AWq.draw (by decide +kernel) ?_ | (refine Both.mk ?_ ?_ <;> intro hc <;> (first | exact Bool.noConfusion hc | exact absurd (by with_reducible rfl) hc | exact absurd (by assumption) hc | exact absurd hc (by assumption) | (exfalso; omega) | skip)) | (intro c hc; (try (simp only [AH.none_iff] at hc; repeat (have hn := hc.1; replace hc := hc.2))); (first | (have hc2 := Eq.trans hc (by with_reducible assumption); clear hc; subst hc2) | (refine i64_k hc ?_ ?_ ?_ ; omega; omega; (clear hc; intro hc; subst hc)) | subst hc | skip)) | (apply Exists.intro; apply And.intro; (first | (focus (repeat (first | (with_reducible assumption) | (with_reducible exact AH.set_same _ _ _) | ((first | refine AH.get_ne ?_ ?_); (first | (with_reducible assumption))))); done))) | (apply Exists.intro; apply And.intro; first | (with_reducible assumption) | ((try simp only [List.getElem?_drop, Nat.mul_one, Nat.add_zero, Nat.zero_add]); first | (with_reducible assumption) | rfl)) | (apply And.intro; (first | rfl | (with_reducible assumption) | exact Nat.le_of_ble_eq_true rfl | omega | (simp <;> omega))))) <;> (try (conv => whnf))
              exact ⟨k + 1, hkt, by omega, ⟨congrArg (AV.int .i64) (by omega), by rw [e1]; rfl, by rw [e2]; rfl, by rw [e3]; rfl, trivial⟩, HLe.refl _⟩
          · have hke : k = 4 := by omega
            subst hke
            rw [le, mo', se]
            (repeat' ((conv => whnf); first | refine Then.mk ?_ | left | refine OpsA.cons ?_ | refine OpsA.nil ?_ | refine AWq.seq ?_ | refine AWq.region ?_ | refine AWq.cond ?_ | refine AWq.block ?_ | refine AWq.skip ?_ | refine AWq.ret ?_ | refine AWq.exit ?_ | refine AWq.loop ?_ | refine DrawA.consD ?_ | refine DrawA.nil ?_ | refine AWq.draw (by decide +kernel) ?_ | (refine Both.mk ?_ ?_ <;> intro hc <;> (first | exact Bool.noConfusion hc | exact absurd (by with_reducible rfl) hc | exact absurd (by assumption) hc | exact absurd hc (by assumption) | (exfalso; omega) | skip)) | (intro c hc; (try (simp only [AH.none_iff] at hc; repeat (have hn := hc.1; replace hc := hc.2))); (first | (have hc2 := Eq.trans hc (by with_reducible assumption); clear hc; subst hc2) | (refine i64_k hc ?_ ?_ ?_ ; omega; omega; (clear hc; intro hc; subst hc)) | subst hc | skip)) | (apply Exists.intro; apply And.intro; (first | (focus (repeat (first | (with_reducible assumption) | (with_reducible exact AH.set_same _ _ _) | ((first | refine AH.get_ne ?_ ?_); (first | (with_reducible assumption))))); done))) | (apply Exists.intro; apply And.intro; first | (with_reducible assumption) | ((try simp only [List.getElem?_drop, Nat.mul_one, Nat.add_zero, Nat.zero_add]); first | (with_reducible assumption) | rfl)) | (apply And.intro; (first | rfl | (with_reducible assumption) | exact Nat.le_of_ble_eq_true rfl | omega | (simp <;> omega))))) <;> (try (conv => whnf))
            exact ⟨b + 1, hbt, by omega, ⟨congrArg (AV.int .i64) (by omega), trivial⟩, HLe.refl _⟩
      · have hbe : b = n := by omega
        subst hbe
        (repeat' ((conv => whnf); first | refine Then.mk ?_ | left | refine OpsA.cons ?_ | refine OpsA.nil ?_ | refine AWq.seq ?_ | refine AWq.region ?_ | refine AWq.cond ?_ | refine AWq.block ?_ | refine AWq.skip ?_ | refine AWq.ret ?_ | refine AWq.exit ?_ | refine AWq.loop ?_ | refine DrawA.consD ?_ | refine DrawA.nil ?_ | refine AWq.draw (by decide +kernel) ?_ | (refine Both.mk ?_ ?_ <;> intro hc <;> (first | exact Bool.noConfusion hc | exact absurd (by with_reducible rfl) hc | exact absurd (by assumption) hc | exact absurd hc (by assumption) | (exfalso; omega) | skip)) | (intro c hc; (try (simp only [AH.none_iff] at hc; repeat (have hn := hc.1; replace hc := hc.2))); (first | (have hc2 := Eq.trans hc (by with_reducible assumption); clear hc; subst hc2) | (refine i64_k hc ?_ ?_ ?_ ; omega; omega; (clear hc; intro hc; subst hc)) | subst hc | skip)) | (apply Exists.intro; apply And.intro; (first | (focus (repeat (first | (with_reducible assumption) | (with_reducible exact AH.set_same _ _ _) | ((first | refine AH.get_ne ?_ ?_); (first | (with_reducible assumption))))); done))) | (apply Exists.intro; apply And.intro; first | (with_reducible assumption) | ((try simp only [List.getElem?_drop, Nat.mul_one, Nat.add_zero, Nat.zero_add]); first | (with_reducible assumption) | rfl)) | (apply And.intro; (first | rfl | (with_reducible assumption) | exact Nat.le_of_ble_eq_true rfl | omega | (simp <;> omega))))) <;> (try (conv => whnf))
        exact ⟨p + 1, hpt, by omega, ⟨congrArg (AV.int .i64) (by omega), trivial⟩, HLe.refl _⟩
  · have hpe : p = 256 := by omega
    subst hpe
    clear hg hT hT2 hseg
    (repeat' ((conv => whnf); first | left | refine OpsA.cons ?_ | refine OpsA.nil ?_ | refine AWq.seq ?_ | refine AWq.region ?_ | refine AWq.cond ?_ | refine AWq.block ?_ | refine AWq.skip ?_ | refine AWq.ret ?_ | refine AWq.exit ?_ | refine AWq.loop ?_ | refine DrawA.consD ?_ | refine DrawA.nil ?_ | refine AWq.draw (by decide +kernel) ?_ | (refine Both.mk ?_ ?_ <;> intro hc <;> (first | exact Bool.noConfusion hc | exact absurd (by with_reducible rfl) hc | exact absurd (by assumption) hc | exact absurd hc (by assumption) | (exfalso; omega) | skip)) | (intro c hc; (try (simp only [AH.none_iff] at hc; repeat (have hn := hc.1; replace hc := hc.2))); (first | (have hc2 := Eq.trans hc (by with_reducible assumption); clear hc; subst hc2) | (refine i64_k hc ?_ ?_ ?_ ; omega; omega; (clear hc; intro hc; subst hc)) | subst hc | skip)) | (apply Exists.intro; apply And.intro; (first | (focus (repeat (first | (with_reducible assumption) | (with_reducible exact AH.set_same _ _ _) | ((first | refine AH.get_ne ?_ ?_); (first | (with_reducible assumption))))); done))) | (apply Exists.intro; apply And.intro; first | (with_reducible assumption) | ((try simp only [List.getElem?_drop, Nat.mul_one, Nat.add_zero, Nat.zero_add]); first | (with_reducible assumption) | rfl)) | (apply And.intro; (first | rfl | (with_reducible assumption) | exact Nat.le_of_ble_eq_true rfl | omega | (simp <;> omega))))) <;> (try (conv => whnf))
    refine Then.mk ?_
    (repeat' ((conv => whnf); first | left | refine OpsA.cons ?_ | refine OpsA.nil ?_ | refine AWq.seq ?_ | refine AWq.region ?_ | refine AWq.cond ?_ | refine AWq.block ?_ | refine AWq.skip ?_ | refine AWq.ret ?_ | refine AWq.exit ?_ | refine AWq.loop ?_ | refine DrawA.consD ?_ | refine DrawA.nil ?_ | refine AWq.draw (by decide +kernel) ?_ | (refine Both.mk ?_ ?_ <;> intro hc <;> (first | exact Bool.noConfusion hc | exact absurd (by with_reducible rfl) hc | exact absurd (by assumption) hc | exact absurd hc (by assumption) | (exfalso; omega) | skip)) | (intro c hc; (try (simp only [AH.none_iff] at hc; repeat (have hn := hc.1; replace hc := hc.2))); (first | (have hc2 := Eq.trans hc (by with_reducible assumption); clear hc; subst hc2) | (refine i64_k hc ?_ ?_ ?_ ; omega; omega; (clear hc; intro hc; subst hc)) | subst hc | skip)) | (apply Exists.intro; apply And.intro; (first | (focus (repeat (first | (with_reducible assumption) | (with_reducible exact AH.set_same _ _ _) | ((first | refine AH.get_ne ?_ ?_); (first | (with_reducible assumption))))); done))) | (apply Exists.intro; apply And.intro; first | (with_reducible assumption) | ((try simp only [List.getElem?_drop, Nat.mul_one, Nat.add_zero, Nat.zero_add]); first | (with_reducible assumption) | rfl)) | (apply And.intro; (first | rfl | (with_reducible assumption) | exact Nat.le_of_ble_eq_true rfl | omega | (simp <;> omega))))) <;> (try (conv => whnf))
    refine Then.mk (AWq.in ?_)
    refine AWp.of tt_ok (dok _) rfl ?_
    (repeat' ((conv => whnf); first | left | refine OpsA.cons ?_ | refine OpsA.nil ?_ | refine AWq.seq ?_ | refine AWq.region ?_ | refine AWq.cond ?_ | refine AWq.block ?_ | refine AWq.skip ?_ | refine AWq.ret ?_ | refine AWq.exit ?_ | refine AWq.loop ?_ | refine DrawA.consD ?_ | refine DrawA.nil ?_ | refine AWq.draw (by decide +kernel) ?_ | (refine Both.mk ?_ ?_ <;> intro hc <;> (first | exact Bool.noConfusion hc | exact absurd (by with_reducible rfl) hc | exact absurd (by assumption) hc | exact absurd hc (by assumption) | (exfalso; omega) | skip)) | (intro c hc; (try (simp only [AH.none_iff] at hc; repeat (have hn := hc.1; replace hc := hc.2))); (first | (have hc2 := Eq.trans hc (by with_reducible assumption); clear hc; subst hc2) | (refine i64_k hc ?_ ?_ ?_ ; omega; omega; (clear hc; intro hc; subst hc)) | subst hc | skip)) | (apply Exists.intro; apply And.intro; (first | (focus (repeat (first | (with_reducible assumption) | (with_reducible exact AH.set_same _ _ _) | ((first | refine AH.get_ne ?_ ?_); (first | (with_reducible assumption))))); done))) | (apply Exists.intro; apply And.intro; first | (with_reducible assumption) | ((try simp only [List.getElem?_drop, Nat.mul_one, Nat.add_zero, Nat.zero_add]); first | (with_reducible assumption) | rfl)) | (apply And.intro; (first | rfl | (with_reducible assumption) | exact Nat.le_of_ble_eq_true rfl | omega | (simp <;> omega))))) <;> (try (conv => whnf))
    refine (em _).mono ?_
    rintro y H' ⟨q1, q2, v1, v2, g, rfl⟩
    have hq1 : H0 q1 = none := g.ha
    have hq2 : H0 q2 = none := g.hb
    have n12 := g.ab
    have lvb : (0 : Int) ≤ lv ∧ (lv : Int) ≤ 4095 := by omega
    obtain ⟨fA, hfA⟩ : ∃ fA : Nat → List Int, ∀ p, fA p = fnL 256 fun a => if a < p then (lv : Int) else -1 := ⟨_, fun _ => rfl⟩
    obtain ⟨fB, hfB⟩ : ∃ fB : Nat → List Int, ∀ m, fB m = fnL (256 * n) fun j => if j < m then (vv : Int) else 0 := ⟨_, fun _ => rfl⟩
    obtain ⟨Sh, hSh⟩ : ∃ Sh : Nat → Nat → AH, ∀ p m, Sh p m = (AH.set H0 q1 (.row (iS .i64 (fA p)) v1)).set q2 (.row (iS .i64 (fB m)) v2) := ⟨_, fun _ _ => rfl⟩
    have hH' : H' = Sh 0 0 := by
      rw [hSh, g.e, hfA, hfB, show emL = fnL 256 (fun a => if a < 0 then (lv : Int) else -1) from fnL_congr fun a ha => by rw [if_neg (by omega)],
        show emP n = fnL (256 * n) (fun a => if a < 0 then (vv : Int) else 0) from fnL_congr fun a ha => by rw [if_neg (by omega)]]
    subst hH'
    clear g
    (repeat' ((conv => whnf); first | left | refine OpsA.cons ?_ | refine OpsA.nil ?_ | refine AWq.seq ?_ | refine AWq.region ?_ | refine AWq.cond ?_ | refine AWq.block ?_ | refine AWq.skip ?_ | refine AWq.ret ?_ | refine AWq.exit ?_ | refine AWq.loop ?_ | refine DrawA.consD ?_ | refine DrawA.nil ?_ | refine AWq.draw (by decide +kernel) ?_ | (refine Both.mk ?_ ?_ <;> intro hc <;> (first | exact Bool.noConfusion hc | exact absurd (by with_reducible rfl) hc | exact absurd (by assumption) hc | exact absurd hc (by assumption) | (exfalso; omega) | skip)) | (intro c hc; (try (simp only [AH.none_iff] at hc; repeat (have hn := hc.1; replace hc := hc.2))); (first | (have hc2 := Eq.trans hc (by with_reducible assumption); clear hc; subst hc2) | (refine i64_k hc ?_ ?_ ?_ ; omega; omega; (clear hc; intro hc; subst hc)) | subst hc | skip)) | (apply Exists.intro; apply And.intro; (first | (focus (repeat (first | (with_reducible assumption) | (with_reducible exact AH.set_same _ _ _) | ((first | refine AH.get_ne ?_ ?_); (first | (with_reducible assumption))))); done))) | (apply Exists.intro; apply And.intro; first | (with_reducible assumption) | ((try simp only [List.getElem?_drop, Nat.mul_one, Nat.add_zero, Nat.zero_add]); first | (with_reducible assumption) | rfl)) | (apply And.intro; (first | rfl | (with_reducible assumption) | exact Nat.le_of_ble_eq_true rfl | omega | (simp <;> omega))))) <;> (try (conv => whnf))
    refine Then.mk (AWq.in ?_)
    refine AWp_segP 23 [.int .i64 n, .sl q1 v1 1 0 256 none, .sl q2 v2 1 0 (256 * n) none] rfl rfl (by assumption) rfl rfl ?_
    refine AWp.of tt_ok (dok _) rfl ?_
    generalize hS0 : Sh 0 0 = S0 at *
    (repeat' ((conv => whnf); first | refine Then.mk ?_ | left | refine OpsA.cons ?_ | refine OpsA.nil ?_ | refine AWq.seq ?_ | refine AWq.region ?_ | refine AWq.cond ?_ | refine AWq.block ?_ | refine AWq.skip ?_ | refine AWq.ret ?_ | refine AWq.exit ?_ | refine AWq.loop ?_ | refine DrawA.consD ?_ | refine DrawA.nil ?_ | refine AWq.draw (by decide +kernel) ?_ | (refine Both.mk ?_ ?_ <;> intro hc <;> (first | exact Bool.noConfusion hc | exact absurd (by with_reducible rfl) hc | exact absurd (by assumption) hc | exact absurd hc (by assumption) | (exfalso; omega) | skip)) | (intro c hc; (try (simp only [AH.none_iff] at hc; repeat (have hn := hc.1; replace hc := hc.2))); (first | (have hc2 := Eq.trans hc (by with_reducible assumption); clear hc; subst hc2) | (refine i64_k hc ?_ ?_ ?_ ; omega; omega; (clear hc; intro hc; subst hc)) | subst hc | skip)) | (apply Exists.intro; apply And.intro; (first | (focus (repeat (first | (with_reducible assumption) | (with_reducible exact AH.set_same _ _ _) | ((first | refine AH.get_ne ?_ ?_); (first | (with_reducible assumption))))); done))) | (apply Exists.intro; apply And.intro; first | (with_reducible assumption) | ((try simp only [List.getElem?_drop, Nat.mul_one, Nat.add_zero, Nat.zero_add]); first | (with_reducible assumption) | rfl)) | (apply And.intro; (first | rfl | (with_reducible assumption) | exact Nat.le_of_ble_eq_true rfl | omega | (simp <;> omega))))) <;> (try (conv => whnf))
    rw [← hS0]
    refine AWp_loop (σ := Nat) (25 :: 26 :: 248 :: 249 :: 250 :: 251 :: 252 :: 253 :: 254 :: 255 :: 256 :: 257 :: 258 :: 259 :: 260 :: 261 :: 262 :: 263 :: 264 :: 265 :: 266 :: 267 :: 268 :: 269 :: 270 :: 271 :: 272 :: []) (fun p => [(25, .int .i64 p)]) (fun p => Sh p (p * n)) (fun p => p ≤ 256) (fun p => 256 - p) 0 rfl (Nat.zero_le _) ⟨rfl, trivial⟩ (HLe.of_eq (by rw [Nat.zero_mul])) ?_
    intro p hp
    refine AWp.of tt_ok (dok _) rfl ?_
    dsimp only at hp ⊢
    have lA : (iS .i64 (fA p)).length = 256 := by rw [iS_length, hfA]; exact fnL_len _ _
    have lB : ∀ m, (iS .i64 (fB m)).length = 256 * n := fun m => by rw [iS_length, hfB]; exact fnL_len _ _
    have kA : ∀ p m, Sh p m q1 = some (.row (iS .i64 (fA p)) v1) := fun p m => by rw [hSh]; (first | (focus (repeat (first | (with_reducible assumption) | (with_reducible exact AH.set_same _ _ _) | ((first | refine AH.get_ne ?_ ?_); (first | (with_reducible assumption))))); done))
    have kB : ∀ p m, Sh p m q2 = some (.row (iS .i64 (fB m)) v2) := fun p m => by rw [hSh, AH.set_same]
    by_cases hpt : p < 256
    · have hputA : (fA p).set p lv = fA (p + 1) := by
        rw [hfA, hfA, fnL_set]
        refine fnL_congr fun a ha => ?_
        by_cases e : a = p
        · rw [if_pos e, if_pos (by omega)]
        · rw [if_neg e]
          by_cases e2 : a < p
          · rw [if_pos e2, if_pos (by omega)]
          · rw [if_neg e2, if_neg (by omega)]
      have hwrA : wrA (iS .i64 (fA p)) (0 + (p : Int).toNat * 1) [.int .i64 (lv : Int)] = iS .i64 (fA (p + 1)) := by
        rw [show 0 + (p : Int).toNat * 1 = p by omega, iS_wr1 (by rw [hfA, fnL_len]; exact hpt), hputA]
      have e5 : Sh (p + 1) (p * n + 0) = (Sh p (p * n)).set q1 (.row (wrA (iS .i64 (fA p)) (0 + (p : Int).toNat * 1) [.int .i64 (lv : Int)]) v1) := by
        rw [hwrA, hSh, hSh, Nat.add_zero]; ((funext s; simp only [AH.set, AH.del]; repeat' split) <;> (first | rfl | (exfalso; omega)))
      have kA0 := kA p (p * n)
      generalize hRA : iS .i64 (fA p) = RA at *
      generalize hG1 : Sh p (p * n) = G1 at *
      (repeat' ((conv => whnf); first | refine Then.mk ?_ | left | refine OpsA.cons ?_ | refine OpsA.nil ?_ | refine AWq.seq ?_ | refine AWq.region ?_ | refine AWq.cond ?_ | refine AWq.block ?_ | refine AWq.skip ?_ | refine AWq.ret ?_ | refine AWq.exit ?_ | refine AWq.loop ?_ | refine DrawA.consD ?_ | refine DrawA.nil ?_ | refine AWq.draw (by decide +kernel) ?_ | (apply Exists.intro; apply And.intro; exact a4 _) | (refine Both.mk ?_ ?_ <;> intro hc <;> (first | exact Bool.noConfusion hc | exact absurd (by with_reducible rfl) hc | exact absurd (by assumption) hc | exact absurd hc (by assumption) | (exfalso; omega) | skip)) | (intro c hc; (try (simp only [AH.none_iff] at hc; repeat (have hn := hc.1; replace hc := hc.2))); (first | (have hc2 := Eq.trans hc (by with_reducible assumption); clear hc; subst hc2) | (refine i64_k hc ?_ ?_ ?_ ; omega; omega; (clear hc; intro hc; subst hc)) | subst hc | skip)) | (apply Exists.intro; apply And.intro; (first | (focus (repeat (first | (with_reducible assumption) | (with_reducible exact AH.set_same _ _ _) | ((first | refine AH.get_ne ?_ ?_); (first | (with_reducible assumption))))); done))) | (apply Exists.intro; apply And.intro; first | (with_reducible assumption) | ((try simp only [List.getElem?_drop, Nat.mul_one, Nat.add_zero, Nat.zero_add]); first | (with_reducible assumption) | rfl)) | (apply And.intro; (first | rfl | (with_reducible assumption) | exact Nat.le_of_ble_eq_true rfl | omega | (simp <;> omega))))) <;> (try (conv => whnf))
      refine AWp_loop (σ := Nat) (26 :: 258 :: 259 :: 260 :: 261 :: 262 :: 263 :: 264 :: 265 :: 266 :: 267 :: 268 :: 269 :: 270 :: 271 :: 272 :: []) (fun k => [(26, .int .i64 k)]) (fun k => Sh (p + 1) (p * n + k)) (fun k => k ≤ n) (fun k => n - k) 0 rfl (Nat.zero_le _) ⟨rfl, trivial⟩ (HLe.of_eq e5) ?_
      intro k hk
      refine AWp.of tt_ok (dok _) rfl ?_
      dsimp only at hk ⊢
      by_cases hkt : k < n
      · have han := row_lt hpt hkt
        have hputB : (fB (p * n + k)).set (p * n + k) vv = fB (p * n + (k + 1)) := by
          rw [hfB, hfB, fnL_set]
          refine fnL_congr fun a ha => ?_
          by_cases e : a = p * n + k
          · rw [if_pos e, if_pos (by omega)]
          · rw [if_neg e]
            by_cases e2 : a < p * n + k
            · rw [if_pos e2, if_pos (by omega)]
            · rw [if_neg e2, if_neg (by omega)]
        have hwrB : wrA (iS .i64 (fB (p * n + k))) (p * n + k) [.int .i64 (vv : Int)] = iS .i64 (fB (p * n + (k + 1))) := by
          rw [iS_wr1 (by rw [hfB, fnL_len]; exact han), hputB]
        have e6 : Sh (p + 1) (p * n + (k + 1)) = (Sh (p + 1) (p * n + k)).set q2 (.row (wrA (iS .i64 (fB (p * n + k))) (p * n + k) [.int .i64 (vv : Int)]) v2) := by
          rw [hwrB, hSh, hSh, AH.set_set]
        have kB0 := kB (p + 1) (p * n + k)
        have lB0 := lB (p * n + k)
        have w4 : IntKind.i64.wrap ((p : Int) * (n : Int)) = ((p * n : Nat) : Int) := by
          rw [← Int.natCast_mul, IntKind.wrap_i64]; omega
        generalize hRB : iS .i64 (fB (p * n + k)) = RB at *
        generalize hG2 : Sh (p + 1) (p * n + k) = G2 at *
        have w6 : IntKind.i64.wrap (((p * n : Nat) : Int) + k) = ((p * n : Nat) : Int) + k := by rw [IntKind.wrap_i64]; omega
        have e7 : Sh (p + 1) (p * n + (k + 1)) = G2.set q2 (.row (wrA RB (0 + (((p * n : Nat) : Int) + k).toNat * 1) [.int .i64 (vv : Int)]) v2) := by
          rw [e6, show 0 + (((p * n : Nat) : Int) + k).toNat * 1 = p * n + k by omega]
        (repeat' ((conv => whnf); first | refine Then.mk ?_ | left | refine OpsA.cons ?_ | refine OpsA.nil ?_ | refine AWq.seq ?_ | refine AWq.region ?_ | refine AWq.cond ?_ | refine AWq.block ?_ | refine AWq.skip ?_ | refine AWq.ret ?_ | refine AWq.exit ?_ | refine AWq.loop ?_ | refine DrawA.consD ?_ | refine DrawA.nil ?_ | refine AWq.draw (by decide +kernel) ?_ | (apply Exists.intro; apply And.intro; exact a6 _) | (refine Both.mk ?_ ?_ <;> intro hc <;> (first | exact Bool.noConfusion hc | exact absurd (by with_reducible rfl) hc | exact absurd (by assumption) hc | exact absurd hc (by assumption) | (exfalso; omega) | skip)) | (intro c hc; (try (simp only [AH.none_iff] at hc; repeat (have hn := hc.1; replace hc := hc.2))); (first | (have hc2 := Eq.trans hc (by with_reducible assumption); clear hc; subst hc2) | (refine i64_k hc ?_ ?_ ?_ ; omega; omega; (clear hc; intro hc; subst hc)) | subst hc | skip)) | (apply Exists.intro; apply And.intro; (first | (focus (repeat (first | (with_reducible assumption) | (with_reducible exact AH.set_same _ _ _) | ((first | refine AH.get_ne ?_ ?_); (first | (with_reducible assumption))))); done))) | (apply Exists.intro; apply And.intro; first | (with_reducible assumption) | ((try simp only [List.getElem?_drop, Nat.mul_one, Nat.add_zero, Nat.zero_add]); first | (with_reducible assumption) | rfl)) | (apply And.intro; (first | rfl | (with_reducible assumption) | exact Nat.le_of_ble_eq_true rfl | omega | (simp <;> omega))))) <;> (try (conv => whnf))
        exact ⟨k + 1, hkt, by omega, ⟨congrArg (AV.int .i64) (by omega), trivial⟩, HLe.of_eq e7⟩
      · have hke : k = n := by omega
        subst hke
        (repeat' ((conv => whnf); first | refine Then.mk ?_ | left | refine OpsA.cons ?_ | refine OpsA.nil ?_ | refine AWq.seq ?_ | refine AWq.region ?_ | refine AWq.cond ?_ | refine AWq.block ?_ | refine AWq.skip ?_ | refine AWq.ret ?_ | refine AWq.exit ?_ | refine AWq.loop ?_ | refine DrawA.consD ?_ | refine DrawA.nil ?_ | refine AWq.draw (by decide +kernel) ?_ | (refine Both.mk ?_ ?_ <;> intro hc <;> (first | exact Bool.noConfusion hc | exact absurd (by with_reducible rfl) hc | exact absurd (by assumption) hc | exact absurd hc (by assumption) | (exfalso; omega) | skip)) | (intro c hc; (try (simp only [AH.none_iff] at hc; repeat (have hn := hc.1; replace hc := hc.2))); (first | (have hc2 := Eq.trans hc (by with_reducible assumption); clear hc; subst hc2) | (refine i64_k hc ?_ ?_ ?_ ; omega; omega; (clear hc; intro hc; subst hc)) | subst hc | skip)) | (apply Exists.intro; apply And.intro; (first | (focus (repeat (first | (with_reducible assumption) | (with_reducible exact AH.set_same _ _ _) | ((first | refine AH.get_ne ?_ ?_); (first | (with_reducible assumption))))); done))) | (apply Exists.intro; apply And.intro; first | (with_reducible assumption) | ((try simp only [List.getElem?_drop, Nat.mul_one, Nat.add_zero, Nat.zero_add]); first | (with_reducible assumption) | rfl)) | (apply And.intro; (first | rfl | (with_reducible assumption) | exact Nat.le_of_ble_eq_true rfl | omega | (simp <;> omega))))) <;> (try (conv => whnf))
        exact ⟨p + 1, hpt, by omega, ⟨congrArg (AV.int .i64) (by omega), trivial⟩, HLe.of_eq (by rw [Nat.add_mul, Nat.one_mul])⟩
    · have hpe : p = 256 := by omega
      subst hpe
      have eA : fA 256 = fnL 256 fun _ => (lv : Int) := by rw [hfA]; exact fnL_congr fun a ha => if_pos ha
      have eB : fB (256 * n) = fnL (256 * n) fun _ => (vv : Int) := by rw [hfB]; exact fnL_congr fun a ha => if_pos ha
      have kA0 := kA 256 (256 * n)
      have kB0 := kB 256 (256 * n)
      have lB0 := lB (256 * n)
      rw [eA] at kA0 lA
      rw [eB] at kB0 lB0
      generalize hRA : iS .i64 (fnL 256 fun _ => (lv : Int)) = RA at *
      generalize hRB : iS .i64 (fnL (256 * n) fun _ => (vv : Int)) = RB at *
      have hle : HLe H0 (((Sh 256 (256 * n)).del q1).del q2) := by
        rw [hSh, AH.set_comm _ _ _ n12, AH.del_set _ _ _ (by rw [AH.set_ne _ _ n12]; exact hq1), AH.del_set _ _ _ hq2]; exact HLe.refl _
      generalize hG1 : Sh 256 (256 * n) = G1 at *
      (repeat' ((conv => whnf); first | left | refine OpsA.cons ?_ | refine OpsA.nil ?_ | refine AWq.seq ?_ | refine AWq.region ?_ | refine AWq.cond ?_ | refine AWq.block ?_ | refine AWq.skip ?_ | refine AWq.ret ?_ | refine AWq.exit ?_ | refine AWq.loop ?_ | refine DrawA.consD ?_ | refine DrawA.nil ?_ | refine AWq.draw (by decide +kernel) ?_ | (refine Both.mk ?_ ?_ <;> intro hc <;> (first | exact Bool.noConfusion hc | exact absurd (by with_reducible rfl) hc | exact absurd (by assumption) hc | exact absurd hc (by assumption) | (exfalso; omega) | skip)) | (intro c hc; (try (simp only [AH.none_iff] at hc; repeat (have hn := hc.1; replace hc := hc.2))); (first | (have hc2 := Eq.trans hc (by with_reducible assumption); clear hc; subst hc2) | (refine i64_k hc ?_ ?_ ?_ ; omega; omega; (clear hc; intro hc; subst hc)) | subst hc | skip)) | (apply Exists.intro; apply And.intro; (first | (focus (repeat (first | (with_reducible assumption) | (with_reducible exact AH.set_same _ _ _) | ((first | refine AH.get_ne ?_ ?_); (first | (with_reducible assumption))))); done))) | (apply Exists.intro; apply And.intro; first | (with_reducible assumption) | ((try simp only [List.getElem?_drop, Nat.mul_one, Nat.add_zero, Nat.zero_add]); first | (with_reducible assumption) | rfl)) | (apply And.intro; (first | rfl | (with_reducible assumption) | exact Nat.le_of_ble_eq_true rfl | omega | (simp <;> omega))))) <;> (try (conv => whnf))
      refine Then.mk ?_
      (repeat' ((conv => whnf); first | left | refine OpsA.cons ?_ | refine OpsA.nil ?_ | refine AWq.seq ?_ | refine AWq.region ?_ | refine AWq.cond ?_ | refine AWq.block ?_ | refine AWq.skip ?_ | refine AWq.ret ?_ | refine AWq.exit ?_ | refine AWq.loop ?_ | refine DrawA.consD ?_ | refine DrawA.nil ?_ | refine AWq.draw (by decide +kernel) ?_ | (refine Both.mk ?_ ?_ <;> intro hc <;> (first | exact Bool.noConfusion hc | exact absurd (by with_reducible rfl) hc | exact absurd (by assumption) hc | exact absurd hc (by assumption) | (exfalso; omega) | skip)) | (intro c hc; (try (simp only [AH.none_iff] at hc; repeat (have hn := hc.1; replace hc := hc.2))); (first | (have hc2 := Eq.trans hc (by with_reducible assumption); clear hc; subst hc2) | (refine i64_k hc ?_ ?_ ?_ ; omega; omega; (clear hc; intro hc; subst hc)) | subst hc | skip)) | (apply Exists.intro; apply And.intro; (first | (focus (repeat (first | (with_reducible assumption) | (with_reducible exact AH.set_same _ _ _) | ((first | refine AH.get_ne ?_ ?_); (first | (with_reducible assumption))))); done))) | (apply Exists.intro; apply And.intro; first | (with_reducible assumption) | ((try simp only [List.getElem?_drop, Nat.mul_one, Nat.add_zero, Nat.zero_add]); first | (with_reducible assumption) | rfl)) | (apply And.intro; (first | rfl | (with_reducible assumption) | exact Nat.le_of_ble_eq_true rfl | omega | (simp <;> omega))))) <;> (try (conv => whnf))
      refine Then.mk (AWq.in ?_)
      refine AWp_freezeIn 23 rfl rfl kA0 (a' := .cp [.int .i64 n, .cs RA 256, .sl q2 v2 1 0 (256 * n) none]) (Fr.cp rfl fun i hi hj => ?_) ?_
      · match i, hi with
        | 0, _ => exact Fr.refl _
        | 1, _ => exact Fr.sl (by rw [lA])
        | 2, _ => exact Fr.refl _
      refine AWp_freezeIn 23 rfl rfl (show (G1.del q1) q2 = some (.row RB v2) by rw [AH.del_ne _ (Ne.symm n12)]; exact kB0) (a' := .cp [.int .i64 n, .cs RA 256, .cs RB (256 * n)]) (Fr.cp rfl fun i hi hj => ?_) ?_
      · match i, hi with
        | 0, _ => exact Fr.refl _
        | 1, _ => exact Fr.refl _
        | 2, _ => exact Fr.sl (by rw [lB0, Nat.mul_one])
      refine AWp_less H0 hle ?_
      refine AWp.of tt_ok (dok _) rfl ?_
      (repeat' ((conv => whnf); first | (refine Then.mk (AWq.in ?_); refine AWp_segP 27 ([.int .i64 n, .cs RA 256, .cs RB (256 * n)]) rfl rfl (by assumption) (rfl) (rfl) ?_; refine AWp.of tt_ok (dok _) rfl ?_) | refine Then.mk ?_ | left | refine OpsA.cons ?_ | refine OpsA.nil ?_ | refine AWq.seq ?_ | refine AWq.region ?_ | refine AWq.cond ?_ | refine AWq.block ?_ | refine AWq.skip ?_ | refine AWq.ret ?_ | refine AWq.exit ?_ | refine AWq.loop ?_ | refine DrawA.consD ?_ | refine DrawA.nil ?_ | refine AWq.draw (by decide +kernel) ?_ | (refine Both.mk ?_ ?_ <;> intro hc <;> (first | exact Bool.noConfusion hc | exact absurd (by with_reducible rfl) hc | exact absurd (by assumption) hc | exact absurd hc (by assumption) | (exfalso; omega) | skip)) | (intro c hc; (try (simp only [AH.none_iff] at hc; repeat (have hn := hc.1; replace hc := hc.2))); (first | (have hc2 := Eq.trans hc (by with_reducible assumption); clear hc; subst hc2) | (refine i64_k hc ?_ ?_ ?_ ; omega; omega; (clear hc; intro hc; subst hc)) | subst hc | skip)) | (apply Exists.intro; apply And.intro; (first | (focus (repeat (first | (with_reducible assumption) | (with_reducible exact AH.set_same _ _ _) | ((first | refine AH.get_ne ?_ ?_); (first | (with_reducible assumption))))); done))) | (apply Exists.intro; apply And.intro; first | (with_reducible assumption) | ((try simp only [List.getElem?_drop, Nat.mul_one, Nat.add_zero, Nat.zero_add]); first | (with_reducible assumption) | rfl)) | (apply And.intro; (first | rfl | (with_reducible assumption) | exact Nat.le_of_ble_eq_true rfl | omega | (simp <;> omega))) | (refine ACall.to (s2 _) ?_) | (refine ACall.to (m2 _) ?_) | (refine ACall.to (lives23_c _) ?_))) <;> (try (conv => whnf))
end Go.Proofs.Ytghielfbdpkhmaa
