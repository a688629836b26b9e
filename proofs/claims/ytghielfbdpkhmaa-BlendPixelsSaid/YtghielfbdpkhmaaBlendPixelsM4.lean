/- For the law BlendPixels, part 4 of 5: the frame of the walk, the walks of the functions, the plain law, the row. No conditions. -/
import Derived.Test.YtghielfbdpkhmaaBlendPixelsM3
/- The walk of Pixel. -/
namespace Go.Proofs.Ytghielfbdpkhmaa
open Go.Fw Go
set_option linter.unusedVariables false
set_option linter.unusedSimpArgs false

set_option maxHeartbeats 8000000 in
set_option maxRecDepth 8000 in
theorem pixel_c (w h : Int) (L : List Int) (x y r : Int) (v : List Int) (hL : LOk L) (hx : I64 x) (hy : I64 y) (hr : I64 r) (hv : v.length ≤ 1000000) (c : Nat) (H : AH) (hc0 : H c = some (.row [.cs (iS .i64 v) v.length] 0)) :
    ACall Try.prog 28 [.int .i64 w, .int .i64 h, .cs (iS .i64 L) L.length, .int .i64 x, .int .i64 y, .int .i64 r, valF c] H
      (fun z H' => z = .tup [.int .i64 (pixV w h L x y r v).1, .int .i64 (pixV w h L x y r v).2] ∧ H' = H) := by
  refine ACall.back ?_
  have hw := fun H => weights_c w h L x y r hL hx hy hr H
  unfold pixV
  have hgood := wt_good (w := w) (h := h) (x := x) (y := y) (r := r) hL
  unfold valF
  generalize (wtV w h L x y r).1 = W at *
  generalize (wtV w h L x y r).2 = e at *
  by_cases he : e = 0
  · subst he
    obtain ⟨g1, g2, g3, g4, g5, hWl, hWc⟩ := hgood rfl
    obtain ⟨j, hj, hjL, hyw1, hyw2⟩ := px_at ⟨g1, g2, g3, g4, g5⟩
    have gl : (iS .i64 L)[(y * w + x).toNat]? = some (.int .i64 (L.getD (y * w + x).toNat 0)) := iS_get (by omega)
    have ew : IntKind.i64.wrap (y * w) = y * w := by rw [IntKind.wrap_i64]; omega
    rw [if_neg (fun h => h rfl)]
    have hwb : -9223372036854775808 ≤ L.getD (y * w + x).toNat 0 ∧ L.getD (y * w + x).toNat 0 ≤ 11 := by
      have := hL.2 _ (getD_mem (l := L) (i := (y * w + x).toNat) (by omega)); exact this
    generalize L.getD (y * w + x).toNat 0 = lb at *
    obtain ⟨Y, hY⟩ : ∃ Y, Y = y * w := ⟨_, rfl⟩
    rw [← hY] at hj hyw1 hyw2 gl ew
    have ew : IntKind.i64.wrap (y * w) = Y := by rw [← hY]; exact ew
    clear hY
    have hLl : (iS .i64 L).length = L.length := by simp
    have hLm := hL.1
    refine ACall_of tt_ok (dok _) Try.func28 rfl (by decide) rfl ?_
    iterate 7 ((repeat' ((conv => whnf); first | left | refine OpsA.cons ?_ | refine OpsA.nil ?_ | refine AWq.seq ?_ | refine AWq.region ?_ | refine AWq.cond ?_ | refine AWq.block ?_ | refine AWq.skip ?_ | refine AWq.ret ?_ | refine AWq.exit ?_ | refine AWq.loop ?_ | (refine Both.mk ?_ ?_ <;> intro hc <;> (first | exact Bool.noConfusion hc | exact absurd (by with_reducible rfl) hc | exact (hc : False).elim | exact absurd (by assumption) hc | exact absurd hc (by assumption) | (exfalso; omega) | skip)) | (intro c hc; (try (simp only [AH.none_iff] at hc; repeat (have hn := hc.1; replace hc := hc.2))); (first | (have hc2 := Eq.trans hc (by with_reducible assumption); clear hc; subst hc2) | (refine i64_k hc ?_ ?_ ?_ ; omega; omega; (clear hc; intro hc; subst hc)) | skip)) | (apply Exists.intro; apply And.intro; (first | (focus (repeat (first | (with_reducible assumption) | (with_reducible exact AH.set_same _ _ _) | ((first | refine AH.get_ne ?_ ?_ | refine AH.getd_ne ?_ ?_); (first | (with_reducible assumption) | exact Ne.symm (by with_reducible assumption))))); done))) | (apply Exists.intro; apply And.intro; first | (with_reducible assumption) | ((try simp only [List.getElem?_drop, Nat.mul_one, Nat.add_zero, Nat.zero_add]); first | (with_reducible assumption) | rfl)) | (apply And.intro; (first | rfl | (with_reducible assumption) | exact Nat.le_of_ble_eq_true rfl | omega | (simp <;> omega))) | (refine ACall.to (hw _) ?_))) <;> (try (conv => whnf)); refine Then.mk ?_)
    refine AWq.in ?_
    refine AWp_nilrow1 18 1 rfl rfl fun q1 hq1 => ?_
    refine AWp_nilrow1 19 1 rfl rfl fun q2 hq2 => ?_
    refine AWp.of tt_ok (dok _) rfl ?_
    (repeat' ((conv => whnf); first | refine Then.mk ?_ | left | refine OpsA.cons ?_ | refine OpsA.nil ?_ | refine AWq.seq ?_ | refine AWq.region ?_ | refine AWq.cond ?_ | refine AWq.block ?_ | refine AWq.skip ?_ | refine AWq.ret ?_ | refine AWq.exit ?_ | refine AWq.loop ?_ | (refine Both.mk ?_ ?_ <;> intro hc <;> (first | exact Bool.noConfusion hc | exact absurd (by with_reducible rfl) hc | exact (hc : False).elim | exact absurd (by assumption) hc | exact absurd hc (by assumption) | (exfalso; omega) | skip)) | (intro c hc; (try (simp only [AH.none_iff] at hc; repeat (have hn := hc.1; replace hc := hc.2))); (first | (have hc2 := Eq.trans hc (by with_reducible assumption); clear hc; subst hc2) | (refine i64_k hc ?_ ?_ ?_ ; omega; omega; (clear hc; intro hc; subst hc)) | skip)) | (apply Exists.intro; apply And.intro; (first | (focus (repeat (first | (with_reducible assumption) | (with_reducible exact AH.set_same _ _ _) | ((first | refine AH.get_ne ?_ ?_ | refine AH.getd_ne ?_ ?_); (first | (with_reducible assumption) | exact Ne.symm (by with_reducible assumption))))); done))) | (apply Exists.intro; apply And.intro; first | (with_reducible assumption) | ((try simp only [List.getElem?_drop, Nat.mul_one, Nat.add_zero, Nat.zero_add]); first | (with_reducible assumption) | rfl)) | (apply And.intro; (first | rfl | (with_reducible assumption) | exact Nat.le_of_ble_eq_true rfl | omega | (simp <;> omega))))) <;> (try (conv => whnf))
    have n21 : q2 ≠ q1 := (AH.none_set hq2).1
    have hq2' : H q2 = none := (AH.none_set hq2).2
    have nc1 : c ≠ q1 := fun e => by rw [e, hq1] at hc0; cases hc0
    have nc2 : c ≠ q2 := fun e => by rw [e, hq2'] at hc0; cases hc0
    clear hq2
    obtain ⟨Hk, hHk⟩ : ∃ Hk : List Int → List Int → AH, ∀ a b, Hk a b = (H.set q1 (.row (iS .i64 a) a.length)).set q2 (.row (iS .i64 b) a.length) := ⟨_, fun _ _ => rfl⟩
    refine AWp_loop (σ := Nat) (18 :: 19 :: 21 :: 22 :: 23 :: 41 :: 42 :: 43 :: 44 :: 45 :: 46 :: 47 :: 48 :: 49 :: 50 :: 51 :: 52 :: 53 :: 54 :: 55 :: 56 :: 57 :: 58 :: 59 :: 60 :: 61 :: 62 :: []) (fun i => [(41, .int .i64 i), (18, .sl q1 (pxA v (W.take i)).length 1 0 (pxA v (W.take i)).length none), (19, .sl q2 (pxA v (W.take i)).length 1 0 (pxA v (W.take i)).length none)]) (fun i => Hk (pxA v (W.take i)) (pxB v (W.take i))) (fun i => i ≤ W.length) (fun i => W.length - i) 0 rfl (Nat.zero_le _) ⟨rfl, rfl, rfl, trivial⟩ (HLe.of_eq (by rw [hHk]; rfl)) ?_
    intro i hi
    refine AWp.of tt_ok (dok _) rfl ?_
    dsimp only at hi ⊢
    have hpl := prL_len W
    have hAl : (iS .i64 (pxA v (W.take i))).length = (pxA v (W.take i)).length := by simp
    have hBl : (iS .i64 (pxB v (W.take i))).length = (pxA v (W.take i)).length := by rw [iS_length]; exact pxB_len _ _
    have hAm : (pxA v (W.take i)).length ≤ 12 := Nat.le_trans (px_len _ _) (by rw [List.length_take]; omega)
    by_cases hit : i < W.length
    · obtain ⟨p, hp⟩ : ∃ p, W[i]? = some p := ⟨_, List.getElem?_eq_getElem hit⟩
      have hpm : p ∈ W := List.mem_of_getElem? hp
      obtain ⟨hp1, hp2⟩ := hWc p hpm
      have gs : List.take (TR.size ⟨.array 2 3 1 false, 2, true, [.int .i64 0, .int .i64 0]⟩) (List.drop ((i : Int).toNat * 2) (prL W)) = prA p := prL_seg hp
      have go : (List.take (TR.size ⟨.array 2 3 1 false, 2, true, [.int .i64 0, .int .i64 0]⟩) (List.drop ((i : Int).toNat * 2) (prL W))).all one = true := by rw [gs]; rfl
      have cv := fun H hH => value1_c v hv p.1 (by unfold I64; omega) c H hH
      unfold valQ at cv
      have gc : ∀ a b, Hk a b c = some (.row [.cs (iS .i64 v) v.length] 0) := fun a b => by rw [hHk]; (first | (focus (repeat (first | (with_reducible assumption) | (with_reducible exact AH.set_same _ _ _) | ((first | refine AH.get_ne ?_ ?_ | refine AH.getd_ne ?_ ?_); (first | (with_reducible assumption) | exact Ne.symm (by with_reducible assumption))))); done))
      by_cases hV : hasV v p.1
      · rw [if_pos hV] at cv
        have eA := pxA_t hp hV
        have eB := pxB_t hp hV
        have hstep : ∀ a b z u, HLe (Hk (a ++ [z]) (b ++ [u])) (((Hk a b).set q1 (.row (iS .i64 a ++ [.int .i64 z]) (a.length + 1))).set q2 (.row (iS .i64 b ++ [.int .i64 u]) (a.length + 1))) := fun a b z u => by
          rw [hHk, hHk, ← iS_snoc, ← iS_snoc, List.length_append]; exact HLe.of_eq (by ((funext s; simp only [AH.set, AH.del]; repeat' split) <;> (first | rfl | (exfalso; omega))))
        have k1 : Hk (pxA v (W.take i)) (pxB v (W.take i)) q1 = some (.row (iS .i64 (pxA v (W.take i))) (pxA v (W.take i)).length) := by rw [hHk]; (first | (focus (repeat (first | (with_reducible assumption) | (with_reducible exact AH.set_same _ _ _) | ((first | refine AH.get_ne ?_ ?_ | refine AH.getd_ne ?_ ?_); (first | (with_reducible assumption) | exact Ne.symm (by with_reducible assumption))))); done))
        have k2 : Hk (pxA v (W.take i)) (pxB v (W.take i)) q2 = some (.row (iS .i64 (pxB v (W.take i))) (pxA v (W.take i)).length) := by rw [hHk]; (first | (focus (repeat (first | (with_reducible assumption) | (with_reducible exact AH.set_same _ _ _) | ((first | refine AH.get_ne ?_ ?_ | refine AH.getd_ne ?_ ?_); (first | (with_reducible assumption) | exact Ne.symm (by with_reducible assumption))))); done))
        have gcc := gc (pxA v (W.take i)) (pxB v (W.take i))
        have eAl : (pxA v (W.take (i + 1))).length = (pxA v (W.take i)).length + 1 := by rw [eA, List.length_append]; rfl
        have hst := hstep (pxA v (W.take i)) (pxB v (W.take i)) p.2 (v.getD p.1.toNat 0)
        rw [← eA, ← eB] at hst
        clear hstep gc
        generalize hA2 : pxA v (W.take (i + 1)) = A2 at *
        generalize hB2 : pxB v (W.take (i + 1)) = B2 at *
        generalize pxA v (W.take i) = A at *
        generalize pxB v (W.take i) = B at *
        generalize A.length = n at *
        generalize hR1 : iS .i64 A = R1 at *
        generalize hR2 : iS .i64 B = R2 at *
        generalize Hk A B = G at *
        generalize v.getD p.1.toNat 0 = z at *
        (repeat' ((conv => whnf); first | (refine Then.mk (AWq.in ?_); refine AWp_segP 21 (prA p) rfl rfl (by assumption) (gs) (rfl) ?_; refine AWp.of tt_ok (dok _) rfl ?_) | refine Then.mk ?_ | left | refine OpsA.cons ?_ | refine OpsA.nil ?_ | refine AWq.seq ?_ | refine AWq.region ?_ | refine AWq.cond ?_ | refine AWq.block ?_ | refine AWq.skip ?_ | refine AWq.ret ?_ | refine AWq.exit ?_ | refine AWq.loop ?_ | (refine Both.mk ?_ ?_ <;> intro hc <;> (first | exact Bool.noConfusion hc | exact absurd (by with_reducible rfl) hc | exact (hc : False).elim | exact absurd (by assumption) hc | exact absurd hc (by assumption) | (exfalso; omega) | skip)) | (intro c hc; (try (simp only [AH.none_iff] at hc; repeat (have hn := hc.1; replace hc := hc.2))); (first | (have hc2 := Eq.trans hc (by with_reducible assumption); clear hc; subst hc2) | (refine i64_k hc ?_ ?_ ?_ ; omega; omega; (clear hc; intro hc; subst hc)) | skip)) | (apply Exists.intro; apply And.intro; (first | (focus (repeat (first | (with_reducible assumption) | (with_reducible exact AH.set_same _ _ _) | ((first | refine AH.get_ne ?_ ?_ | refine AH.getd_ne ?_ ?_); (first | (with_reducible assumption) | exact Ne.symm (by with_reducible assumption))))); done))) | (apply Exists.intro; apply And.intro; first | (with_reducible assumption) | ((try simp only [List.getElem?_drop, Nat.mul_one, Nat.add_zero, Nat.zero_add]); first | (with_reducible assumption) | rfl)) | (apply And.intro; (first | rfl | (with_reducible assumption) | exact Nat.le_of_ble_eq_true rfl | omega | (simp <;> omega))) | (refine ACall.to (cv _ (by (first | (focus (repeat (first | (with_reducible assumption) | (with_reducible exact AH.set_same _ _ _) | ((first | refine AH.get_ne ?_ ?_ | refine AH.getd_ne ?_ ?_); (first | (with_reducible assumption) | exact Ne.symm (by with_reducible assumption))))); done)))) ?_))) <;> (try (conv => whnf))
        refine ⟨i + 1, hit, show W.length - (i + 1) < W.length - i by omega, ⟨congrArg (AV.int .i64) (by omega), ?_, ?_, trivial⟩, ?_⟩
        · dsimp only; rw [hA2, eAl]; rfl
        · dsimp only; rw [hA2, eAl]; rfl
        · dsimp only; rw [hA2, hB2]; exact hst
      · rw [if_neg hV] at cv
        have eA := pxA_f hp hV
        have eB := pxB_f hp hV
        have gcc := gc (pxA v (W.take i)) (pxB v (W.take i))
        clear gc
        generalize hA2 : pxA v (W.take (i + 1)) = A2 at *
        generalize hB2 : pxB v (W.take (i + 1)) = B2 at *
        generalize pxA v (W.take i) = A at *
        generalize pxB v (W.take i) = B at *
        generalize hG : Hk A B = G at *
        (repeat' ((conv => whnf); first | (refine Then.mk (AWq.in ?_); refine AWp_segP 21 (prA p) rfl rfl (by assumption) (gs) (rfl) ?_; refine AWp.of tt_ok (dok _) rfl ?_) | refine Then.mk ?_ | left | refine OpsA.cons ?_ | refine OpsA.nil ?_ | refine AWq.seq ?_ | refine AWq.region ?_ | refine AWq.cond ?_ | refine AWq.block ?_ | refine AWq.skip ?_ | refine AWq.ret ?_ | refine AWq.exit ?_ | refine AWq.loop ?_ | (refine Both.mk ?_ ?_ <;> intro hc <;> (first | exact Bool.noConfusion hc | exact absurd (by with_reducible rfl) hc | exact (hc : False).elim | exact absurd (by assumption) hc | exact absurd hc (by assumption) | (exfalso; omega) | skip)) | (intro c hc; (try (simp only [AH.none_iff] at hc; repeat (have hn := hc.1; replace hc := hc.2))); (first | (have hc2 := Eq.trans hc (by with_reducible assumption); clear hc; subst hc2) | (refine i64_k hc ?_ ?_ ?_ ; omega; omega; (clear hc; intro hc; subst hc)) | skip)) | (apply Exists.intro; apply And.intro; (first | (focus (repeat (first | (with_reducible assumption) | (with_reducible exact AH.set_same _ _ _) | ((first | refine AH.get_ne ?_ ?_ | refine AH.getd_ne ?_ ?_); (first | (with_reducible assumption) | exact Ne.symm (by with_reducible assumption))))); done))) | (apply Exists.intro; apply And.intro; first | (with_reducible assumption) | ((try simp only [List.getElem?_drop, Nat.mul_one, Nat.add_zero, Nat.zero_add]); first | (with_reducible assumption) | rfl)) | (apply And.intro; (first | rfl | (with_reducible assumption) | exact Nat.le_of_ble_eq_true rfl | omega | (simp <;> omega))) | (refine ACall.to (cv _ (by (first | (focus (repeat (first | (with_reducible assumption) | (with_reducible exact AH.set_same _ _ _) | ((first | refine AH.get_ne ?_ ?_ | refine AH.getd_ne ?_ ?_); (first | (with_reducible assumption) | exact Ne.symm (by with_reducible assumption))))); done)))) ?_))) <;> (try (conv => whnf))
        refine ⟨i + 1, hit, show W.length - (i + 1) < W.length - i by omega, ⟨congrArg (AV.int .i64) (by omega), ?_, ?_, trivial⟩, ?_⟩
        · dsimp only; rw [hA2, eA]; rfl
        · dsimp only; rw [hA2, eA]; rfl
        · rw [hA2, hB2, eA, eB, hG]; exact HLe.refl _
    · have hie : i = W.length := by omega
      subst hie
      rw [List.take_length] at *
      have k2 : Hk (pxA v W) (pxB v W) q2 = some (.row (iS .i64 (pxB v W)) (pxA v W).length) := by rw [hHk]; (first | (focus (repeat (first | (with_reducible assumption) | (with_reducible exact AH.set_same _ _ _) | ((first | refine AH.get_ne ?_ ?_ | refine AH.getd_ne ?_ ?_); (first | (with_reducible assumption) | exact Ne.symm (by with_reducible assumption))))); done))
      have k1 : (Hk (pxA v W) (pxB v W)).del q2 q1 = some (.row (iS .i64 (pxA v W)) (pxA v W).length) := by rw [hHk]; (first | (focus (repeat (first | (with_reducible assumption) | (with_reducible exact AH.set_same _ _ _) | ((first | refine AH.get_ne ?_ ?_ | refine AH.getd_ne ?_ ?_); (first | (with_reducible assumption) | exact Ne.symm (by with_reducible assumption))))); done))
      have hdel : ((Hk (pxA v W) (pxB v W)).del q2).del q1 = H := by rw [hHk, AH.del_set _ _ _ (by (first | assumption | (simp only [AH.none_iff]; (repeat' (first | assumption | (refine And.intro ?_ ?_)))))), AH.del_set _ _ _ hq1]
      have hm := fun H => mix_c (pxA v W) (pxB v W) (by omega) (by rw [pxB_len]; omega) H
      rw [pxB_len] at hm
      generalize Hk (pxA v W) (pxB v W) = G at *
      generalize mixV (pxA v W) (pxB v W) = M at *
      generalize (pxA v W).length = n at *
      generalize iS .i64 (pxA v W) = R1 at *
      generalize iS .i64 (pxB v W) = R2 at *
      (repeat' ((conv => whnf); first | left | refine OpsA.cons ?_ | refine OpsA.nil ?_ | refine AWq.seq ?_ | refine AWq.region ?_ | refine AWq.cond ?_ | refine AWq.block ?_ | refine AWq.skip ?_ | refine AWq.ret ?_ | refine AWq.exit ?_ | refine AWq.loop ?_ | (refine Both.mk ?_ ?_ <;> intro hc <;> (first | exact Bool.noConfusion hc | exact absurd (by with_reducible rfl) hc | exact (hc : False).elim | exact absurd (by assumption) hc | exact absurd hc (by assumption) | (exfalso; omega) | skip)) | (intro c hc; (try (simp only [AH.none_iff] at hc; repeat (have hn := hc.1; replace hc := hc.2))); (first | (have hc2 := Eq.trans hc (by with_reducible assumption); clear hc; subst hc2) | (refine i64_k hc ?_ ?_ ?_ ; omega; omega; (clear hc; intro hc; subst hc)) | skip)) | (apply Exists.intro; apply And.intro; (first | (focus (repeat (first | (with_reducible assumption) | (with_reducible exact AH.set_same _ _ _) | ((first | refine AH.get_ne ?_ ?_ | refine AH.getd_ne ?_ ?_); (first | (with_reducible assumption) | exact Ne.symm (by with_reducible assumption))))); done))) | (apply Exists.intro; apply And.intro; first | (with_reducible assumption) | ((try simp only [List.getElem?_drop, Nat.mul_one, Nat.add_zero, Nat.zero_add]); first | (with_reducible assumption) | rfl)) | (apply And.intro; (first | rfl | (with_reducible assumption) | exact Nat.le_of_ble_eq_true rfl | omega | (simp <;> omega))))) <;> (try (conv => whnf))
      refine Then.mk ?_
      (repeat' ((conv => whnf); first | left | refine OpsA.cons ?_ | refine OpsA.nil ?_ | refine AWq.seq ?_ | refine AWq.region ?_ | refine AWq.cond ?_ | refine AWq.block ?_ | refine AWq.skip ?_ | refine AWq.ret ?_ | refine AWq.exit ?_ | refine AWq.loop ?_ | (refine Both.mk ?_ ?_ <;> intro hc <;> (first | exact Bool.noConfusion hc | exact absurd (by with_reducible rfl) hc | exact (hc : False).elim | exact absurd (by assumption) hc | exact absurd hc (by assumption) | (exfalso; omega) | skip)) | (intro c hc; (try (simp only [AH.none_iff] at hc; repeat (have hn := hc.1; replace hc := hc.2))); (first | (have hc2 := Eq.trans hc (by with_reducible assumption); clear hc; subst hc2) | (refine i64_k hc ?_ ?_ ?_ ; omega; omega; (clear hc; intro hc; subst hc)) | skip)) | (apply Exists.intro; apply And.intro; (first | (focus (repeat (first | (with_reducible assumption) | (with_reducible exact AH.set_same _ _ _) | ((first | refine AH.get_ne ?_ ?_ | refine AH.getd_ne ?_ ?_); (first | (with_reducible assumption) | exact Ne.symm (by with_reducible assumption))))); done))) | (apply Exists.intro; apply And.intro; first | (with_reducible assumption) | ((try simp only [List.getElem?_drop, Nat.mul_one, Nat.add_zero, Nat.zero_add]); first | (with_reducible assumption) | rfl)) | (apply And.intro; (first | rfl | (with_reducible assumption) | exact Nat.le_of_ble_eq_true rfl | omega | (simp <;> omega))))) <;> (try (conv => whnf))
      refine Then.mk (AWq.in ?_)
      refine AWp_freeze1 19 rfl rfl k2 (by omega) ?_
      refine AWp_freeze1 18 rfl rfl k1 (by omega) ?_
      rw [hdel]
      refine AWp.of tt_ok (dok _) rfl ?_
      by_cases hlb : lb < 0 ∨ n = 0
      · rw [if_pos hlb]
        by_cases hlb2 : lb < 0
        · (repeat' ((conv => whnf); first | refine Then.mk ?_ | left | refine OpsA.cons ?_ | refine OpsA.nil ?_ | refine AWq.seq ?_ | refine AWq.region ?_ | refine AWq.cond ?_ | refine AWq.block ?_ | refine AWq.skip ?_ | refine AWq.ret ?_ | refine AWq.exit ?_ | refine AWq.loop ?_ | (refine Both.mk ?_ ?_ <;> intro hc <;> (first | exact Bool.noConfusion hc | exact absurd (by with_reducible rfl) hc | exact (hc : False).elim | exact absurd (by assumption) hc | exact absurd hc (by assumption) | (exfalso; omega) | skip)) | (intro c hc; (try (simp only [AH.none_iff] at hc; repeat (have hn := hc.1; replace hc := hc.2))); (first | (have hc2 := Eq.trans hc (by with_reducible assumption); clear hc; subst hc2) | (refine i64_k hc ?_ ?_ ?_ ; omega; omega; (clear hc; intro hc; subst hc)) | skip)) | (apply Exists.intro; apply And.intro; (first | (focus (repeat (first | (with_reducible assumption) | (with_reducible exact AH.set_same _ _ _) | ((first | refine AH.get_ne ?_ ?_ | refine AH.getd_ne ?_ ?_); (first | (with_reducible assumption) | exact Ne.symm (by with_reducible assumption))))); done))) | (apply Exists.intro; apply And.intro; first | (with_reducible assumption) | ((try simp only [List.getElem?_drop, Nat.mul_one, Nat.add_zero, Nat.zero_add]); first | (with_reducible assumption) | rfl)) | (apply And.intro; (first | rfl | (with_reducible assumption) | exact Nat.le_of_ble_eq_true rfl | omega | (simp <;> omega))))) <;> (try (conv => whnf))
          all_goals (first | ((repeat' (first | (with_reducible exact HLe.refl _) | (with_reducible assumption))); done))
        · (repeat' ((conv => whnf); first | refine Then.mk ?_ | left | refine OpsA.cons ?_ | refine OpsA.nil ?_ | refine AWq.seq ?_ | refine AWq.region ?_ | refine AWq.cond ?_ | refine AWq.block ?_ | refine AWq.skip ?_ | refine AWq.ret ?_ | refine AWq.exit ?_ | refine AWq.loop ?_ | (refine Both.mk ?_ ?_ <;> intro hc <;> (first | exact Bool.noConfusion hc | exact absurd (by with_reducible rfl) hc | exact (hc : False).elim | exact absurd (by assumption) hc | exact absurd hc (by assumption) | (exfalso; omega) | skip)) | (intro c hc; (try (simp only [AH.none_iff] at hc; repeat (have hn := hc.1; replace hc := hc.2))); (first | (have hc2 := Eq.trans hc (by with_reducible assumption); clear hc; subst hc2) | (refine i64_k hc ?_ ?_ ?_ ; omega; omega; (clear hc; intro hc; subst hc)) | skip)) | (apply Exists.intro; apply And.intro; (first | (focus (repeat (first | (with_reducible assumption) | (with_reducible exact AH.set_same _ _ _) | ((first | refine AH.get_ne ?_ ?_ | refine AH.getd_ne ?_ ?_); (first | (with_reducible assumption) | exact Ne.symm (by with_reducible assumption))))); done))) | (apply Exists.intro; apply And.intro; first | (with_reducible assumption) | ((try simp only [List.getElem?_drop, Nat.mul_one, Nat.add_zero, Nat.zero_add]); first | (with_reducible assumption) | rfl)) | (apply And.intro; (first | rfl | (with_reducible assumption) | exact Nat.le_of_ble_eq_true rfl | omega | (simp <;> omega))))) <;> (try (conv => whnf))
          all_goals (first | ((repeat' (first | (with_reducible exact HLe.refl _) | (with_reducible assumption))); done))
      · rw [if_neg hlb]
        (repeat' ((conv => whnf); first | refine Then.mk ?_ | left | refine OpsA.cons ?_ | refine OpsA.nil ?_ | refine AWq.seq ?_ | refine AWq.region ?_ | refine AWq.cond ?_ | refine AWq.block ?_ | refine AWq.skip ?_ | refine AWq.ret ?_ | refine AWq.exit ?_ | refine AWq.loop ?_ | (refine Both.mk ?_ ?_ <;> intro hc <;> (first | exact Bool.noConfusion hc | exact absurd (by with_reducible rfl) hc | exact (hc : False).elim | exact absurd (by assumption) hc | exact absurd hc (by assumption) | (exfalso; omega) | skip)) | (intro c hc; (try (simp only [AH.none_iff] at hc; repeat (have hn := hc.1; replace hc := hc.2))); (first | (have hc2 := Eq.trans hc (by with_reducible assumption); clear hc; subst hc2) | (refine i64_k hc ?_ ?_ ?_ ; omega; omega; (clear hc; intro hc; subst hc)) | skip)) | (apply Exists.intro; apply And.intro; (first | (focus (repeat (first | (with_reducible assumption) | (with_reducible exact AH.set_same _ _ _) | ((first | refine AH.get_ne ?_ ?_ | refine AH.getd_ne ?_ ?_); (first | (with_reducible assumption) | exact Ne.symm (by with_reducible assumption))))); done))) | (apply Exists.intro; apply And.intro; first | (with_reducible assumption) | ((try simp only [List.getElem?_drop, Nat.mul_one, Nat.add_zero, Nat.zero_add]); first | (with_reducible assumption) | rfl)) | (apply And.intro; (first | rfl | (with_reducible assumption) | exact Nat.le_of_ble_eq_true rfl | omega | (simp <;> omega))) | (refine ACall.to (hm _) ?_))) <;> (try (conv => whnf))
        all_goals (first | ((repeat' (first | (with_reducible exact HLe.refl _) | (with_reducible assumption))); done))
  · rw [if_pos he]
    refine ACall_of tt_ok (dok _) Try.func28 rfl (by decide) rfl ?_
    (repeat' ((conv => whnf); first | refine Then.mk ?_ | left | refine OpsA.cons ?_ | refine OpsA.nil ?_ | refine AWq.seq ?_ | refine AWq.region ?_ | refine AWq.cond ?_ | refine AWq.block ?_ | refine AWq.skip ?_ | refine AWq.ret ?_ | refine AWq.exit ?_ | refine AWq.loop ?_ | (refine Both.mk ?_ ?_ <;> intro hc <;> (first | exact Bool.noConfusion hc | exact absurd (by with_reducible rfl) hc | exact (hc : False).elim | exact absurd (by assumption) hc | exact absurd hc (by assumption) | (exfalso; omega) | skip)) | (intro c hc; (try (simp only [AH.none_iff] at hc; repeat (have hn := hc.1; replace hc := hc.2))); (first | (have hc2 := Eq.trans hc (by with_reducible assumption); clear hc; subst hc2) | (refine i64_k hc ?_ ?_ ?_ ; omega; omega; (clear hc; intro hc; subst hc)) | skip)) | (apply Exists.intro; apply And.intro; (first | (focus (repeat (first | (with_reducible assumption) | (with_reducible exact AH.set_same _ _ _) | ((first | refine AH.get_ne ?_ ?_ | refine AH.getd_ne ?_ ?_); (first | (with_reducible assumption) | exact Ne.symm (by with_reducible assumption))))); done))) | (apply Exists.intro; apply And.intro; first | (with_reducible assumption) | ((try simp only [List.getElem?_drop, Nat.mul_one, Nat.add_zero, Nat.zero_add]); first | (with_reducible assumption) | rfl)) | (apply And.intro; (first | rfl | (with_reducible assumption) | exact Nat.le_of_ble_eq_true rfl | omega | (simp <;> omega))) | (refine ACall.to (hw _) ?_))) <;> (try (conv => whnf))
    exact HLe.refl _
end Go.Proofs.Ytghielfbdpkhmaa
/- The walk of the reference's Pixel. -/
namespace Go.Proofs.Ytghielfbdpkhmaa
open Go.Fw Go
set_option linter.unusedVariables false
set_option linter.unusedSimpArgs false

set_option maxHeartbeats 8000000 in
set_option maxRecDepth 8000 in
theorem rpixel_c (w h : Int) (L : List Int) (x y r : Int) (v : List Int) (hL : LOk L) (hx : I64 x) (hy : I64 y) (hr : I64 r) (hv : v.length ≤ 1000000) (H : AH) :
    ACall Try.prog 30 [.int .i64 w, .int .i64 h, .cs (iS .i64 L) L.length, .int .i64 x, .int .i64 y, .int .i64 r, .cs (iS .i64 v) v.length] H
      (fun z H' => z = .tup [.int .i64 (pixV w h L x y r v).1, .int .i64 (pixV w h L x y r v).2] ∧ H' = H) := by
  refine ACall.back ?_
  have hw := fun H => rweights_c w h L x y r hL hx hy hr H
  unfold pixV
  have hgood := wt_good (w := w) (h := h) (x := x) (y := y) (r := r) hL
  generalize (wtV w h L x y r).1 = W at *
  generalize (wtV w h L x y r).2 = e at *
  by_cases he : e = 0
  · subst he
    obtain ⟨g1, g2, g3, g4, g5, hWl, hWc⟩ := hgood rfl
    obtain ⟨j, hj, hjL, hyw1, hyw2⟩ := px_at ⟨g1, g2, g3, g4, g5⟩
    have gl : (iS .i64 L)[(y * w + x).toNat]? = some (.int .i64 (L.getD (y * w + x).toNat 0)) := iS_get (by omega)
    have ew : IntKind.i64.wrap (y * w) = y * w := by rw [IntKind.wrap_i64]; omega
    rw [if_neg (fun h => h rfl)]
    have hwb : -9223372036854775808 ≤ L.getD (y * w + x).toNat 0 ∧ L.getD (y * w + x).toNat 0 ≤ 11 := by
      have := hL.2 _ (getD_mem (l := L) (i := (y * w + x).toNat) (by omega)); exact this
    generalize L.getD (y * w + x).toNat 0 = lb at *
    obtain ⟨Y, hY⟩ : ∃ Y, Y = y * w := ⟨_, rfl⟩
    rw [← hY] at hj hyw1 hyw2 gl ew
    have ew : IntKind.i64.wrap (y * w) = Y := by rw [← hY]; exact ew
    clear hY
    have hLl : (iS .i64 L).length = L.length := by simp
    have hLm := hL.1
    refine ACall_of tt_ok (dok _) Try.func30 rfl (by decide) rfl ?_
    iterate 5 ((repeat' ((conv => whnf); first | left | refine OpsA.cons ?_ | refine OpsA.nil ?_ | refine AWq.seq ?_ | refine AWq.region ?_ | refine AWq.cond ?_ | refine AWq.block ?_ | refine AWq.skip ?_ | refine AWq.ret ?_ | refine AWq.exit ?_ | refine AWq.loop ?_ | (refine Both.mk ?_ ?_ <;> intro hc <;> (first | exact Bool.noConfusion hc | exact absurd (by with_reducible rfl) hc | exact absurd (by assumption) hc | exact absurd hc (by assumption) | (exfalso; omega) | skip)) | (intro c hc; (try (simp only [AH.none_iff] at hc; repeat (have hn := hc.1; replace hc := hc.2))); (first | (have hc2 := Eq.trans hc (by with_reducible assumption); clear hc; subst hc2) | (refine i64_k hc ?_ ?_ ?_ ; omega; omega; (clear hc; intro hc; subst hc)) | skip)) | (apply Exists.intro; apply And.intro; (first | (focus (repeat (first | (with_reducible assumption) | (with_reducible exact AH.set_same _ _ _) | ((first | refine AH.get_ne ?_ ?_ | refine AH.getd_ne ?_ ?_); (first | (with_reducible assumption) | exact Ne.symm (by with_reducible assumption))))); done))) | (apply Exists.intro; apply And.intro; first | (with_reducible assumption) | ((try simp only [List.getElem?_drop, Nat.mul_one, Nat.add_zero, Nat.zero_add]); first | (with_reducible assumption) | assumption | rfl)) | (apply And.intro; (first | rfl | (with_reducible assumption) | exact Nat.le_of_ble_eq_true rfl | omega | assumption | (simp <;> omega))) | (refine ACall.to (hw _) ?_))) <;> (try (conv => whnf)); refine Then.mk ?_)
    refine AWq.in ?_
    refine AWp_nilrow1 18 1 rfl rfl fun q1 hq1 => ?_
    refine AWp_nilrow1 19 1 rfl rfl fun q2 hq2 => ?_
    refine AWp.of tt_ok (dok _) rfl ?_
    (repeat' ((conv => whnf); first | refine Then.mk ?_ | left | refine OpsA.cons ?_ | refine OpsA.nil ?_ | refine AWq.seq ?_ | refine AWq.region ?_ | refine AWq.cond ?_ | refine AWq.block ?_ | refine AWq.skip ?_ | refine AWq.ret ?_ | refine AWq.exit ?_ | refine AWq.loop ?_ | (refine Both.mk ?_ ?_ <;> intro hc <;> (first | exact Bool.noConfusion hc | exact absurd (by with_reducible rfl) hc | exact absurd (by assumption) hc | exact absurd hc (by assumption) | (exfalso; omega) | skip)) | (intro c hc; (try (simp only [AH.none_iff] at hc; repeat (have hn := hc.1; replace hc := hc.2))); (first | (have hc2 := Eq.trans hc (by with_reducible assumption); clear hc; subst hc2) | (refine i64_k hc ?_ ?_ ?_ ; omega; omega; (clear hc; intro hc; subst hc)) | skip)) | (apply Exists.intro; apply And.intro; (first | (focus (repeat (first | (with_reducible assumption) | (with_reducible exact AH.set_same _ _ _) | ((first | refine AH.get_ne ?_ ?_ | refine AH.getd_ne ?_ ?_); (first | (with_reducible assumption) | exact Ne.symm (by with_reducible assumption))))); done))) | (apply Exists.intro; apply And.intro; first | (with_reducible assumption) | ((try simp only [List.getElem?_drop, Nat.mul_one, Nat.add_zero, Nat.zero_add]); first | (with_reducible assumption) | assumption | rfl)) | (apply And.intro; (first | rfl | (with_reducible assumption) | exact Nat.le_of_ble_eq_true rfl | omega | assumption | (simp <;> omega))))) <;> (try (conv => whnf))
    have n21 : q2 ≠ q1 := (AH.none_set hq2).1
    have hq2' : H q2 = none := (AH.none_set hq2).2
    clear hq2
    obtain ⟨Hk, hHk⟩ : ∃ Hk : List Int → List Int → AH, ∀ a b, Hk a b = (H.set q1 (.row (iS .i64 a) a.length)).set q2 (.row (iS .i64 b) a.length) := ⟨_, fun _ _ => rfl⟩
    refine AWp_loop (σ := Nat) (18 :: 19 :: 20 :: 34 :: 35 :: 36 :: 37 :: 38 :: 39 :: 40 :: 41 :: 42 :: 43 :: 44 :: 45 :: 46 :: 47 :: 48 :: 49 :: 50 :: 51 :: 52 :: 53 :: 54 :: 55 :: 56 :: 57 :: 58 :: 59 :: 60 :: 61 :: 62 :: 63 :: 64 :: 65 :: 66 :: 67 :: 68 :: 69 :: 70 :: 71 :: 72 :: 73 :: 74 :: 75 :: 76 :: 77 :: []) (fun i => [(20, .int .i64 i), (18, .sl q1 (pxA v (W.take i)).length 1 0 (pxA v (W.take i)).length none), (19, .sl q2 (pxA v (W.take i)).length 1 0 (pxA v (W.take i)).length none)]) (fun i => Hk (pxA v (W.take i)) (pxB v (W.take i))) (fun i => i ≤ W.length) (fun i => W.length - i) 0 rfl (Nat.zero_le _) ⟨rfl, rfl, rfl, trivial⟩ (HLe.of_eq (by rw [hHk]; rfl)) ?_
    intro i hi
    refine AWp.of tt_ok (dok _) rfl ?_
    dsimp only at hi ⊢
    have hpl := prL_len W
    have hAl : (iS .i64 (pxA v (W.take i))).length = (pxA v (W.take i)).length := by simp
    have hBl : (iS .i64 (pxB v (W.take i))).length = (pxA v (W.take i)).length := by rw [iS_length]; exact pxB_len _ _
    have hAm : (pxA v (W.take i)).length ≤ 12 := Nat.le_trans (px_len _ _) (by rw [List.length_take]; omega)
    by_cases hit : i < W.length
    · obtain ⟨p, hp⟩ : ∃ p, W[i]? = some p := ⟨_, List.getElem?_eq_getElem hit⟩
      have hpm : p ∈ W := List.mem_of_getElem? hp
      obtain ⟨hp1, hp2⟩ := hWc p hpm
      have hvl : (iS .i64 v).length = v.length := by simp
      have ga : (prL W)[i * 2 + 0]? = some (.int .i64 p.1) := prL_get hp 0 (by decide)
      have gb : (prL W)[i * 2 + 1]? = some (.int .i64 p.2) := prL_get hp 1 (by decide)
      have gv : p.1 < v.length → (iS .i64 v)[p.1.toNat]? = some (.int .i64 (v.getD p.1.toNat 0)) := fun h => iS_get (by omega)
      by_cases hV : hasV v p.1
      · have gv := gv hV.2.1
        have hV3 := hV.2.2
        have hV2 := hV.2.1
        have eA := pxA_t hp hV
        have eB := pxB_t hp hV
        have hstep : ∀ a b z u, HLe (Hk (a ++ [z]) (b ++ [u])) (((Hk a b).set q1 (.row (iS .i64 a ++ [.int .i64 z]) (a.length + 1))).set q2 (.row (iS .i64 b ++ [.int .i64 u]) (a.length + 1))) := fun a b z u => by
          rw [hHk, hHk, ← iS_snoc, ← iS_snoc, List.length_append]; exact HLe.of_eq (by ((funext s; simp only [AH.set, AH.del]; repeat' split) <;> (first | rfl | (exfalso; omega))))
        have k1 : Hk (pxA v (W.take i)) (pxB v (W.take i)) q1 = some (.row (iS .i64 (pxA v (W.take i))) (pxA v (W.take i)).length) := by rw [hHk]; (first | (focus (repeat (first | (with_reducible assumption) | (with_reducible exact AH.set_same _ _ _) | ((first | refine AH.get_ne ?_ ?_ | refine AH.getd_ne ?_ ?_); (first | (with_reducible assumption) | exact Ne.symm (by with_reducible assumption))))); done))
        have k2 : Hk (pxA v (W.take i)) (pxB v (W.take i)) q2 = some (.row (iS .i64 (pxB v (W.take i))) (pxA v (W.take i)).length) := by rw [hHk]; (first | (focus (repeat (first | (with_reducible assumption) | (with_reducible exact AH.set_same _ _ _) | ((first | refine AH.get_ne ?_ ?_ | refine AH.getd_ne ?_ ?_); (first | (with_reducible assumption) | exact Ne.symm (by with_reducible assumption))))); done))
        have eAl : (pxA v (W.take (i + 1))).length = (pxA v (W.take i)).length + 1 := by rw [eA, List.length_append]; rfl
        have hst := hstep (pxA v (W.take i)) (pxB v (W.take i)) p.2 (v.getD p.1.toNat 0)
        rw [← eA, ← eB] at hst
        clear hstep
        generalize hA2 : pxA v (W.take (i + 1)) = A2 at *
        generalize hB2 : pxB v (W.take (i + 1)) = B2 at *
        generalize pxA v (W.take i) = A at *
        generalize pxB v (W.take i) = B at *
        generalize A.length = n at *
        generalize hR1 : iS .i64 A = R1 at *
        generalize hR2 : iS .i64 B = R2 at *
        generalize Hk A B = G at *
        generalize v.getD p.1.toNat 0 = z at *
        (repeat' ((conv => whnf); first | refine Then.mk ?_ | left | refine OpsA.cons ?_ | refine OpsA.nil ?_ | refine AWq.seq ?_ | refine AWq.region ?_ | refine AWq.cond ?_ | refine AWq.block ?_ | refine AWq.skip ?_ | refine AWq.ret ?_ | refine AWq.exit ?_ | refine AWq.loop ?_ | (refine Both.mk ?_ ?_ <;> intro hc <;> (first | exact Bool.noConfusion hc | exact absurd (by with_reducible rfl) hc | exact absurd (by assumption) hc | exact absurd hc (by assumption) | (exfalso; omega) | skip)) | (intro c hc; (try (simp only [AH.none_iff] at hc; repeat (have hn := hc.1; replace hc := hc.2))); (first | (have hc2 := Eq.trans hc (by with_reducible assumption); clear hc; subst hc2) | (refine i64_k hc ?_ ?_ ?_ ; omega; omega; (clear hc; intro hc; subst hc)) | skip)) | (apply Exists.intro; apply And.intro; (first | (focus (repeat (first | (with_reducible assumption) | (with_reducible exact AH.set_same _ _ _) | ((first | refine AH.get_ne ?_ ?_ | refine AH.getd_ne ?_ ?_); (first | (with_reducible assumption) | exact Ne.symm (by with_reducible assumption))))); done))) | (apply Exists.intro; apply And.intro; first | (with_reducible assumption) | ((try simp only [List.getElem?_drop, Nat.mul_one, Nat.add_zero, Nat.zero_add]); first | (with_reducible assumption) | assumption | rfl)) | (apply And.intro; (first | rfl | (with_reducible assumption) | exact Nat.le_of_ble_eq_true rfl | omega | assumption | (simp <;> omega))))) <;> (try (conv => whnf))
        refine ⟨i + 1, hit, show W.length - (i + 1) < W.length - i by omega, ⟨congrArg (AV.int .i64) (by omega), ?_, ?_, trivial⟩, ?_⟩
        · dsimp only; rw [hA2, eAl]; rfl
        · dsimp only; rw [hA2, eAl]; rfl
        · rw [hA2, hB2]; exact hst
      · have hV' : ¬ (p.1 < v.length ∧ v.getD p.1.toNat 0 ≠ -1) := fun h => hV ⟨hp1.1, h.1, h.2⟩
        have eA := pxA_f hp hV
        have eB := pxB_f hp hV
        generalize hA2 : pxA v (W.take (i + 1)) = A2 at *
        generalize hB2 : pxB v (W.take (i + 1)) = B2 at *
        generalize pxA v (W.take i) = A at *
        generalize pxB v (W.take i) = B at *
        generalize hG : Hk A B = G at *
        by_cases hpv : p.1 < v.length
        · have gv := gv hpv
          have hz : v.getD p.1.toNat 0 = -1 := Decidable.byContradiction fun h => hV' ⟨hpv, h⟩
          rw [hz] at gv
          (repeat' ((conv => whnf); first | refine Then.mk ?_ | left | refine OpsA.cons ?_ | refine OpsA.nil ?_ | refine AWq.seq ?_ | refine AWq.region ?_ | refine AWq.cond ?_ | refine AWq.block ?_ | refine AWq.skip ?_ | refine AWq.ret ?_ | refine AWq.exit ?_ | refine AWq.loop ?_ | (refine Both.mk ?_ ?_ <;> intro hc <;> (first | exact Bool.noConfusion hc | exact absurd (by with_reducible rfl) hc | exact absurd (by assumption) hc | exact absurd hc (by assumption) | (exfalso; omega) | skip)) | (intro c hc; (try (simp only [AH.none_iff] at hc; repeat (have hn := hc.1; replace hc := hc.2))); (first | (have hc2 := Eq.trans hc (by with_reducible assumption); clear hc; subst hc2) | (refine i64_k hc ?_ ?_ ?_ ; omega; omega; (clear hc; intro hc; subst hc)) | skip)) | (apply Exists.intro; apply And.intro; (first | (focus (repeat (first | (with_reducible assumption) | (with_reducible exact AH.set_same _ _ _) | ((first | refine AH.get_ne ?_ ?_ | refine AH.getd_ne ?_ ?_); (first | (with_reducible assumption) | exact Ne.symm (by with_reducible assumption))))); done))) | (apply Exists.intro; apply And.intro; first | (with_reducible assumption) | ((try simp only [List.getElem?_drop, Nat.mul_one, Nat.add_zero, Nat.zero_add]); first | (with_reducible assumption) | assumption | rfl)) | (apply And.intro; (first | rfl | (with_reducible assumption) | exact Nat.le_of_ble_eq_true rfl | omega | assumption | (simp <;> omega))))) <;> (try (conv => whnf))
          refine ⟨i + 1, hit, show W.length - (i + 1) < W.length - i by omega, ⟨congrArg (AV.int .i64) (by omega), ?_, ?_, trivial⟩, ?_⟩
          · dsimp only; rw [hA2, eA]; rfl
          · dsimp only; rw [hA2, eA]; rfl
          · rw [hA2, hB2, eA, eB, hG]; exact HLe.refl _
        · (repeat' ((conv => whnf); first | refine Then.mk ?_ | left | refine OpsA.cons ?_ | refine OpsA.nil ?_ | refine AWq.seq ?_ | refine AWq.region ?_ | refine AWq.cond ?_ | refine AWq.block ?_ | refine AWq.skip ?_ | refine AWq.ret ?_ | refine AWq.exit ?_ | refine AWq.loop ?_ | (refine Both.mk ?_ ?_ <;> intro hc <;> (first | exact Bool.noConfusion hc | exact absurd (by with_reducible rfl) hc | exact absurd (by assumption) hc | exact absurd hc (by assumption) | (exfalso; omega) | skip)) | (intro c hc; (try (simp only [AH.none_iff] at hc; repeat (have hn := hc.1; replace hc := hc.2))); (first | (have hc2 := Eq.trans hc (by with_reducible assumption); clear hc; subst hc2) | (refine i64_k hc ?_ ?_ ?_ ; omega; omega; (clear hc; intro hc; subst hc)) | skip)) | (apply Exists.intro; apply And.intro; (first | (focus (repeat (first | (with_reducible assumption) | (with_reducible exact AH.set_same _ _ _) | ((first | refine AH.get_ne ?_ ?_ | refine AH.getd_ne ?_ ?_); (first | (with_reducible assumption) | exact Ne.symm (by with_reducible assumption))))); done))) | (apply Exists.intro; apply And.intro; first | (with_reducible assumption) | ((try simp only [List.getElem?_drop, Nat.mul_one, Nat.add_zero, Nat.zero_add]); first | (with_reducible assumption) | assumption | rfl)) | (apply And.intro; (first | rfl | (with_reducible assumption) | exact Nat.le_of_ble_eq_true rfl | omega | assumption | (simp <;> omega))))) <;> (try (conv => whnf))
          refine ⟨i + 1, hit, show W.length - (i + 1) < W.length - i by omega, ⟨congrArg (AV.int .i64) (by omega), ?_, ?_, trivial⟩, ?_⟩
          · dsimp only; rw [hA2, eA]; rfl
          · dsimp only; rw [hA2, eA]; rfl
          · rw [hA2, hB2, eA, eB, hG]; exact HLe.refl _
    · have hie : i = W.length := by omega
      subst hie
      rw [List.take_length] at *
      have k2 : Hk (pxA v W) (pxB v W) q2 = some (.row (iS .i64 (pxB v W)) (pxA v W).length) := by rw [hHk]; (first | (focus (repeat (first | (with_reducible assumption) | (with_reducible exact AH.set_same _ _ _) | ((first | refine AH.get_ne ?_ ?_ | refine AH.getd_ne ?_ ?_); (first | (with_reducible assumption) | exact Ne.symm (by with_reducible assumption))))); done))
      have k1 : (Hk (pxA v W) (pxB v W)).del q2 q1 = some (.row (iS .i64 (pxA v W)) (pxA v W).length) := by rw [hHk]; (first | (focus (repeat (first | (with_reducible assumption) | (with_reducible exact AH.set_same _ _ _) | ((first | refine AH.get_ne ?_ ?_ | refine AH.getd_ne ?_ ?_); (first | (with_reducible assumption) | exact Ne.symm (by with_reducible assumption))))); done))
      have hdel : ((Hk (pxA v W) (pxB v W)).del q2).del q1 = H := by rw [hHk, AH.del_set _ _ _ (by (first | assumption | (simp only [AH.none_iff]; (repeat' (first | assumption | (refine And.intro ?_ ?_)))))), AH.del_set _ _ _ hq1]
      have hm := fun H => rmix_c (pxA v W) (pxB v W) (by omega) (by rw [pxB_len]; omega) H
      rw [pxB_len] at hm
      generalize Hk (pxA v W) (pxB v W) = G at *
      generalize mixV (pxA v W) (pxB v W) = M at *
      generalize (pxA v W).length = n at *
      generalize iS .i64 (pxA v W) = R1 at *
      generalize iS .i64 (pxB v W) = R2 at *
      (repeat' ((conv => whnf); first | left | refine OpsA.cons ?_ | refine OpsA.nil ?_ | refine AWq.seq ?_ | refine AWq.region ?_ | refine AWq.cond ?_ | refine AWq.block ?_ | refine AWq.skip ?_ | refine AWq.ret ?_ | refine AWq.exit ?_ | refine AWq.loop ?_ | (refine Both.mk ?_ ?_ <;> intro hc <;> (first | exact Bool.noConfusion hc | exact absurd (by with_reducible rfl) hc | exact absurd (by assumption) hc | exact absurd hc (by assumption) | (exfalso; omega) | skip)) | (intro c hc; (try (simp only [AH.none_iff] at hc; repeat (have hn := hc.1; replace hc := hc.2))); (first | (have hc2 := Eq.trans hc (by with_reducible assumption); clear hc; subst hc2) | (refine i64_k hc ?_ ?_ ?_ ; omega; omega; (clear hc; intro hc; subst hc)) | skip)) | (apply Exists.intro; apply And.intro; (first | (focus (repeat (first | (with_reducible assumption) | (with_reducible exact AH.set_same _ _ _) | ((first | refine AH.get_ne ?_ ?_ | refine AH.getd_ne ?_ ?_); (first | (with_reducible assumption) | exact Ne.symm (by with_reducible assumption))))); done))) | (apply Exists.intro; apply And.intro; first | (with_reducible assumption) | ((try simp only [List.getElem?_drop, Nat.mul_one, Nat.add_zero, Nat.zero_add]); first | (with_reducible assumption) | assumption | rfl)) | (apply And.intro; (first | rfl | (with_reducible assumption) | exact Nat.le_of_ble_eq_true rfl | omega | assumption | (simp <;> omega))))) <;> (try (conv => whnf))
      refine Then.mk ?_
      (repeat' ((conv => whnf); first | left | refine OpsA.cons ?_ | refine OpsA.nil ?_ | refine AWq.seq ?_ | refine AWq.region ?_ | refine AWq.cond ?_ | refine AWq.block ?_ | refine AWq.skip ?_ | refine AWq.ret ?_ | refine AWq.exit ?_ | refine AWq.loop ?_ | (refine Both.mk ?_ ?_ <;> intro hc <;> (first | exact Bool.noConfusion hc | exact absurd (by with_reducible rfl) hc | exact absurd (by assumption) hc | exact absurd hc (by assumption) | (exfalso; omega) | skip)) | (intro c hc; (try (simp only [AH.none_iff] at hc; repeat (have hn := hc.1; replace hc := hc.2))); (first | (have hc2 := Eq.trans hc (by with_reducible assumption); clear hc; subst hc2) | (refine i64_k hc ?_ ?_ ?_ ; omega; omega; (clear hc; intro hc; subst hc)) | skip)) | (apply Exists.intro; apply And.intro; (first | (focus (repeat (first | (with_reducible assumption) | (with_reducible exact AH.set_same _ _ _) | ((first | refine AH.get_ne ?_ ?_ | refine AH.getd_ne ?_ ?_); (first | (with_reducible assumption) | exact Ne.symm (by with_reducible assumption))))); done))) | (apply Exists.intro; apply And.intro; first | (with_reducible assumption) | ((try simp only [List.getElem?_drop, Nat.mul_one, Nat.add_zero, Nat.zero_add]); first | (with_reducible assumption) | assumption | rfl)) | (apply And.intro; (first | rfl | (with_reducible assumption) | exact Nat.le_of_ble_eq_true rfl | omega | assumption | (simp <;> omega))))) <;> (try (conv => whnf))
      refine Then.mk (AWq.in ?_)
      refine AWp_freeze1 19 rfl rfl k2 (by omega) ?_
      refine AWp_freeze1 18 rfl rfl k1 (by omega) ?_
      rw [hdel]
      refine AWp.of tt_ok (dok _) rfl ?_
      by_cases hlb : lb < 0 ∨ n = 0
      · rw [if_pos hlb]
        by_cases hlb2 : lb < 0
        · (repeat' ((conv => whnf); first | refine Then.mk ?_ | left | refine OpsA.cons ?_ | refine OpsA.nil ?_ | refine AWq.seq ?_ | refine AWq.region ?_ | refine AWq.cond ?_ | refine AWq.block ?_ | refine AWq.skip ?_ | refine AWq.ret ?_ | refine AWq.exit ?_ | refine AWq.loop ?_ | (refine Both.mk ?_ ?_ <;> intro hc <;> (first | exact Bool.noConfusion hc | exact absurd (by with_reducible rfl) hc | exact absurd (by assumption) hc | exact absurd hc (by assumption) | (exfalso; omega) | skip)) | (intro c hc; (try (simp only [AH.none_iff] at hc; repeat (have hn := hc.1; replace hc := hc.2))); (first | (have hc2 := Eq.trans hc (by with_reducible assumption); clear hc; subst hc2) | (refine i64_k hc ?_ ?_ ?_ ; omega; omega; (clear hc; intro hc; subst hc)) | skip)) | (apply Exists.intro; apply And.intro; (first | (focus (repeat (first | (with_reducible assumption) | (with_reducible exact AH.set_same _ _ _) | ((first | refine AH.get_ne ?_ ?_ | refine AH.getd_ne ?_ ?_); (first | (with_reducible assumption) | exact Ne.symm (by with_reducible assumption))))); done))) | (apply Exists.intro; apply And.intro; first | (with_reducible assumption) | ((try simp only [List.getElem?_drop, Nat.mul_one, Nat.add_zero, Nat.zero_add]); first | (with_reducible assumption) | assumption | rfl)) | (apply And.intro; (first | rfl | (with_reducible assumption) | exact Nat.le_of_ble_eq_true rfl | omega | assumption | (simp <;> omega))))) <;> (try (conv => whnf))
          all_goals (first | ((repeat' (first | (with_reducible exact HLe.refl _) | (with_reducible assumption))); done))
        · (repeat' ((conv => whnf); first | refine Then.mk ?_ | left | refine OpsA.cons ?_ | refine OpsA.nil ?_ | refine AWq.seq ?_ | refine AWq.region ?_ | refine AWq.cond ?_ | refine AWq.block ?_ | refine AWq.skip ?_ | refine AWq.ret ?_ | refine AWq.exit ?_ | refine AWq.loop ?_ | (refine Both.mk ?_ ?_ <;> intro hc <;> (first | exact Bool.noConfusion hc | exact absurd (by with_reducible rfl) hc | exact absurd (by assumption) hc | exact absurd hc (by assumption) | (exfalso; omega) | skip)) | (intro c hc; (try (simp only [AH.none_iff] at hc; repeat (have hn := hc.1; replace hc := hc.2))); (first | (have hc2 := Eq.trans hc (by with_reducible assumption); clear hc; subst hc2) | (refine i64_k hc ?_ ?_ ?_ ; omega; omega; (clear hc; intro hc; subst hc)) | skip)) | (apply Exists.intro; apply And.intro; (first | (focus (repeat (first | (with_reducible assumption) | (with_reducible exact AH.set_same _ _ _) | ((first | refine AH.get_ne ?_ ?_ | refine AH.getd_ne ?_ ?_); (first | (with_reducible assumption) | exact Ne.symm (by with_reducible assumption))))); done))) | (apply Exists.intro; apply And.intro; first | (with_reducible assumption) | ((try simp only [List.getElem?_drop, Nat.mul_one, Nat.add_zero, Nat.zero_add]); first | (with_reducible assumption) | assumption | rfl)) | (apply And.intro; (first | rfl | (with_reducible assumption) | exact Nat.le_of_ble_eq_true rfl | omega | assumption | (simp <;> omega))))) <;> (try (conv => whnf))
          all_goals (first | ((repeat' (first | (with_reducible exact HLe.refl _) | (with_reducible assumption))); done))
      · rw [if_neg hlb]
        (repeat' ((conv => whnf); first | refine Then.mk ?_ | left | refine OpsA.cons ?_ | refine OpsA.nil ?_ | refine AWq.seq ?_ | refine AWq.region ?_ | refine AWq.cond ?_ | refine AWq.block ?_ | refine AWq.skip ?_ | refine AWq.ret ?_ | refine AWq.exit ?_ | refine AWq.loop ?_ | (refine Both.mk ?_ ?_ <;> intro hc <;> (first | exact Bool.noConfusion hc | exact absurd (by with_reducible rfl) hc | exact absurd (by assumption) hc | exact absurd hc (by assumption) | (exfalso; omega) | skip)) | (intro c hc; (try (simp only [AH.none_iff] at hc; repeat (have hn := hc.1; replace hc := hc.2))); (first | (have hc2 := Eq.trans hc (by with_reducible assumption); clear hc; subst hc2) | (refine i64_k hc ?_ ?_ ?_ ; omega; omega; (clear hc; intro hc; subst hc)) | skip)) | (apply Exists.intro; apply And.intro; (first | (focus (repeat (first | (with_reducible assumption) | (with_reducible exact AH.set_same _ _ _) | ((first | refine AH.get_ne ?_ ?_ | refine AH.getd_ne ?_ ?_); (first | (with_reducible assumption) | exact Ne.symm (by with_reducible assumption))))); done))) | (apply Exists.intro; apply And.intro; first | (with_reducible assumption) | ((try simp only [List.getElem?_drop, Nat.mul_one, Nat.add_zero, Nat.zero_add]); first | (with_reducible assumption) | assumption | rfl)) | (apply And.intro; (first | rfl | (with_reducible assumption) | exact Nat.le_of_ble_eq_true rfl | omega | assumption | (simp <;> omega))) | (refine ACall.to (hm _) ?_))) <;> (try (conv => whnf))
        all_goals (first | ((repeat' (first | (with_reducible exact HLe.refl _) | (with_reducible assumption))); done))
  · rw [if_pos he]
    refine ACall_of tt_ok (dok _) Try.func30 rfl (by decide) rfl ?_
    (repeat' ((conv => whnf); first | refine Then.mk ?_ | left | refine OpsA.cons ?_ | refine OpsA.nil ?_ | refine AWq.seq ?_ | refine AWq.region ?_ | refine AWq.cond ?_ | refine AWq.block ?_ | refine AWq.skip ?_ | refine AWq.ret ?_ | refine AWq.exit ?_ | refine AWq.loop ?_ | (refine Both.mk ?_ ?_ <;> intro hc <;> (first | exact Bool.noConfusion hc | exact absurd (by with_reducible rfl) hc | exact absurd (by assumption) hc | exact absurd hc (by assumption) | (exfalso; omega) | skip)) | (intro c hc; (try (simp only [AH.none_iff] at hc; repeat (have hn := hc.1; replace hc := hc.2))); (first | (have hc2 := Eq.trans hc (by with_reducible assumption); clear hc; subst hc2) | (refine i64_k hc ?_ ?_ ?_ ; omega; omega; (clear hc; intro hc; subst hc)) | skip)) | (apply Exists.intro; apply And.intro; (first | (focus (repeat (first | (with_reducible assumption) | (with_reducible exact AH.set_same _ _ _) | ((first | refine AH.get_ne ?_ ?_ | refine AH.getd_ne ?_ ?_); (first | (with_reducible assumption) | exact Ne.symm (by with_reducible assumption))))); done))) | (apply Exists.intro; apply And.intro; first | (with_reducible assumption) | ((try simp only [List.getElem?_drop, Nat.mul_one, Nat.add_zero, Nat.zero_add]); first | (with_reducible assumption) | assumption | rfl)) | (apply And.intro; (first | rfl | (with_reducible assumption) | exact Nat.le_of_ble_eq_true rfl | omega | assumption | (simp <;> omega))) | (refine ACall.to (hw _) ?_))) <;> (try (conv => whnf))
    exact HLe.refl _
end Go.Proofs.Ytghielfbdpkhmaa
/- Keys: the walks of ValidKey, Parent, Reach. -/
namespace Go.Proofs.Ytghielfbdpkhmaa
open Go.Fw Go
set_option linter.unusedVariables false
set_option linter.unusedSimpArgs false

def mostI (l : Int) : Int := 65536 / 2 ^ l.toNat
theorem mostI_bd (l : Int) : 0 ≤ mostI l ∧ mostI l ≤ 65536 := by
  unfold mostI
  have h : (0 : Int) < 2 ^ l.toNat := Int.pow_pos (by decide)
  exact ⟨Int.ediv_nonneg (by decide) (by omega), Int.ediv_le_self _ (by decide)⟩
def kOk (l x y : Int) : Prop := (0 ≤ l ∧ l ≤ 16) ∧ (-mostI l ≤ x ∧ x ≤ mostI l - 1) ∧ (-mostI l ≤ y ∧ y ≤ mostI l - 1)
instance (l x y : Int) : Decidable (kOk l x y) := by unfold kOk; exact inferInstance
def vkE (l x y : Int) : Int := if kOk l x y then 0 else 5
def keyV (l x y : Int) : AV := .agg [.int .i64 l, .int .i64 x, .int .i64 y]
theorem shr_most {l : Int} (h : 0 ≤ l ∧ l ≤ 16) : (65536 : Int).fdiv (2 ^ min l.toNat IntKind.i64.bits) = mostI l := by
  have h2 : (0 : Int) < 2 ^ l.toNat := Int.pow_pos (by decide)
  have : IntKind.i64.bits = 64 := rfl
  rw [this, Nat.min_eq_left (by omega), Int.fdiv_eq_ediv_of_nonneg _ (by omega)]; rfl
set_option maxHeartbeats 4000000 in
set_option maxRecDepth 8000 in
theorem vkey_c (l x y : Int) (hl : I64 l) (hx : I64 x) (hy : I64 y) (H : AH) :
    ACall Try.prog 24 [keyV l x y] H (fun z H' => z = .int .i64 (vkE l x y) ∧ H' = H) := by
  refine ACall.back ?_
  unfold vkE
  have hm := mostI_bd l
  have b0 := fun H => btw_c l 0 16 H
  have b1 := fun H => btw_c x (-mostI l) (mostI l - 1) H
  have b2 := fun H => btw_c y (-mostI l) (mostI l - 1) H
  by_cases h0 : 0 ≤ l ∧ l ≤ 16
  · have hs := shr_most h0
    rw [decide_eq_true h0] at b0
    by_cases h1 : -mostI l ≤ x ∧ x ≤ mostI l - 1
    · rw [decide_eq_true h1] at b1
      by_cases h2 : -mostI l ≤ y ∧ y ≤ mostI l - 1
      · rw [decide_eq_true h2] at b2
        rw [if_pos ⟨h0, h1, h2⟩]
        generalize mostI l = m at *
        have e0 : IntKind.i64.wrap (0 - m) = -m := by rw [IntKind.wrap_i64]; omega
        refine ACall_of tt_ok (dok _) Try.func24 rfl (by decide) rfl ?_
        (repeat' ((conv => whnf); first | refine Then.mk ?_ | refine OpsA.cons ?_ | refine OpsA.nil ?_ | refine AWq.seq ?_ | refine AWq.region ?_ | refine AWq.cond ?_ | refine AWq.skip ?_ | refine AWq.ret ?_ | (refine Both.mk ?_ ?_ <;> intro hc <;> (first | exact Bool.noConfusion hc | skip)) | (intro c hc; (try (simp only [AH.none_iff] at hc; repeat (have hn := hc.1; replace hc := hc.2))); (first | (have hc2 := Eq.trans hc (by with_reducible assumption); clear hc; subst hc2) | (refine i64_k hc ?_ ?_ ?_ ; omega; omega; (clear hc; intro hc; subst hc)) | skip)) | (apply Exists.intro; apply And.intro; (first | (focus (repeat (first | (with_reducible assumption) | (with_reducible exact AH.set_same _ _ _))); done))) | (apply Exists.intro; apply And.intro; first | (with_reducible assumption) | ((try simp only [List.getElem?_drop, Nat.mul_one, Nat.add_zero, Nat.zero_add]); first | (with_reducible assumption) | rfl)) | (apply And.intro; (first | rfl | (with_reducible assumption) | omega)) | (refine ACall.to (b0 _) ?_) | (refine ACall.to (b1 _) ?_) | (refine ACall.to (b2 _) ?_))) <;> (try (conv => whnf))
        (first | ((repeat' (first | (with_reducible exact HLe.refl _) | (with_reducible assumption) | refine HLe.set_of _ _ ?_ ?_)); done))
      · rw [decide_eq_false h2] at b2
        rw [if_neg (fun h => h2 h.2.2)]
        generalize mostI l = m at *
        have e0 : IntKind.i64.wrap (0 - m) = -m := by rw [IntKind.wrap_i64]; omega
        refine ACall_of tt_ok (dok _) Try.func24 rfl (by decide) rfl ?_
        (repeat' ((conv => whnf); first | refine Then.mk ?_ | refine OpsA.cons ?_ | refine OpsA.nil ?_ | refine AWq.seq ?_ | refine AWq.region ?_ | refine AWq.cond ?_ | refine AWq.skip ?_ | refine AWq.ret ?_ | (refine Both.mk ?_ ?_ <;> intro hc <;> (first | exact Bool.noConfusion hc | skip)) | (intro c hc; (try (simp only [AH.none_iff] at hc; repeat (have hn := hc.1; replace hc := hc.2))); (first | (have hc2 := Eq.trans hc (by with_reducible assumption); clear hc; subst hc2) | (refine i64_k hc ?_ ?_ ?_ ; omega; omega; (clear hc; intro hc; subst hc)) | skip)) | (apply Exists.intro; apply And.intro; (first | (focus (repeat (first | (with_reducible assumption) | (with_reducible exact AH.set_same _ _ _))); done))) | (apply Exists.intro; apply And.intro; first | (with_reducible assumption) | ((try simp only [List.getElem?_drop, Nat.mul_one, Nat.add_zero, Nat.zero_add]); first | (with_reducible assumption) | rfl)) | (apply And.intro; (first | rfl | (with_reducible assumption) | omega)) | (refine ACall.to (b0 _) ?_) | (refine ACall.to (b1 _) ?_) | (refine ACall.to (b2 _) ?_))) <;> (try (conv => whnf))
        (first | ((repeat' (first | (with_reducible exact HLe.refl _) | (with_reducible assumption) | refine HLe.set_of _ _ ?_ ?_)); done))
    · rw [decide_eq_false h1] at b1
      rw [if_neg (fun h => h1 h.2.1)]
      generalize mostI l = m at *
      have e0 : IntKind.i64.wrap (0 - m) = -m := by rw [IntKind.wrap_i64]; omega
      refine ACall_of tt_ok (dok _) Try.func24 rfl (by decide) rfl ?_
      (repeat' ((conv => whnf); first | refine Then.mk ?_ | refine OpsA.cons ?_ | refine OpsA.nil ?_ | refine AWq.seq ?_ | refine AWq.region ?_ | refine AWq.cond ?_ | refine AWq.skip ?_ | refine AWq.ret ?_ | (refine Both.mk ?_ ?_ <;> intro hc <;> (first | exact Bool.noConfusion hc | skip)) | (intro c hc; (try (simp only [AH.none_iff] at hc; repeat (have hn := hc.1; replace hc := hc.2))); (first | (have hc2 := Eq.trans hc (by with_reducible assumption); clear hc; subst hc2) | (refine i64_k hc ?_ ?_ ?_ ; omega; omega; (clear hc; intro hc; subst hc)) | skip)) | (apply Exists.intro; apply And.intro; (first | (focus (repeat (first | (with_reducible assumption) | (with_reducible exact AH.set_same _ _ _))); done))) | (apply Exists.intro; apply And.intro; first | (with_reducible assumption) | ((try simp only [List.getElem?_drop, Nat.mul_one, Nat.add_zero, Nat.zero_add]); first | (with_reducible assumption) | rfl)) | (apply And.intro; (first | rfl | (with_reducible assumption) | omega)) | (refine ACall.to (b0 _) ?_) | (refine ACall.to (b1 _) ?_) | (refine ACall.to (b2 _) ?_))) <;> (try (conv => whnf))
      (first | ((repeat' (first | (with_reducible exact HLe.refl _) | (with_reducible assumption) | refine HLe.set_of _ _ ?_ ?_)); done))
  · rw [decide_eq_false h0] at b0
    rw [if_neg (fun h => h0 h.1)]
    refine ACall_of tt_ok (dok _) Try.func24 rfl (by decide) rfl ?_
    (repeat' ((conv => whnf); first | refine Then.mk ?_ | refine OpsA.cons ?_ | refine OpsA.nil ?_ | refine AWq.seq ?_ | refine AWq.region ?_ | refine AWq.cond ?_ | refine AWq.skip ?_ | refine AWq.ret ?_ | (refine Both.mk ?_ ?_ <;> intro hc <;> (first | exact Bool.noConfusion hc | skip)) | (intro c hc; (try (simp only [AH.none_iff] at hc; repeat (have hn := hc.1; replace hc := hc.2))); (first | (have hc2 := Eq.trans hc (by with_reducible assumption); clear hc; subst hc2) | (refine i64_k hc ?_ ?_ ?_ ; omega; omega; (clear hc; intro hc; subst hc)) | skip)) | (apply Exists.intro; apply And.intro; (first | (focus (repeat (first | (with_reducible assumption) | (with_reducible exact AH.set_same _ _ _))); done))) | (apply Exists.intro; apply And.intro; first | (with_reducible assumption) | ((try simp only [List.getElem?_drop, Nat.mul_one, Nat.add_zero, Nat.zero_add]); first | (with_reducible assumption) | rfl)) | (apply And.intro; (first | rfl | (with_reducible assumption) | omega)) | (refine ACall.to (b0 _) ?_))) <;> (try (conv => whnf))
    (first | ((repeat' (first | (with_reducible exact HLe.refl _) | (with_reducible assumption) | refine HLe.set_of _ _ ?_ ?_)); done))
/-- The tile above; the window. -/
def parV (l x y : Int) : AV × Int := if kOk l x y then (if l = 16 then (keyV 0 0 0, 7) else (keyV (l + 1) (x / 2) (y / 2), 0)) else (keyV 0 0 0, 5)
set_option maxHeartbeats 4000000 in
set_option maxRecDepth 8000 in
theorem parent_c (l x y : Int) (hl : I64 l) (hx : I64 x) (hy : I64 y) (H : AH) :
    ACall Try.prog 26 [keyV l x y] H (fun z H' => z = .tup [(parV l x y).1, .int .i64 (parV l x y).2] ∧ H' = H) := by
  refine ACall.back ?_
  unfold parV
  have hv := fun H => vkey_c l x y hl hx hy H
  unfold vkE at hv
  by_cases hk : kOk l x y
  · rw [if_pos hk]
    rw [if_pos hk] at hv
    obtain ⟨k1, k2, k3⟩ := hk
    have hm := mostI_bd l
    by_cases h16 : l = 16
    · rw [if_pos h16]
      refine ACall_of tt_ok (dok _) Try.func26 rfl (by decide) rfl ?_
      (repeat' ((conv => whnf); first | refine Then.mk ?_ | left | refine OpsA.cons ?_ | refine OpsA.nil ?_ | refine AWq.seq ?_ | refine AWq.region ?_ | refine AWq.cond ?_ | refine AWq.skip ?_ | refine AWq.ret ?_ | refine DrawA.consD ?_ | refine DrawA.nil ?_ | refine AWq.draw (by decide +kernel) ?_ | (refine Both.mk ?_ ?_ <;> intro hc <;> (first | exact Bool.noConfusion hc | exact absurd (by with_reducible rfl) hc | exact absurd (by assumption) hc | exact absurd hc (by assumption) | (exfalso; omega) | skip)) | (intro c hc; (try (simp only [AH.none_iff] at hc; repeat (have hn := hc.1; replace hc := hc.2))); (first | (refine i64_k hc ?_ ?_ ?_ ; omega; omega; (clear hc; intro hc; subst hc)) | skip)) | (apply Exists.intro; apply And.intro; (first | (focus (repeat (first | (with_reducible assumption) | (with_reducible exact AH.set_same _ _ _) | ((first | refine AH.get_ne ?_ ?_); (first | (with_reducible assumption) | exact Ne.symm (by with_reducible assumption))))); done))) | (apply Exists.intro; apply And.intro; first | (with_reducible assumption) | ((try simp only [List.getElem?_drop, Nat.mul_one, Nat.add_zero, Nat.zero_add]); first | (with_reducible assumption) | rfl)) | (apply And.intro; (first | rfl | (with_reducible assumption) | exact Nat.le_of_ble_eq_true rfl)) | (refine ACall.to (hv _) ?_))) <;> (try (conv => whnf))
      (first | ((repeat' (first | (with_reducible exact HLe.refl _) | (with_reducible assumption) | refine HLe.set_of _ _ ?_ ?_)); done))
    · rw [if_neg h16]
      have f1 := fun H => floor_c x 2 hx (by decide) H
      have f2 := fun H => floor_c y 2 hy (by decide) H
      refine ACall_of tt_ok (dok _) Try.func26 rfl (by decide) rfl ?_
      (repeat' ((conv => whnf); first | refine Then.mk ?_ | left | refine OpsA.cons ?_ | refine OpsA.nil ?_ | refine AWq.seq ?_ | refine AWq.region ?_ | refine AWq.cond ?_ | refine AWq.skip ?_ | refine AWq.ret ?_ | refine DrawA.consD ?_ | refine DrawA.nil ?_ | refine AWq.draw (by decide +kernel) ?_ | (apply Exists.intro; apply And.intro; exact f1 _) | (apply Exists.intro; apply And.intro; exact f2 _) | (refine Both.mk ?_ ?_ <;> intro hc <;> (first | exact Bool.noConfusion hc | exact absurd (by with_reducible rfl) hc | exact absurd (by assumption) hc | exact absurd hc (by assumption) | (exfalso; omega) | skip)) | (intro c hc; (try (simp only [AH.none_iff] at hc; repeat (have hn := hc.1; replace hc := hc.2))); (first | (refine i64_k hc ?_ ?_ ?_ ; omega; omega; (clear hc; intro hc; subst hc)) | skip)) | (apply Exists.intro; apply And.intro; (first | (focus (repeat (first | (with_reducible assumption) | (with_reducible exact AH.set_same _ _ _) | ((first | refine AH.get_ne ?_ ?_); (first | (with_reducible assumption) | exact Ne.symm (by with_reducible assumption))))); done))) | (apply Exists.intro; apply And.intro; first | (with_reducible assumption) | ((try simp only [List.getElem?_drop, Nat.mul_one, Nat.add_zero, Nat.zero_add]); first | (with_reducible assumption) | rfl)) | (apply And.intro; (first | rfl | (with_reducible assumption) | exact Nat.le_of_ble_eq_true rfl)) | (refine ACall.to (hv _) ?_))) <;> (try (conv => whnf))
      (first | ((repeat' (first | (with_reducible exact HLe.refl _) | (with_reducible assumption) | refine HLe.set_of _ _ ?_ ?_)); done))
  · rw [if_neg hk]
    rw [if_neg hk] at hv
    refine ACall_of tt_ok (dok _) Try.func26 rfl (by decide) rfl ?_
    (repeat' ((conv => whnf); first | refine Then.mk ?_ | left | refine OpsA.cons ?_ | refine OpsA.nil ?_ | refine AWq.seq ?_ | refine AWq.region ?_ | refine AWq.cond ?_ | refine AWq.skip ?_ | refine AWq.ret ?_ | refine DrawA.consD ?_ | refine DrawA.nil ?_ | refine AWq.draw (by decide +kernel) ?_ | (refine Both.mk ?_ ?_ <;> intro hc <;> (first | exact Bool.noConfusion hc | exact absurd (by with_reducible rfl) hc | exact absurd (by assumption) hc | exact absurd hc (by assumption) | (exfalso; omega) | skip)) | (intro c hc; (try (simp only [AH.none_iff] at hc; repeat (have hn := hc.1; replace hc := hc.2))); (first | (refine i64_k hc ?_ ?_ ?_ ; omega; omega; (clear hc; intro hc; subst hc)) | skip)) | (apply Exists.intro; apply And.intro; (first | (focus (repeat (first | (with_reducible assumption) | (with_reducible exact AH.set_same _ _ _) | ((first | refine AH.get_ne ?_ ?_); (first | (with_reducible assumption) | exact Ne.symm (by with_reducible assumption))))); done))) | (apply Exists.intro; apply And.intro; first | (with_reducible assumption) | ((try simp only [List.getElem?_drop, Nat.mul_one, Nat.add_zero, Nat.zero_add]); first | (with_reducible assumption) | rfl)) | (apply And.intro; (first | rfl | (with_reducible assumption) | exact Nat.le_of_ble_eq_true rfl)) | (refine ACall.to (hv _) ?_))) <;> (try (conv => whnf))
    (first | ((repeat' (first | (with_reducible exact HLe.refl _) | (with_reducible assumption) | refine HLe.set_of _ _ ?_ ?_)); done))
end Go.Proofs.Ytghielfbdpkhmaa
/- What each law of the chapter asks at its end. -/
namespace Go.Proofs.Ytghielfbdpkhmaa
open Go.Fw Go
set_option linter.unusedVariables false
set_option linter.unusedSimpArgs false

theorem wt_lives : wtV 4 1 [0, 0, 1, 2] 1 0 1 = ([(0, 2), (1, 1)], 0) := by decide
theorem mix_lives : mixV [2, 1] [10, 13] = (11, 0) := by
  have h1 : ¬ (([2, 1] : List Int).length ≠ ([10, 13] : List Int).length ∨ 256 < ([2, 1] : List Int).length) := by decide
  have h2 : okN [2, 1] [10, 13] ([2, 1] : List Int).length := by
    intro i hi
    have hi : i < 2 := hi
    rcases (show i = 0 ∨ i = 1 by omega) with rfl | rfl <;> decide
  unfold mixV
  rw [if_neg h1, if_neg (fun h => h h2), if_neg (by decide)]
  rfl
theorem par_lives : parV 0 (-1) 3 = (keyV 1 (-1) 1, 0) := by
  unfold parV
  rw [if_pos (by decide), if_neg (by decide)]
  rfl
set_option maxHeartbeats 4000000 in
set_option maxRecDepth 8000 in
theorem lives23_c (H : AH) : ACall Try.prog 18 [] H (fun y H' => y = .bool true ∧ H' = H) := by
  refine ACall.back ?_
  have w1 := fun H => weights_c 4 1 [0, 0, 1, 2] 1 0 1 ⟨by decide, by decide⟩ (by decide) (by decide) (by decide) H
  rw [wt_lives] at w1
  have m1 := fun H => mix_c [2, 1] [10, 13] (by decide) (by decide) H
  rw [mix_lives] at m1
  have p1 := fun H => parent_c 0 (-1) 3 (by decide) (by decide) (by decide) H
  rw [par_lives] at p1
  refine ACall_of tt_ok (dok _) Try.func18 rfl (by decide) rfl ?_
  (repeat' ((conv => whnf); first | refine Then.mk ?_ | left | refine OpsA.cons ?_ | refine OpsA.nil ?_ | refine AWq.seq ?_ | refine AWq.region ?_ | refine AWq.ret ?_ | (refine Both.mk ?_ ?_ <;> intro hc <;> (first | exact absurd (by with_reducible rfl) hc | exact absurd hc (by decide) | skip)) | (intro c hc; (try (simp only [AH.none_iff] at hc; repeat (have hn := hc.1; replace hc := hc.2))); (first | skip)) | (apply Exists.intro; apply And.intro; (first | (focus (repeat (first | (with_reducible assumption) | (with_reducible exact AH.set_same _ _ _))); done))) | (apply And.intro; (first | rfl | (with_reducible assumption) | exact Nat.le_of_ble_eq_true rfl | omega)) | (refine ACall.to (w1 _) ?_) | (refine ACall.to (m1 _) ?_) | (refine ACall.to (p1 _) ?_))) <;> (try (conv => whnf))
  all_goals first | exact absurd rfl hc | (first | ((repeat' (first | (with_reducible exact HLe.refl _) | (with_reducible assumption) | refine HLe.set_of _ _ ?_ ?_)); done))
end Go.Proofs.Ytghielfbdpkhmaa
/- The walk of the reference's Labels. -/
namespace Go.Proofs.Ytghielfbdpkhmaa
open Go.Fw Go
set_option linter.unusedVariables false
set_option linter.unusedSimpArgs false

def lblQ (l : List Int) (w i : Nat) : Nat := (i % w * pickV l 0 3 + i / w * pickV l 1 3) / 7 % 3
def lblN (l : List Int) (w i : Nat) : Int :=
  if pickV l ((i % 11 : Nat) : Int) 40 = 1 then -1 - ((i % 2 : Nat) : Int) else if pickV l ((i % 11 : Nat) : Int) 40 = 0 then ((i % 5 : Nat) : Int) else (lblQ l w i : Int)
def lblV (l : List Int) (w h : Nat) : List Int := fnL (w * h) (lblN l w)
theorem lblV_len (l : List Int) (w h : Nat) : (lblV l w h).length = w * h := fnL_len _ _
theorem lblN_bd (l : List Int) (w i : Nat) : -2 ≤ lblN l w i ∧ lblN l w i ≤ 4 := by
  have : lblQ l w i < 3 := Nat.mod_lt _ (by decide)
  unfold lblN
  split
  · omega
  · split <;> omega
theorem lblV_ok (l : List Int) {w h : Nat} (hwh : w * h ≤ 1000000) : LOk (lblV l w h) := by
  refine ⟨by rw [lblV_len]; exact hwh, fun x hx => ?_⟩
  unfold lblV fnL at hx
  obtain ⟨i, _, rfl⟩ := List.mem_map.1 hx
  have := lblN_bd l w i
  omega
set_option maxHeartbeats 8000000 in
set_option maxRecDepth 8000 in
theorem labels_c (l : List Int) (hl : ∀ n ∈ l, -9223372036854775808 ≤ n ∧ n ≤ 9223372036854775807) (hll : l.length ≤ maxLen) (w h : Nat) (hw : w ≤ 300) (hh : h ≤ 300) (H : AH) :
    ACall Try.prog 14 [.cs (iS .i64 l) l.length, .int .i64 w, .int .i64 h] H (fun y H' => y = .cs (iS .i64 (lblV l w h)) (w * h) ∧ H' = H) := by
  have hll2 : l.length ≤ 9223372036854775807 := by unfold maxLen at hll; omega
  have hp := fun (i : Nat) (hi : i ≤ 1000) m hm1 hm2 H => pick_f l hl hll2 (i : Int) (by omega) m hm1 hm2 H
  refine ACall.cold (es := 1) (by rw [iS_length, lblV_len]; omega) ?_
  have hwh : w * h ≤ 300 * 300 := Nat.mul_le_mul hw hh
  have wm : IntKind.i64.wrap ((w : Int) * (h : Int)) = ((w * h : Nat) : Int) := by rw [← Int.natCast_mul, IntKind.wrap_i64]; omega
  unfold lblV
  obtain ⟨N, hN⟩ : ∃ N, N = w * h := ⟨_, rfl⟩
  rw [← hN] at wm hwh ⊢
  refine ACall_of tt_ok (dok _) Try.func14 rfl (by decide) rfl ?_
  (iterate 1 ((repeat' ((conv => whnf); first | left | refine OpsA.cons ?_ | refine OpsA.nil ?_ | refine AWq.seq ?_ | refine AWq.region ?_ | refine AWq.cond ?_ | refine AWq.block ?_ | refine AWq.skip ?_ | refine AWq.ret ?_ | refine AWq.exit ?_ | refine AWq.loop ?_ | refine DrawA.consD ?_ | refine DrawA.nil ?_ | refine AWq.draw (by decide +kernel) ?_ | (refine Both.mk ?_ ?_ <;> intro hc <;> (first | exact Bool.noConfusion hc | (exfalso; omega) | skip)) | (intro c hc; (try (simp only [AH.none_iff] at hc; repeat (have hn := hc.1; replace hc := hc.2))); (first | (have hc2 := Eq.trans hc (by with_reducible assumption); clear hc; subst hc2) | (refine i64_k hc ?_ ?_ ?_ ; omega; omega; (clear hc; intro hc; subst hc)) | skip)) | (apply Exists.intro; apply And.intro; (first | (focus (repeat (first | (with_reducible assumption) | (with_reducible exact AH.set_same _ _ _))); done))) | (apply Exists.intro; apply And.intro; first | (with_reducible assumption) | ((try simp only [List.getElem?_drop, Nat.mul_one, Nat.add_zero, Nat.zero_add]); first | (with_reducible assumption) | rfl)) | (apply Exists.intro; apply And.intro; (focus ((conv => whnf); first | (intro c hc; subst hc; exact And.intro rfl rfl)))) | (apply And.intro; (first | rfl | (with_reducible assumption) | omega)))) <;> (try (conv => whnf)); refine Then.mk ?_))
  (repeat' ((conv => whnf); first | left | refine OpsA.cons ?_ | refine OpsA.nil ?_ | refine AWq.seq ?_ | refine AWq.region ?_ | refine AWq.cond ?_ | refine AWq.block ?_ | refine AWq.skip ?_ | refine AWq.ret ?_ | refine AWq.exit ?_ | refine AWq.loop ?_ | refine DrawA.consD ?_ | refine DrawA.nil ?_ | refine AWq.draw (by decide +kernel) ?_ | (refine Both.mk ?_ ?_ <;> intro hc <;> (first | exact Bool.noConfusion hc | (exfalso; omega) | skip)) | (intro c hc; (try (simp only [AH.none_iff] at hc; repeat (have hn := hc.1; replace hc := hc.2))); (first | (have hc2 := Eq.trans hc (by with_reducible assumption); clear hc; subst hc2) | (refine i64_k hc ?_ ?_ ?_ ; omega; omega; (clear hc; intro hc; subst hc)) | skip)) | (apply Exists.intro; apply And.intro; (first | (focus (repeat (first | (with_reducible assumption) | (with_reducible exact AH.set_same _ _ _))); done))) | (apply Exists.intro; apply And.intro; first | (with_reducible assumption) | ((try simp only [List.getElem?_drop, Nat.mul_one, Nat.add_zero, Nat.zero_add]); first | (with_reducible assumption) | rfl)) | (apply Exists.intro; apply And.intro; (focus ((conv => whnf); first | (intro c hc; subst hc; exact And.intro rfl rfl)))) | (apply And.intro; (first | rfl | (with_reducible assumption) | omega)))) <;> (try (conv => whnf))
  refine Then.mk (AWq.in ?_)
  refine AWp_nilrow1 7 1 rfl rfl fun q hq => ?_
  refine AWp.of tt_ok (dok _) rfl ?_
  (repeat' ((conv => whnf); first | refine Then.mk ?_ | left | refine OpsA.cons ?_ | refine OpsA.nil ?_ | refine AWq.seq ?_ | refine AWq.region ?_ | refine AWq.cond ?_ | refine AWq.block ?_ | refine AWq.skip ?_ | refine AWq.ret ?_ | refine AWq.exit ?_ | refine AWq.loop ?_ | refine DrawA.consD ?_ | refine DrawA.nil ?_ | refine AWq.draw (by decide +kernel) ?_ | (refine Both.mk ?_ ?_ <;> intro hc <;> (first | exact Bool.noConfusion hc | (exfalso; omega) | skip)) | (intro c hc; (try (simp only [AH.none_iff] at hc; repeat (have hn := hc.1; replace hc := hc.2))); (first | (have hc2 := Eq.trans hc (by with_reducible assumption); clear hc; subst hc2) | (refine i64_k hc ?_ ?_ ?_ ; omega; omega; (clear hc; intro hc; subst hc)) | skip)) | (apply Exists.intro; apply And.intro; (first | (focus (repeat (first | (with_reducible assumption) | (with_reducible exact AH.set_same _ _ _))); done))) | (apply Exists.intro; apply And.intro; first | (with_reducible assumption) | ((try simp only [List.getElem?_drop, Nat.mul_one, Nat.add_zero, Nat.zero_add]); first | (with_reducible assumption) | rfl)) | (apply Exists.intro; apply And.intro; (focus ((conv => whnf); first | (intro c hc; subst hc; exact And.intro rfl rfl)))) | (apply And.intro; (first | rfl | (with_reducible assumption) | omega)))) <;> (try (conv => whnf))
  refine AWp_loop (σ := Nat) (7 :: 8 :: 9 :: 10 :: 11 :: 12 :: 13 :: 14 :: 15 :: 16 :: 17 :: 18 :: 19 :: 20 :: 21 :: 22 :: 23 :: 24 :: 25 :: 26 :: 27 :: 28 :: 29 :: 30 :: 31 :: 32 :: 33 :: 34 :: 35 :: 36 :: 37 :: 38 :: 39 :: 40 :: 41 :: 42 :: 43 :: 44 :: 45 :: 46 :: 47 :: 48 :: 49 :: 50 :: []) (fun i => [(8, .int .i64 i), (7, .sl q i 1 0 i none)]) (fun i => H.set q (.row (iS .i64 (fnL i (lblN l w))) i)) (fun i => i ≤ N) (fun i => N - i) 0 rfl (Nat.zero_le _) ⟨rfl, rfl, trivial⟩ (HLe.refl _) ?_
  intro i hi
  refine AWp.of tt_ok (dok _) rfl ?_
  dsimp only at hi ⊢
  by_cases hit : i < N
  · have hw1 : 1 ≤ w := by
      rcases Nat.eq_zero_or_pos w with h0 | h0
      · rw [h0, Nat.zero_mul] at hN; omega
      · exact h0
    have pk := fun H => hp (i % 11) (by omega) 40 (by decide) (by decide) H
    have p0 := fun H => hp 0 (by decide) 3 (by decide) (by decide) H
    have p1 := fun H => hp 1 (by decide) 3 (by decide) (by decide) H
    have l0 := pickV_lt (l := l) (i := ((0 : Nat) : Int)) (m := 3) (by decide)
    have l1 := pickV_lt (l := l) (i := ((1 : Nat) : Int)) (m := 3) (by decide)
    have hsn : iS .i64 (fnL (i + 1) (lblN l w)) = iS .i64 (fnL i (lblN l w)) ++ [.int .i64 (lblN l w i)] := by rw [fnL_snoc, ← iS_snoc]
    rw [show lblN l w i = if pickV l ((i % 11 : Nat) : Int) 40 = 1 then -1 - ((i % 2 : Nat) : Int) else if pickV l ((i % 11 : Nat) : Int) 40 = 0 then ((i % 5 : Nat) : Int) else (((i % w * pickV l ((0 : Nat) : Int) 3 + i / w * pickV l ((1 : Nat) : Int) 3) / 7 % 3 : Nat) : Int) from rfl] at hsn
    generalize pickV l ((i % 11 : Nat) : Int) 40 = kk at *
    generalize pickV l ((0 : Nat) : Int) 3 = P0 at *
    generalize pickV l ((1 : Nat) : Int) 3 = P1 at *
    have hA : i % w < w := Nat.mod_lt _ hw1
    have hB : i / w ≤ i := Nat.div_le_self _ _
    have e_mod : ((i : Int).tmod (w : Int)) = ((i % w : Nat) : Int) := by rw [Int.tmod_eq_emod_of_nonneg (by omega)]; omega
    have e_div : IntKind.i64.wrap ((i : Int).tdiv (w : Int)) = ((i / w : Nat) : Int) := by
      rw [Int.tdiv_eq_ediv_of_nonneg (by omega), ← Int.natCast_ediv]
      generalize i / w = z at hB ⊢
      rw [IntKind.wrap_i64]; omega
    have e_max : max (w : Int) 1 = w := by omega
    have e_div2 : IntKind.i64.wrap ((i : Int).tdiv (max (w : Int) 1)) = ((i / w : Nat) : Int) := by rw [e_max]; exact e_div
    have e11 : ((i : Int).tmod 11) = ((i % 11 : Nat) : Int) := by rw [Int.tmod_eq_emod_of_nonneg (by omega)]; omega
    have e5 : ((i : Int).tmod 5) = ((i % 5 : Nat) : Int) := by rw [Int.tmod_eq_emod_of_nonneg (by omega)]; omega
    have e2 : ((i : Int).tmod 2) = ((i % 2 : Nat) : Int) := by rw [Int.tmod_eq_emod_of_nonneg (by omega)]; omega
    generalize i % w = A at *
    generalize i / w = Bq at *
    have hU : A * P0 ≤ 300 * 3 := Nat.mul_le_mul (by omega) (by omega)
    have hV : Bq * P1 ≤ 90000 * 3 := Nat.mul_le_mul (by omega) (by omega)
    have e_m1 : IntKind.i64.wrap ((A : Int) * (P0 : Int)) = ((A * P0 : Nat) : Int) := by rw [← Int.natCast_mul, IntKind.wrap_i64]; omega
    have e_m2 : IntKind.i64.wrap ((Bq : Int) * (P1 : Int)) = ((Bq * P1 : Nat) : Int) := by rw [← Int.natCast_mul, IntKind.wrap_i64]; omega
    generalize A * P0 = U at *
    generalize Bq * P1 = V at *
    have e7 : IntKind.i64.wrap (((U : Int) + (V : Int)).tdiv 7) = (((U + V) / 7 : Nat) : Int) := by
      rw [Int.tdiv_eq_ediv_of_nonneg (by omega), IntKind.wrap_i64]; omega
    have e3 : ((((U + V) / 7 : Nat) : Int).tmod 3) = (((U + V) / 7 % 3 : Nat) : Int) := by rw [Int.tmod_eq_emod_of_nonneg (by omega)]; omega
    generalize hQ : (U + V) / 7 = Q at *
    have hil : (iS .i64 (fnL i (lblN l w))).length = i := by simp
    generalize hR2 : iS .i64 (fnL (i + 1) (lblN l w)) = R2 at *
    generalize iS .i64 (fnL i (lblN l w)) = R1 at *
    have pk : ∀ H, ACall Try.prog 20 [.cs (iS .i64 l) l.length, .int .i64 ((i % 11 : Nat) : Int), .int .i64 40] H (fun y H' => y = .int .i64 kk ∧ H' = H) := pk
    have p0 : ∀ H, ACall Try.prog 20 [.cs (iS .i64 l) l.length, .int .i64 0, .int .i64 3] H (fun y H' => y = .int .i64 P0 ∧ H' = H) := p0
    have p1 : ∀ H, ACall Try.prog 20 [.cs (iS .i64 l) l.length, .int .i64 1, .int .i64 3] H (fun y H' => y = .int .i64 P1 ∧ H' = H) := p1
    rcases (show kk = 0 ∨ kk = 1 ∨ kk ≠ 0 ∧ kk ≠ 1 by omega) with h0 | h0 | h0
    · rw [if_neg (by omega), if_pos h0] at hsn
      (repeat' ((conv => whnf); first | refine Then.mk ?_ | left | refine OpsA.cons ?_ | refine OpsA.nil ?_ | refine AWq.seq ?_ | refine AWq.region ?_ | refine AWq.cond ?_ | refine AWq.block ?_ | refine AWq.skip ?_ | refine AWq.ret ?_ | refine AWq.exit ?_ | refine AWq.loop ?_ | refine DrawA.consD ?_ | refine DrawA.nil ?_ | refine AWq.draw (by decide +kernel) ?_ | (apply Exists.intro; apply And.intro; exact p0 _) | (apply Exists.intro; apply And.intro; exact p1 _) | (refine Both.mk ?_ ?_ <;> intro hc <;> (first | exact Bool.noConfusion hc | (exfalso; omega) | skip)) | (intro c hc; (try (simp only [AH.none_iff] at hc; repeat (have hn := hc.1; replace hc := hc.2))); (first | (have hc2 := Eq.trans hc (by with_reducible assumption); clear hc; subst hc2) | (refine i64_k hc ?_ ?_ ?_ ; omega; omega; (clear hc; intro hc; subst hc)) | skip)) | (apply Exists.intro; apply And.intro; (first | (focus (repeat (first | (with_reducible assumption) | (with_reducible exact AH.set_same _ _ _))); done))) | (apply Exists.intro; apply And.intro; first | (with_reducible assumption) | ((try simp only [List.getElem?_drop, Nat.mul_one, Nat.add_zero, Nat.zero_add]); first | (with_reducible assumption) | rfl)) | (apply Exists.intro; apply And.intro; (focus ((conv => whnf); first | (intro c hc; subst hc; exact And.intro rfl rfl)))) | (apply And.intro; (first | rfl | (with_reducible assumption) | omega)) | (refine ACall.to (pk _) ?_))) <;> (try (conv => whnf))
      refine ⟨i + 1, hit, show N - (i + 1) < N - i by omega, ⟨congrArg (AV.int .i64) (by omega), rfl, trivial⟩, HLe.of_eq ?_⟩
      rw [hR2, hsn, AH.set_set]
    · rw [if_pos h0] at hsn
      (repeat' ((conv => whnf); first | refine Then.mk ?_ | left | refine OpsA.cons ?_ | refine OpsA.nil ?_ | refine AWq.seq ?_ | refine AWq.region ?_ | refine AWq.cond ?_ | refine AWq.block ?_ | refine AWq.skip ?_ | refine AWq.ret ?_ | refine AWq.exit ?_ | refine AWq.loop ?_ | refine DrawA.consD ?_ | refine DrawA.nil ?_ | refine AWq.draw (by decide +kernel) ?_ | (apply Exists.intro; apply And.intro; exact p0 _) | (apply Exists.intro; apply And.intro; exact p1 _) | (refine Both.mk ?_ ?_ <;> intro hc <;> (first | exact Bool.noConfusion hc | (exfalso; omega) | skip)) | (intro c hc; (try (simp only [AH.none_iff] at hc; repeat (have hn := hc.1; replace hc := hc.2))); (first | (have hc2 := Eq.trans hc (by with_reducible assumption); clear hc; subst hc2) | (refine i64_k hc ?_ ?_ ?_ ; omega; omega; (clear hc; intro hc; subst hc)) | skip)) | (apply Exists.intro; apply And.intro; (first | (focus (repeat (first | (with_reducible assumption) | (with_reducible exact AH.set_same _ _ _))); done))) | (apply Exists.intro; apply And.intro; first | (with_reducible assumption) | ((try simp only [List.getElem?_drop, Nat.mul_one, Nat.add_zero, Nat.zero_add]); first | (with_reducible assumption) | rfl)) | (apply Exists.intro; apply And.intro; (focus ((conv => whnf); first | (intro c hc; subst hc; exact And.intro rfl rfl)))) | (apply And.intro; (first | rfl | (with_reducible assumption) | omega)) | (refine ACall.to (pk _) ?_))) <;> (try (conv => whnf))
      refine ⟨i + 1, hit, show N - (i + 1) < N - i by omega, ⟨congrArg (AV.int .i64) (by omega), rfl, trivial⟩, HLe.of_eq ?_⟩
      rw [hR2, hsn, AH.set_set]
    · rw [if_neg h0.2, if_neg h0.1] at hsn
      (repeat' ((conv => whnf); first | refine Then.mk ?_ | left | refine OpsA.cons ?_ | refine OpsA.nil ?_ | refine AWq.seq ?_ | refine AWq.region ?_ | refine AWq.cond ?_ | refine AWq.block ?_ | refine AWq.skip ?_ | refine AWq.ret ?_ | refine AWq.exit ?_ | refine AWq.loop ?_ | refine DrawA.consD ?_ | refine DrawA.nil ?_ | refine AWq.draw (by decide +kernel) ?_ | (apply Exists.intro; apply And.intro; exact p0 _) | (apply Exists.intro; apply And.intro; exact p1 _) | (refine Both.mk ?_ ?_ <;> intro hc <;> (first | exact Bool.noConfusion hc | (exfalso; omega) | skip)) | (intro c hc; (try (simp only [AH.none_iff] at hc; repeat (have hn := hc.1; replace hc := hc.2))); (first | (have hc2 := Eq.trans hc (by with_reducible assumption); clear hc; subst hc2) | (refine i64_k hc ?_ ?_ ?_ ; omega; omega; (clear hc; intro hc; subst hc)) | skip)) | (apply Exists.intro; apply And.intro; (first | (focus (repeat (first | (with_reducible assumption) | (with_reducible exact AH.set_same _ _ _))); done))) | (apply Exists.intro; apply And.intro; first | (with_reducible assumption) | ((try simp only [List.getElem?_drop, Nat.mul_one, Nat.add_zero, Nat.zero_add]); first | (with_reducible assumption) | rfl)) | (apply Exists.intro; apply And.intro; (focus ((conv => whnf); first | (intro c hc; subst hc; exact And.intro rfl rfl)))) | (apply And.intro; (first | rfl | (with_reducible assumption) | omega)) | (refine ACall.to (pk _) ?_))) <;> (try (conv => whnf))
      refine ⟨i + 1, hit, show N - (i + 1) < N - i by omega, ⟨congrArg (AV.int .i64) (by omega), rfl, trivial⟩, HLe.of_eq ?_⟩
      rw [hR2, hsn, AH.set_set]
  · have hie : i = N := by omega
    subst hie
    (repeat' ((conv => whnf); first | refine Then.mk ?_ | left | refine OpsA.cons ?_ | refine OpsA.nil ?_ | refine AWq.seq ?_ | refine AWq.region ?_ | refine AWq.cond ?_ | refine AWq.block ?_ | refine AWq.skip ?_ | refine AWq.ret ?_ | refine AWq.exit ?_ | refine AWq.loop ?_ | refine DrawA.consD ?_ | refine DrawA.nil ?_ | refine AWq.draw (by decide +kernel) ?_ | (refine Both.mk ?_ ?_ <;> intro hc <;> (first | exact Bool.noConfusion hc | (exfalso; omega) | skip)) | (intro c hc; (try (simp only [AH.none_iff] at hc; repeat (have hn := hc.1; replace hc := hc.2))); (first | (have hc2 := Eq.trans hc (by with_reducible assumption); clear hc; subst hc2) | (refine i64_k hc ?_ ?_ ?_ ; omega; omega; (clear hc; intro hc; subst hc)) | skip)) | (apply Exists.intro; apply And.intro; (first | (focus (repeat (first | (with_reducible assumption) | (with_reducible exact AH.set_same _ _ _))); done))) | (apply Exists.intro; apply And.intro; first | (with_reducible assumption) | ((try simp only [List.getElem?_drop, Nat.mul_one, Nat.add_zero, Nat.zero_add]); first | (with_reducible assumption) | rfl)) | (apply Exists.intro; apply And.intro; (focus ((conv => whnf); first | (intro c hc; subst hc; exact And.intro rfl rfl)))) | (apply And.intro; (first | rfl | (with_reducible assumption) | omega)))) <;> (try (conv => whnf))
end Go.Proofs.Ytghielfbdpkhmaa
/- The law BlendPixels: the contract of the law's function. -/
namespace Go.Proofs.Ytghielfbdpkhmaa
open Go.Fw Go
set_option linter.unusedVariables false
set_option linter.unusedSimpArgs false

set_option maxRecDepth 8000 in
theorem pixel_nil (w h : Int) (L : List Int) (x y r : Int) (H : AH) :
    ACall Try.prog 28 [.int .i64 w, .int .i64 h, .cs (iS .i64 L) L.length, .int .i64 x, .int .i64 y, .int .i64 r, .nilf] H (fun z H' => z = .tup [.int .i64 0, .int .i64 1] ∧ H' = H) := by
  refine ACall_of tt_ok (dok _) Try.func28 rfl (by decide) rfl ?_
  (repeat' ((conv => whnf); first | refine Then.mk ?_ | refine OpsA.cons ?_ | refine OpsA.nil ?_ | refine AWq.seq ?_ | refine AWq.region ?_ | refine AWq.cond ?_ | refine AWq.ret ?_ | (refine Both.mk ?_ ?_ <;> intro hc <;> (first | exact Bool.noConfusion hc | exact absurd hc (by decide) | skip)) | (apply And.intro; (first | rfl)))) <;> (try (conv => whnf))
set_option maxHeartbeats 8000000 in
set_option maxRecDepth 8000 in
theorem BlendPixels_c (l0 : List Int) (hl0 : l0.length ≤ maxLen) (hr0 : ∀ n ∈ l0, -9223372036854775808 ≤ n ∧ n ≤ 9223372036854775807) (l1 : List Int) (hl1 : l1.length ≤ maxLen) (hr1 : ∀ n ∈ l1, -9223372036854775808 ≤ n ∧ n ≤ 9223372036854775807) (x2 : Int) (hx2 : -9223372036854775808 ≤ x2 ∧ x2 ≤ 9223372036854775807) (x3 : Int) (hx3 : -9223372036854775808 ≤ x3 ∧ x3 ≤ 9223372036854775807) (x4 : Int) (hx4 : -9223372036854775808 ≤ x4 ∧ x4 ≤ 9223372036854775807) (x5 : Int) (hx5 : -9223372036854775808 ≤ x5 ∧ x5 ≤ 9223372036854775807) (x6 : Int) (hx6 : -9223372036854775808 ≤ x6 ∧ x6 ≤ 9223372036854775807) :
    ACall Try.prog 7 [.cs (iS .i64 l0) l0.length, .cs (iS .i64 l1) l1.length, .int .i64 x2, .int .i64 x3, .int .i64 x4, .int .i64 x5, .int .i64 x6] (fun _ => none) (fun y _ => y = .bool true) := by
  have ha2 : ∀ H, ACall Try.prog 13 [.int .i64 x2, .int .i64 12] H (fun y H' => y = .int .i64 (aro x2 12) ∧ H' = H) := fun H => around_f x2 hx2.1 hx2.2 12 (by decide) (by decide) H
  have ha3 : ∀ H, ACall Try.prog 13 [.int .i64 x3, .int .i64 8] H (fun y H' => y = .int .i64 (aro x3 8) ∧ H' = H) := fun H => around_f x3 hx3.1 hx3.2 8 (by decide) (by decide) H
  have ha6 : ∀ H, ACall Try.prog 13 [.int .i64 x6, .int .i64 6] H (fun y H' => y = .int .i64 (aro x6 6) ∧ H' = H) := fun H => around_f x6 hx6.1 hx6.2 6 (by decide) (by decide) H
  have hA := aro_lt (n := x2) (m := 12) (by decide)
  have hB := aro_lt (n := x3) (m := 8) (by decide)
  have hR := aro_lt (n := x6) (m := 6) (by decide)
  generalize aro x2 12 = A at *
  generalize aro x3 8 = B at *
  generalize aro x6 6 = R at *
  have ha4 : ∀ H, ACall Try.prog 13 [.int .i64 x4, .int .i64 (1 + (A : Int) + 2)] H (fun y H' => y = .int .i64 (aro x4 (A + 3)) ∧ H' = H) := fun H => by
    have := around_f x4 hx4.1 hx4.2 (A + 3) (by omega) (by omega) H
    rwa [show ((A + 3 : Nat) : Int) = 1 + (A : Int) + 2 by omega] at this
  have ha5 : ∀ H, ACall Try.prog 13 [.int .i64 x5, .int .i64 (1 + (B : Int) + 1)] H (fun y H' => y = .int .i64 (aro x5 (B + 2)) ∧ H' = H) := fun H => by
    have := around_f x5 hx5.1 hx5.2 (B + 2) (by omega) (by omega) H
    rwa [show ((B + 2 : Nat) : Int) = 1 + (B : Int) + 1 by omega] at this
  have hI := aro_lt (n := x4) (m := A + 3) (by omega)
  have hJ := aro_lt (n := x5) (m := B + 2) (by omega)
  generalize aro x4 (A + 3) = I at *
  generalize aro x5 (B + 2) = J at *
  have hlb : ∀ H, ACall Try.prog 14 [.cs (iS .i64 l0) l0.length, .int .i64 (1 + (A : Int)), .int .i64 (1 + (B : Int))] H (fun y H' => y = .cs (iS .i64 (lblV l0 (1 + A) (1 + B))) (lblV l0 (1 + A) (1 + B)).length ∧ H' = H) := fun H => by
    have := labels_c l0 hr0 hl0 (1 + A) (1 + B) (by omega) (by omega) H
    rw [lblV_len]
    rwa [show ((1 + A : Nat) : Int) = 1 + (A : Int) by omega, show ((1 + B : Nat) : Int) = 1 + (B : Int) by omega] at this
  have hab : (1 + A) * (1 + B) ≤ 12 * 8 := Nat.mul_le_mul (by omega) (by omega)
  have okL := lblV_ok l0 (w := 1 + A) (h := 1 + B) (by omega)
  have lenL := lblV_len l0 (1 + A) (1 + B)
  generalize lblV l0 (1 + A) (1 + B) = L at *
  obtain ⟨v, hvd⟩ : ∃ v, v = fnL 5 (vlV l1) := ⟨_, rfl⟩
  have hvl : v.length = 5 := by rw [hvd]; simp
  have hvs : ∀ H, ACall Try.prog 27 [.cs (iS .i64 l1) l1.length] H (fun y H' => y = .cs (iS .i64 v) v.length ∧ H' = H) := fun H => by
    rw [hvl, hvd]; exact values_c l1 hr1 hl1 H
  clear hvd
  have hpx := fun c H hc => pixel_c (1 + (A : Int)) (1 + (B : Int)) L ((I : Int) - 1) J R v okL (by unfold I64; omega) (by unfold I64; omega) (by unfold I64; omega) (by omega) c H hc
  have hpx2 := fun c H hc => pixel_c (1 + (A : Int) + 1) (1 + (B : Int)) L ((I : Int) - 1) J R v okL (by unfold I64; omega) (by unfold I64; omega) (by unfold I64; omega) (by omega) c H hc
  have hrp := fun H => rpixel_c (1 + (A : Int)) (1 + (B : Int)) L ((I : Int) - 1) J R v okL (by unfold I64; omega) (by unfold I64; omega) (by unfold I64; omega) (by omega) H
  have hpn := fun H => pixel_nil (1 + (A : Int)) (1 + (B : Int)) L ((I : Int) - 1) J R H
  have hbad : pixV (1 + (A : Int) + 1) (1 + (B : Int)) L ((I : Int) - 1) J R v = (0, 1) := by
    have hb : wBad (1 + (A : Int) + 1) (1 + (B : Int)) L := .inr (.inr (by
      rw [lenL, Int.natCast_mul, Int.add_mul (1 + (A : Int)) 1, show ((1 + A : Nat) : Int) = 1 + (A : Int) by omega, show ((1 + B : Nat) : Int) = 1 + (B : Int) by omega]
      omega))
    unfold pixV wtV
    rw [if_pos hb]; rfl
  rw [hbad] at hpx2
  have hvc := fun H => value_c v H
  generalize (pixV (1 + (A : Int)) (1 + (B : Int)) L ((I : Int) - 1) J R v).1 = P at *
  generalize (pixV (1 + (A : Int)) (1 + (B : Int)) L ((I : Int) - 1) J R v).2 = E at *
  generalize (fun _ => none : AH) = H0
  refine ACall_of tt_ok (dok _) Try.func7 rfl (by decide) rfl ?_
  (repeat' ((conv => whnf); first | refine Then.mk ?_ | refine OpsA.cons ?_ | refine OpsA.nil ?_ | refine AWq.seq ?_ | refine AWq.region ?_ | refine AWq.ret ?_ | (refine Both.mk ?_ ?_ <;> intro hc <;> (first | exact absurd (by with_reducible rfl) hc | skip)) | (intro c hc; (try (simp only [AH.none_iff] at hc; repeat (have hn := hc.1; replace hc := hc.2))); (first | (refine i64_k hc ?_ ?_ ?_ ; omega; omega; (clear hc; intro hc; subst hc)) | skip)) | (apply And.intro; (first | rfl)) | (refine ACall.to (ha2 _) ?_) | (refine ACall.to (ha3 _) ?_) | (refine ACall.to (ha6 _) ?_) | (refine ACall.to (ha4 _) ?_) | (refine ACall.to (ha5 _) ?_) | (refine ACall.to (hlb _) ?_) | (refine ACall.to (hvs _) ?_))) <;> (try (conv => whnf))
  refine (hvc _).mono ?_
  rintro y H' ⟨c, hc, rfl, rfl⟩
  have hcv : ∀ (Z : AH) (c : Nat), valH Z c v c = some (.row [.cs (iS .i64 v) v.length] 0) := fun Z c => AH.set_same _ _ _
  (repeat' ((conv => whnf); first | refine Then.mk ?_ | refine OpsA.cons ?_ | refine OpsA.nil ?_ | refine AWq.seq ?_ | refine AWq.region ?_ | refine AWq.ret ?_ | (refine Both.mk ?_ ?_ <;> intro hc <;> (first | exact absurd (by with_reducible rfl) hc | skip)) | (intro c hc; (try (simp only [AH.none_iff] at hc; repeat (have hn := hc.1; replace hc := hc.2))); (first | (refine i64_k hc ?_ ?_ ?_ ; omega; omega; (clear hc; intro hc; subst hc)) | skip)) | (apply And.intro; (first | rfl)) | (refine ACall.to (hpx _ _ (hcv _ _)) ?_) | (refine ACall.to (hrp _) ?_) | (refine ACall.to (hpn _) ?_))) <;> (try (conv => whnf))
  refine (hvc _).mono ?_
  rintro y H' ⟨c2, hc2, rfl, rfl⟩
  (repeat' ((conv => whnf); first | refine Then.mk ?_ | refine OpsA.cons ?_ | refine OpsA.nil ?_ | refine AWq.seq ?_ | refine AWq.region ?_ | refine AWq.ret ?_ | (refine Both.mk ?_ ?_ <;> intro hc <;> (first | exact absurd (by with_reducible rfl) hc | skip)) | (intro c hc; (try (simp only [AH.none_iff] at hc; repeat (have hn := hc.1; replace hc := hc.2))); (first | (refine i64_k hc ?_ ?_ ?_ ; omega; omega; (clear hc; intro hc; subst hc)) | skip)) | (apply And.intro; (first | rfl)) | (refine ACall.to (hpx2 _ _ (hcv _ _)) ?_) | (refine ACall.to (lives23_c _) ?_))) <;> (try (conv => whnf))
  all_goals (first | rfl | done)
end Go.Proofs.Ytghielfbdpkhmaa
