/- For the law BalanceSolves, part 5 of 6: the frame of the walk, the walks of the functions, the plain law, the row. No conditions. -/
import Derived.Test.YtebflkgpbbjhnaaBalanceSolvesM4
/- The walks of balance: real, plain. -/
namespace Go.Proofs.Ytebflkgpbbjhnaa
open Go.Fw Go
set_option linter.unusedVariables false
set_option linter.unusedSimpArgs false

theorem edL_get {l : List Ed} {i : Nat} {x : Ed} (h : l[i]? = some x) (j : Nat) (hj : j < 4) : (edL l)[i * 4 + j]? = (edA x)[j]? := fL_get edA_len h hj
theorem fxL_get {l : List Fx} {i : Nat} {x : Fx} (h : l[i]? = some x) (j : Nat) (hj : j < 3) : (fxL l)[i * 3 + j]? = (fxA x)[j]? := fL_get fxA_len h hj
set_option maxHeartbeats 4000000 in
set_option maxRecDepth 8000 in
theorem real_s (es : List Ed) (fs : List Fx) (he : es.length ≤ 1000000) (hf : fs.length ≤ 1000000) (H : AH) :
    ACall Try.prog 13 [.cs (edL es) es.length, .cs (fxL fs) fs.length] H (fun y H' => ∃ r1 r2 v1 v2, H r1 = none ∧ H r2 = none ∧ r1 ≠ r2 ∧ y = .tup [.sl r1 v1 4 0 es.length none, .sl r2 v2 3 0 fs.length none] ∧ H' = (H.set r1 (.row (edL es) v1)).set r2 (.row (fxL fs) v2)) := by
  have hel := edL_len es
  have hfl := fxL_len fs
  refine ACall_of tt_ok (dok _) Try.func13 rfl (by decide) rfl ?_
  (iterate 3 ((repeat' ((conv => whnf); first | left | refine OpsA.cons ?_ | refine OpsA.nil ?_ | refine AWq.seq ?_ | refine AWq.region ?_ | refine AWq.cond ?_ | refine AWq.block ?_ | refine AWq.skip ?_ | refine AWq.ret ?_ | refine AWq.exit ?_ | refine AWq.loop ?_ | refine DrawA.consD ?_ | refine DrawA.nil ?_ | refine AWq.draw (by decide +kernel) ?_ | (refine Both.mk ?_ ?_ <;> intro hc <;> (first | exact Bool.noConfusion hc | (exfalso; omega) | skip)) | (intro c hc; (try (simp only [AH.none_iff] at hc; repeat (have hn := hc.1; replace hc := hc.2))); (first | (refine i64_k hc ?_ ?_ ?_ ; omega; omega; (clear hc; intro hc; subst hc)) | skip)) | (apply Exists.intro; apply And.intro; (first | (focus (repeat (first | (with_reducible assumption) | (with_reducible exact AH.set_same _ _ _) | ((first | refine AH.get_ne ?_ ?_); (first | (with_reducible assumption) | exact Ne.symm (by with_reducible assumption))))); done))) | (apply Exists.intro; apply And.intro; first | (with_reducible assumption) | ((try simp only [List.getElem?_drop, Nat.mul_one, Nat.add_zero, Nat.zero_add]); first | (with_reducible assumption) | rfl)) | (apply And.intro; (first | rfl | (with_reducible assumption) | exact Nat.le_of_ble_eq_true rfl | omega | (simp <;> omega))))) <;> (try (conv => whnf)); refine Then.mk ?_))
  refine AWq.in ?_
  refine AWp_nilrow1 6 4 rfl rfl fun r1 hr1 => ?_
  refine AWp_nilrow1 7 3 rfl rfl fun r2 hr2 => ?_
  obtain ⟨hne, hr2⟩ := AH.none_set hr2
  refine AWp.of tt_ok (dok _) rfl ?_
  (repeat' ((conv => whnf); first | refine Then.mk ?_ | left | refine OpsA.cons ?_ | refine OpsA.nil ?_ | refine AWq.seq ?_ | refine AWq.region ?_ | refine AWq.cond ?_ | refine AWq.block ?_ | refine AWq.skip ?_ | refine AWq.ret ?_ | refine AWq.exit ?_ | refine AWq.loop ?_ | refine DrawA.consD ?_ | refine DrawA.nil ?_ | refine AWq.draw (by decide +kernel) ?_ | (refine Both.mk ?_ ?_ <;> intro hc <;> (first | exact Bool.noConfusion hc | (exfalso; omega) | skip)) | (intro c hc; (try (simp only [AH.none_iff] at hc; repeat (have hn := hc.1; replace hc := hc.2))); (first | (refine i64_k hc ?_ ?_ ?_ ; omega; omega; (clear hc; intro hc; subst hc)) | skip)) | (apply Exists.intro; apply And.intro; (first | (focus (repeat (first | (with_reducible assumption) | (with_reducible exact AH.set_same _ _ _) | ((first | refine AH.get_ne ?_ ?_); (first | (with_reducible assumption) | exact Ne.symm (by with_reducible assumption))))); done))) | (apply Exists.intro; apply And.intro; first | (with_reducible assumption) | ((try simp only [List.getElem?_drop, Nat.mul_one, Nat.add_zero, Nat.zero_add]); first | (with_reducible assumption) | rfl)) | (apply And.intro; (first | rfl | (with_reducible assumption) | exact Nat.le_of_ble_eq_true rfl | omega | (simp <;> omega))))) <;> (try (conv => whnf))
  refine AWp_loop (σ := Nat) (6 :: 8 :: 10 :: 11 :: 12 :: 13 :: 14 :: 15 :: 16 :: 17 :: 18 :: 19 :: 20 :: 21 :: 22 :: 23 :: 24 :: 25 :: 26 :: 27 :: 28 :: 29 :: 30 :: 31 :: 32 :: 33 :: 34 :: 35 :: 36 :: 37 :: 38 :: 39 :: []) (fun i => [(8, .int .i64 i), (6, .sl r1 i 4 0 i none)]) (fun i => (H.set r1 (.row (edL (es.take i)) i)).set r2 (.row [] 0)) (fun i => i ≤ es.length) (fun i => es.length - i) 0 rfl (Nat.zero_le _) ⟨rfl, rfl, trivial⟩ (HLe.refl _) ?_
  intro i hi
  refine AWp.of tt_ok (dok _) rfl ?_
  dsimp only at hi ⊢
  have hfi : (edL (es.take i)).length = i * 4 := by rw [edL_len, List.length_take, Nat.min_eq_left hi]
  have hg1 : ((H.set r1 (.row (edL (es.take i)) i)).set r2 (.row [] 0)) r1 = some (.row (edL (es.take i)) i) := by (focus (repeat (first | (with_reducible assumption) | (with_reducible exact AH.set_same _ _ _) | ((first | refine AH.get_ne ?_ ?_); (first | (with_reducible assumption) | exact Ne.symm (by with_reducible assumption))))); done)
  by_cases hilt : i < es.length
  · obtain ⟨x, hx⟩ : ∃ x, es[i]? = some x := ⟨_, List.getElem?_eq_getElem hilt⟩
    have g0 : (edL es)[(i : Int).toNat * 4]? = some (.int .i64 x.a) := edL_get hx 0 (by decide)
    have g1 : (edL es)[(i : Int).toNat * 4 + 1]? = some (.int .i64 x.b) := edL_get hx 1 (by decide)
    have g2 : (edL es)[(i : Int).toNat * 4 + 2]? = some (.int .i64 x.d) := edL_get hx 2 (by decide)
    have g3 : (edL es)[(i : Int).toNat * 4 + 3]? = some (.int .i64 x.w) := edL_get hx 3 (by decide)
    have hst : edL (es.take (i + 1)) = edL (es.take i) ++ [.int .i64 x.a, .int .i64 x.b, .int .i64 x.d, .int .i64 x.w] := by rw [take_snoc hx]; exact (fL_snoc edA _ _).symm
    generalize edL (es.take i) = R1 at *
    generalize hR2 : edL (es.take (i + 1)) = R2 at *
    (repeat' ((conv => whnf); first | refine Then.mk ?_ | left | refine OpsA.cons ?_ | refine OpsA.nil ?_ | refine AWq.seq ?_ | refine AWq.region ?_ | refine AWq.cond ?_ | refine AWq.block ?_ | refine AWq.skip ?_ | refine AWq.ret ?_ | refine AWq.exit ?_ | refine AWq.loop ?_ | refine DrawA.consD ?_ | refine DrawA.nil ?_ | refine AWq.draw (by decide +kernel) ?_ | (refine Both.mk ?_ ?_ <;> intro hc <;> (first | exact Bool.noConfusion hc | (exfalso; omega) | skip)) | (intro c hc; (try (simp only [AH.none_iff] at hc; repeat (have hn := hc.1; replace hc := hc.2))); (first | (refine i64_k hc ?_ ?_ ?_ ; omega; omega; (clear hc; intro hc; subst hc)) | skip)) | (apply Exists.intro; apply And.intro; (first | (focus (repeat (first | (with_reducible assumption) | (with_reducible exact AH.set_same _ _ _) | ((first | refine AH.get_ne ?_ ?_); (first | (with_reducible assumption) | exact Ne.symm (by with_reducible assumption))))); done))) | (apply Exists.intro; apply And.intro; first | (with_reducible assumption) | ((try simp only [List.getElem?_drop, Nat.mul_one, Nat.add_zero, Nat.zero_add]); first | (with_reducible assumption) | rfl)) | (apply And.intro; (first | rfl | (with_reducible assumption) | exact Nat.le_of_ble_eq_true rfl | omega | (simp <;> omega))))) <;> (try (conv => whnf))
    refine ⟨i + 1, hilt, by omega, ⟨congrArg (AV.int .i64) (by omega), rfl, trivial⟩, HLe.of_eq ?_⟩
    rw [hR2, hst]
    exact (AH.set_back _ (Ne.symm hne) _ _ _).symm
  · have hie : i = es.length := by omega
    have hte : es.take i = es := List.take_of_length_le (by omega)
    rw [hte]
    clear hfi hg1 hte
    (repeat' ((conv => whnf); first | refine Then.mk ?_ | left | refine OpsA.cons ?_ | refine OpsA.nil ?_ | refine AWq.seq ?_ | refine AWq.region ?_ | refine AWq.cond ?_ | refine AWq.block ?_ | refine AWq.skip ?_ | refine AWq.ret ?_ | refine AWq.exit ?_ | refine AWq.loop ?_ | refine DrawA.consD ?_ | refine DrawA.nil ?_ | refine AWq.draw (by decide +kernel) ?_ | (refine Both.mk ?_ ?_ <;> intro hc <;> (first | exact Bool.noConfusion hc | (exfalso; omega) | skip)) | (intro c hc; (try (simp only [AH.none_iff] at hc; repeat (have hn := hc.1; replace hc := hc.2))); (first | (refine i64_k hc ?_ ?_ ?_ ; omega; omega; (clear hc; intro hc; subst hc)) | skip)) | (apply Exists.intro; apply And.intro; (first | (focus (repeat (first | (with_reducible assumption) | (with_reducible exact AH.set_same _ _ _) | ((first | refine AH.get_ne ?_ ?_); (first | (with_reducible assumption) | exact Ne.symm (by with_reducible assumption))))); done))) | (apply Exists.intro; apply And.intro; first | (with_reducible assumption) | ((try simp only [List.getElem?_drop, Nat.mul_one, Nat.add_zero, Nat.zero_add]); first | (with_reducible assumption) | rfl)) | (apply And.intro; (first | rfl | (with_reducible assumption) | exact Nat.le_of_ble_eq_true rfl | omega | (simp <;> omega))))) <;> (try (conv => whnf))
    refine AWp_loop (σ := Nat) (7 :: 9 :: 40 :: 41 :: 42 :: 43 :: 44 :: 45 :: 46 :: 47 :: 48 :: 49 :: 50 :: 51 :: 52 :: 53 :: 54 :: 55 :: 56 :: 57 :: 58 :: 59 :: 60 :: 61 :: 62 :: 63 :: 64 :: []) (fun j => [(9, .int .i64 j), (7, .sl r2 j 3 0 j none)]) (fun j => (H.set r1 (.row (edL es) i)).set r2 (.row (fxL (fs.take j)) j)) (fun j => j ≤ fs.length) (fun j => fs.length - j) 0 rfl (Nat.zero_le _) ⟨rfl, rfl, trivial⟩ (HLe.refl _) ?_
    intro j hj
    refine AWp.of tt_ok (dok _) rfl ?_
    dsimp only at hj ⊢
    have hfj : (fxL (fs.take j)).length = j * 3 := by rw [fxL_len, List.length_take, Nat.min_eq_left hj]
    have hg2 : ((H.set r1 (.row (edL es) i)).set r2 (.row (fxL (fs.take j)) j)) r2 = some (.row (fxL (fs.take j)) j) := AH.set_same _ _ _
    by_cases hjlt : j < fs.length
    · obtain ⟨x, hx⟩ : ∃ x, fs[j]? = some x := ⟨_, List.getElem?_eq_getElem hjlt⟩
      have g0 : (fxL fs)[(j : Int).toNat * 3]? = some (.int .i64 x.a) := fxL_get hx 0 (by decide)
      have g1 : (fxL fs)[(j : Int).toNat * 3 + 1]? = some (.int .i64 x.v) := fxL_get hx 1 (by decide)
      have g2 : (fxL fs)[(j : Int).toNat * 3 + 2]? = some (.int .i64 x.w) := fxL_get hx 2 (by decide)
      have hst : fxL (fs.take (j + 1)) = fxL (fs.take j) ++ [.int .i64 x.a, .int .i64 x.v, .int .i64 x.w] := by rw [take_snoc hx]; exact (fL_snoc fxA _ _).symm
      generalize fxL (fs.take j) = R1 at *
      generalize hR2 : fxL (fs.take (j + 1)) = R2 at *
      (repeat' ((conv => whnf); first | refine Then.mk ?_ | left | refine OpsA.cons ?_ | refine OpsA.nil ?_ | refine AWq.seq ?_ | refine AWq.region ?_ | refine AWq.cond ?_ | refine AWq.block ?_ | refine AWq.skip ?_ | refine AWq.ret ?_ | refine AWq.exit ?_ | refine AWq.loop ?_ | refine DrawA.consD ?_ | refine DrawA.nil ?_ | refine AWq.draw (by decide +kernel) ?_ | (refine Both.mk ?_ ?_ <;> intro hc <;> (first | exact Bool.noConfusion hc | (exfalso; omega) | skip)) | (intro c hc; (try (simp only [AH.none_iff] at hc; repeat (have hn := hc.1; replace hc := hc.2))); (first | (refine i64_k hc ?_ ?_ ?_ ; omega; omega; (clear hc; intro hc; subst hc)) | skip)) | (apply Exists.intro; apply And.intro; (first | (focus (repeat (first | (with_reducible assumption) | (with_reducible exact AH.set_same _ _ _) | ((first | refine AH.get_ne ?_ ?_); (first | (with_reducible assumption) | exact Ne.symm (by with_reducible assumption))))); done))) | (apply Exists.intro; apply And.intro; first | (with_reducible assumption) | ((try simp only [List.getElem?_drop, Nat.mul_one, Nat.add_zero, Nat.zero_add]); first | (with_reducible assumption) | rfl)) | (apply And.intro; (first | rfl | (with_reducible assumption) | exact Nat.le_of_ble_eq_true rfl | omega | (simp <;> omega))))) <;> (try (conv => whnf))
      refine ⟨j + 1, hjlt, by omega, ⟨congrArg (AV.int .i64) (by omega), rfl, trivial⟩, HLe.of_eq ?_⟩
      rw [hR2, hst]
      exact (AH.set_set _ _ _ _).symm
    · have hje : j = fs.length := by omega
      (repeat' ((conv => whnf); first | refine Then.mk ?_ | left | refine OpsA.cons ?_ | refine OpsA.nil ?_ | refine AWq.seq ?_ | refine AWq.region ?_ | refine AWq.cond ?_ | refine AWq.block ?_ | refine AWq.skip ?_ | refine AWq.ret ?_ | refine AWq.exit ?_ | refine AWq.loop ?_ | refine DrawA.consD ?_ | refine DrawA.nil ?_ | refine AWq.draw (by decide +kernel) ?_ | (refine Both.mk ?_ ?_ <;> intro hc <;> (first | exact Bool.noConfusion hc | (exfalso; omega) | skip)) | (intro c hc; (try (simp only [AH.none_iff] at hc; repeat (have hn := hc.1; replace hc := hc.2))); (first | (refine i64_k hc ?_ ?_ ?_ ; omega; omega; (clear hc; intro hc; subst hc)) | skip)) | (apply Exists.intro; apply And.intro; (first | (focus (repeat (first | (with_reducible assumption) | (with_reducible exact AH.set_same _ _ _) | ((first | refine AH.get_ne ?_ ?_); (first | (with_reducible assumption) | exact Ne.symm (by with_reducible assumption))))); done))) | (apply Exists.intro; apply And.intro; first | (with_reducible assumption) | ((try simp only [List.getElem?_drop, Nat.mul_one, Nat.add_zero, Nat.zero_add]); first | (with_reducible assumption) | rfl)) | (apply And.intro; (first | rfl | (with_reducible assumption) | exact Nat.le_of_ble_eq_true rfl | omega | (simp <;> omega))))) <;> (try (conv => whnf))
      refine ⟨r1, r2, i, j, hr1, hr2, Ne.symm hne, ?_, ?_⟩
      · rw [← hje, ← hie]
      · rw [show fs.take j = fs from List.take_of_length_le (by omega)]
theorem real_c (es : List Ed) (fs : List Fx) (he : es.length ≤ 1000000) (hf : fs.length ≤ 1000000) (H : AH) :
    ACall Try.prog 13 [.cs (edL es) es.length, .cs (fxL fs) fs.length] H (fun y H' => y = .tup [.cs (edL es) es.length, .cs (fxL fs) fs.length] ∧ H' = H) :=
  ACall.cold2 (e1 := 4) (e2 := 3) (by simp) (by simp) (real_s es fs he hf H)
set_option maxRecDepth 8000 in
theorem plain_c (l1 l2 l3 : List AV) (n1 n2 n3 : Nat) (c : Int) (H : AH) :
    ACall Try.prog 16 [.agg [.cs l1 n1, .cs l2 n2, .cs l3 n3, .int .i64 c]] H (fun y H' => y = .agg [.cs l1 n1, .cs l2 n2, .cs l3 n3, .int .i64 c] ∧ H' = H) := by
  refine ACall.back ?_
  refine ACall_of tt_ok (dok _) Try.func16 rfl (by decide) rfl ?_
  (repeat' ((conv => whnf); first | refine Then.mk ?_ | left | refine OpsA.cons ?_ | refine OpsA.nil ?_ | refine AWq.seq ?_ | refine AWq.region ?_ | refine AWq.ret ?_ | (intro c hc; (try (simp only [AH.none_iff] at hc; repeat (have hn := hc.1; replace hc := hc.2))); (first | skip)) | (apply Exists.intro; apply And.intro; (first | (focus (repeat (first | (with_reducible assumption) | (with_reducible exact AH.set_same _ _ _) | ((first | refine AH.get_ne ?_ ?_); (first | (with_reducible assumption) | exact Ne.symm (by with_reducible assumption))))); done))) | (apply Exists.intro; apply And.intro; first | (with_reducible assumption) | ((try simp only [List.getElem?_drop, Nat.mul_one, Nat.add_zero, Nat.zero_add]); first | (with_reducible assumption) | rfl)) | (apply And.intro; (first | rfl | (with_reducible assumption) | exact Nat.le_of_ble_eq_true rfl)))) <;> (try (conv => whnf))
  (first | ((repeat' (first | (with_reducible exact HLe.refl _) | (with_reducible assumption) | refine HLe.set_of _ _ ?_ ?_)); done))
end Go.Proofs.Ytebflkgpbbjhnaa
/- The law BalanceScales: the contract of the law's function. -/
namespace Go.Proofs.Ytebflkgpbbjhnaa
open Go.Fw Go
set_option linter.unusedVariables false
set_option linter.unusedSimpArgs false

/-- Solve's cost, the least one. -/
structure Least (es : List Ed) (fs : List Fx) (c : Int) : Prop where
  hit : ∃ q, costP es fs q = c
  low : ∀ q, c ≤ costP es fs q
theorem Least.one {es : List Ed} {fs : List Fx} {c d : Int} (h : Least es fs c) (k : Least es fs d) : c = d := by
  obtain ⟨p, hp⟩ := h.hit
  obtain ⟨q, hq⟩ := k.hit
  have := h.low q
  have := k.low p
  omega
theorem Sv.least {n : Nat} {es : List Ed} {fs : List Fx} {A : List Ac} {d o : Nat → Int} (h : Sv n es fs A d o) (hv : validV n es fs = 0) : Least es fs (Proofs.Ytebflkgpbbjhnaa.costR es fs (fnL n (offS n d o))).1 := by
  obtain ⟨_, _, hE, hF⟩ := validV_ok hv
  rw [h.costR hE hF hv]
  exact ⟨⟨_, rfl⟩, h.min hE hF⟩
theorem pr_valid {n most : Nat} (hn : n ≤ 10) (hm : most ≤ 65535) (l : List Int) : (∀ x ∈ prES n most l, (vE n x ∧ (-(most : Int) ≤ x.d ∧ x.d ≤ most) ∧ x.w ≤ 9)) ∧ (∀ x ∈ prFS n most l, (vF n x ∧ (-(most : Int) ≤ x.v ∧ x.v ≤ most) ∧ x.w ≤ 9)) ∧ (prES n most l).length ≤ 12 ∧ (prFS n most l).length ≤ 5 := by
  have p0 := pickV_lt (l := l) (i := 0) (m := 12) (by decide)
  have p1 := pickV_lt (l := l) (i := 1) (m := 5) (by decide)
  refine ⟨fun x hx => ?_, fun x hx => ?_, ?_, ?_⟩
  · obtain ⟨i, hi, rfl⟩ := List.mem_map.1 hx
    have hi : i < prN n l := by simpa using hi
    have h1n : 1 < n := by unfold prN at hi; split at hi <;> omega
    have lA := pickV_lt (l := l) (i := 4 * (i : Int) + 1) (m := n) (by omega)
    have lB := pickV_lt (l := l) (i := 4 * (i : Int) + 2) (m := n - 1) (by omega)
    have lD := pickV_lt (l := l) (i := 4 * (i : Int) + 3) (m := 2 * most + 1) (by omega)
    have lW := pickV_lt (l := l) (i := 4 * (i : Int) + 4) (m := 9) (by omega)
    unfold prE vE
    dsimp only
    generalize pickV l (4 * (i : Int) + 1) n = a at *
    generalize pickV l (4 * (i : Int) + 2) (n - 1) = b at *
    have hab : a ≠ (a + 1 + b) % n := by
      by_cases h : a + 1 + b < n
      · rw [Nat.mod_eq_of_lt h]; omega
      · rw [Nat.mod_eq_sub_mod (by omega), Nat.mod_eq_of_lt (by omega)]; omega
    have hlt := Nat.mod_lt (a + 1 + b) (show n > 0 by omega)
    generalize (a + 1 + b) % n = m at *
    refine ⟨⟨by omega, by omega, by omega, by omega, by omega⟩, by omega, by omega⟩
  · obtain ⟨i, hi, rfl⟩ := List.mem_map.1 hx
    have hi : i < prM n l := by simpa using hi
    have h1n : 0 < n := by unfold prM at hi; split at hi <;> omega
    have lA := pickV_lt (l := l) (i := 3 * (i : Int) + 2) (m := n) (by omega)
    have lD := pickV_lt (l := l) (i := 3 * (i : Int) + 5) (m := 2 * most + 1) (by omega)
    have lW := pickV_lt (l := l) (i := 3 * (i : Int) + 4) (m := 7) (by omega)
    unfold prF vF
    dsimp only
    refine ⟨⟨by omega, by omega, by omega⟩, by omega, by omega⟩
  · unfold prES; rw [fnL_len]; unfold prN; split <;> omega
  · unfold prFS; rw [fnL_len]; unfold prM; split <;> omega
theorem valid0 {n : Nat} {es : List Ed} {fs : List Fx} (hn : n ≤ 64) (he : es.length ≤ 8192) (hf : fs.length ≤ 8192) (hE : ∀ x ∈ es, vE n x) (hF : ∀ x ∈ fs, vF n x) : validV n es fs = 0 := by
  unfold validV
  rw [if_neg (by omega), if_neg (by omega), if_pos ⟨hE, hF⟩]
end Go.Proofs.Ytebflkgpbbjhnaa
/- The walks of balance's reference: Valid, Cost. -/
namespace Go.Proofs.Ytebflkgpbbjhnaa
open Go.Fw Go
set_option linter.unusedVariables false
set_option linter.unusedSimpArgs false

set_option maxRecDepth 8000 in
theorem rwithin_c (x m : Int) (hm : 0 ≤ m ∧ m ≤ 4611686018427387904) (b : Bool) (hb : decide (-m ≤ x ∧ x ≤ m) = b) (H : AH) : ACall Try.prog 44 [.int .i64 x, .int .i64 m] H (fun y H' => y = .bool b ∧ H' = H) := by
  rw [← hb]
  by_cases h : -m ≤ x ∧ x ≤ m
  · rw [decide_eq_true h]
    refine ACall_of tt_ok (dok _) Try.func44 rfl (by decide) rfl ?_
    (repeat' ((conv => whnf); first | refine Then.mk ?_ | refine OpsA.cons ?_ | refine OpsA.nil ?_ | refine AWq.seq ?_ | refine AWq.region ?_ | refine AWq.ret ?_ | (refine Both.mk ?_ ?_ <;> intro hc <;> (first | (exfalso; omega) | skip)) | (intro c hc; (try (simp only [AH.none_iff] at hc; repeat (have hn := hc.1; replace hc := hc.2))); (first | (refine i64_k hc ?_ ?_ ?_ ; omega; omega; (clear hc; intro hc; subst hc)) | skip)) | (apply And.intro; (first | rfl)))) <;> (try (conv => whnf))
  · rw [decide_eq_false h]
    refine ACall_of tt_ok (dok _) Try.func44 rfl (by decide) rfl ?_
    (repeat' ((conv => whnf); first | refine Then.mk ?_ | refine OpsA.cons ?_ | refine OpsA.nil ?_ | refine AWq.seq ?_ | refine AWq.region ?_ | refine AWq.ret ?_ | (refine Both.mk ?_ ?_ <;> intro hc <;> (first | (exfalso; omega) | skip)) | (intro c hc; (try (simp only [AH.none_iff] at hc; repeat (have hn := hc.1; replace hc := hc.2))); (first | (refine i64_k hc ?_ ?_ ?_ ; omega; omega; (clear hc; intro hc; subst hc)) | skip)) | (apply And.intro; (first | rfl)))) <;> (try (conv => whnf))
set_option maxRecDepth 8000 in
theorem rabs_c (x : Int) (hx : -9223372036854775807 ≤ x ∧ x ≤ 9223372036854775807) (H : AH) : ACall Try.prog 49 [.int .i64 x] H (fun y H' => y = .int .i64 (absI x) ∧ H' = H) := by
  unfold absI
  by_cases h : x < 0
  · rw [if_pos h]
    refine ACall_of tt_ok (dok _) Try.func49 rfl (by decide) rfl ?_
    (repeat' ((conv => whnf); first | refine Then.mk ?_ | refine OpsA.cons ?_ | refine OpsA.nil ?_ | refine AWq.seq ?_ | refine AWq.region ?_ | refine AWq.cond ?_ | refine AWq.skip ?_ | refine AWq.ret ?_ | (refine Both.mk ?_ ?_ <;> intro hc <;> (first | exact Bool.noConfusion hc | exact absurd (by assumption) hc | exact absurd hc (by assumption) | skip)) | (intro c hc; (try (simp only [AH.none_iff] at hc; repeat (have hn := hc.1; replace hc := hc.2))); (first | (refine i64_k hc ?_ ?_ ?_ ; omega; omega; (clear hc; intro hc; subst hc)) | skip)) | (apply And.intro; (first | rfl | (simp <;> fail))))) <;> (try (conv => whnf))
  · rw [if_neg h]
    refine ACall_of tt_ok (dok _) Try.func49 rfl (by decide) rfl ?_
    (repeat' ((conv => whnf); first | refine Then.mk ?_ | refine OpsA.cons ?_ | refine OpsA.nil ?_ | refine AWq.seq ?_ | refine AWq.region ?_ | refine AWq.cond ?_ | refine AWq.skip ?_ | refine AWq.ret ?_ | (refine Both.mk ?_ ?_ <;> intro hc <;> (first | exact Bool.noConfusion hc | exact absurd (by assumption) hc | exact absurd hc (by assumption) | skip)) | (intro c hc; (try (simp only [AH.none_iff] at hc; repeat (have hn := hc.1; replace hc := hc.2))); (first | (refine i64_k hc ?_ ?_ ?_ ; omega; omega; (clear hc; intro hc; subst hc)) | skip)) | (apply And.intro; (first | rfl | (simp <;> fail))))) <;> (try (conv => whnf))
set_option maxHeartbeats 4000000 in
set_option maxRecDepth 8000 in
theorem rvalid_c (n : Int) (es : List Ed) (fs : List Fx) (he : es.length ≤ 1000000000) (hf : fs.length ≤ 1000000000) (H : AH) :
    ACall Try.prog 21 [.int .i64 n, .cs (edL es) es.length, .cs (fxL fs) fs.length] H (fun y H' => y = .int .i64 (validV n es fs) ∧ H' = H) := by
  unfold validV
  by_cases h1 : n < 0 ∨ 64 < n
  · rw [if_pos h1]
    refine ACall_of tt_ok (dok _) Try.func21 rfl (by decide) rfl ?_
    (repeat' ((conv => whnf); first | refine Then.mk ?_ | refine OpsA.cons ?_ | refine OpsA.nil ?_ | refine AWq.seq ?_ | refine AWq.region ?_ | refine AWq.cond ?_ | refine AWq.block ?_ | refine AWq.skip ?_ | refine AWq.ret ?_ | refine AWq.exit ?_ | refine AWq.loop ?_ | (refine Both.mk ?_ ?_ <;> intro hc <;> (first | exact Bool.noConfusion hc | exact absurd hc (by assumption) | (exfalso; omega) | skip)) | (intro c hc; (try (simp only [AH.none_iff] at hc; repeat (have hn := hc.1; replace hc := hc.2))); (first | (refine i64_k hc ?_ ?_ ?_ ; omega; omega; (clear hc; intro hc; subst hc)) | skip)) | (apply Exists.intro; apply And.intro; (first | (focus (repeat (first | (with_reducible assumption) | (with_reducible exact AH.set_same _ _ _))); done))) | (apply Exists.intro; apply And.intro; first | (with_reducible assumption) | ((try simp only [List.getElem?_drop, Nat.mul_one, Nat.add_zero, Nat.zero_add]); first | (with_reducible assumption) | rfl)) | (apply And.intro; (first | rfl | (with_reducible assumption) | exact Nat.le_of_ble_eq_true rfl | omega | (simp <;> omega) | (focus (repeat' (first | (with_reducible assumption) | rfl | apply one_take | apply one_drop)); done))))) <;> (try (conv => whnf))
  rw [if_neg h1]
  by_cases h2 : 8192 < es.length ∨ 8192 < fs.length
  · rw [if_pos h2]
    refine ACall_of tt_ok (dok _) Try.func21 rfl (by decide) rfl ?_
    (repeat' ((conv => whnf); first | refine Then.mk ?_ | refine OpsA.cons ?_ | refine OpsA.nil ?_ | refine AWq.seq ?_ | refine AWq.region ?_ | refine AWq.cond ?_ | refine AWq.block ?_ | refine AWq.skip ?_ | refine AWq.ret ?_ | refine AWq.exit ?_ | refine AWq.loop ?_ | (refine Both.mk ?_ ?_ <;> intro hc <;> (first | exact Bool.noConfusion hc | exact absurd hc (by assumption) | (exfalso; omega) | skip)) | (intro c hc; (try (simp only [AH.none_iff] at hc; repeat (have hn := hc.1; replace hc := hc.2))); (first | (refine i64_k hc ?_ ?_ ?_ ; omega; omega; (clear hc; intro hc; subst hc)) | skip)) | (apply Exists.intro; apply And.intro; (first | (focus (repeat (first | (with_reducible assumption) | (with_reducible exact AH.set_same _ _ _))); done))) | (apply Exists.intro; apply And.intro; first | (with_reducible assumption) | ((try simp only [List.getElem?_drop, Nat.mul_one, Nat.add_zero, Nat.zero_add]); first | (with_reducible assumption) | rfl)) | (apply And.intro; (first | rfl | (with_reducible assumption) | exact Nat.le_of_ble_eq_true rfl | omega | (simp <;> omega) | (focus (repeat' (first | (with_reducible assumption) | rfl | apply one_take | apply one_drop)); done))))) <;> (try (conv => whnf))
  rw [if_neg h2]
  have hcl := edL_len es
  have ho := edL_one es
  have hcl2 := fxL_len fs
  have ho2 := fxL_one fs
  refine ACall_of tt_ok (dok _) Try.func21 rfl (by decide) rfl ?_
  (repeat' ((conv => whnf); first | refine Then.mk ?_ | refine OpsA.cons ?_ | refine OpsA.nil ?_ | refine AWq.seq ?_ | refine AWq.region ?_ | refine AWq.cond ?_ | refine AWq.block ?_ | refine AWq.skip ?_ | refine AWq.ret ?_ | refine AWq.exit ?_ | refine AWq.loop ?_ | (refine Both.mk ?_ ?_ <;> intro hc <;> (first | exact Bool.noConfusion hc | exact absurd hc (by assumption) | (exfalso; omega) | skip)) | (intro c hc; (try (simp only [AH.none_iff] at hc; repeat (have hn := hc.1; replace hc := hc.2))); (first | (refine i64_k hc ?_ ?_ ?_ ; omega; omega; (clear hc; intro hc; subst hc)) | skip)) | (apply Exists.intro; apply And.intro; (first | (focus (repeat (first | (with_reducible assumption) | (with_reducible exact AH.set_same _ _ _))); done))) | (apply Exists.intro; apply And.intro; first | (with_reducible assumption) | ((try simp only [List.getElem?_drop, Nat.mul_one, Nat.add_zero, Nat.zero_add]); first | (with_reducible assumption) | rfl)) | (apply And.intro; (first | rfl | (with_reducible assumption) | exact Nat.le_of_ble_eq_true rfl | omega | (simp <;> omega) | (focus (repeat' (first | (with_reducible assumption) | rfl | apply one_take | apply one_drop)); done))))) <;> (try (conv => whnf))
  refine AWp_loop (σ := Nat) (6 :: 7 :: 8 :: 9 :: 27 :: 28 :: 29 :: 30 :: 31 :: 32 :: 33 :: 34 :: 35 :: 36 :: 37 :: 38 :: 39 :: 40 :: 41 :: 42 :: 43 :: 44 :: 45 :: 46 :: 47 :: 48 :: 49 :: 50 :: 51 :: 52 :: 53 :: 54 :: 55 :: 56 :: 57 :: 58 :: 59 :: 60 :: 61 :: 62 :: 63 :: 64 :: 65 :: 66 :: 67 :: 68 :: 69 :: 70 :: 71 :: 72 :: 73 :: 74 :: 75 :: 76 :: 77 :: 78 :: 79 :: 80 :: []) (fun i => [(7, .int .i64 i)]) (fun _ => H) (fun i => i ≤ es.length ∧ ∀ x ∈ es.take i, vE n x) (fun i => es.length - i) 0 rfl ⟨Nat.zero_le _, fun x hx => by simp at hx⟩ ⟨rfl, trivial⟩ (HLe.refl _) ?_
  rintro i ⟨hi, hin⟩
  refine AWp.of tt_ok (dok _) rfl ?_
  by_cases hil : i < es.length
  · obtain ⟨x, hx⟩ : ∃ x, es[i]? = some x := ⟨_, List.getElem?_eq_getElem hil⟩
    have hmem := List.mem_of_getElem? hx
    (iterate 3 ((repeat' ((conv => whnf); first | refine OpsA.cons ?_ | refine OpsA.nil ?_ | refine AWq.seq ?_ | refine AWq.region ?_ | refine AWq.cond ?_ | refine AWq.block ?_ | refine AWq.skip ?_ | refine AWq.ret ?_ | refine AWq.exit ?_ | refine AWq.loop ?_ | (refine Both.mk ?_ ?_ <;> intro hc <;> (first | exact Bool.noConfusion hc | exact absurd hc (by assumption) | (exfalso; omega) | skip)) | (intro c hc; (try (simp only [AH.none_iff] at hc; repeat (have hn := hc.1; replace hc := hc.2))); (first | (refine i64_k hc ?_ ?_ ?_ ; omega; omega; (clear hc; intro hc; subst hc)) | skip)) | (apply Exists.intro; apply And.intro; (first | (focus (repeat (first | (with_reducible assumption) | (with_reducible exact AH.set_same _ _ _))); done))) | (apply Exists.intro; apply And.intro; first | (with_reducible assumption) | ((try simp only [List.getElem?_drop, Nat.mul_one, Nat.add_zero, Nat.zero_add]); first | (with_reducible assumption) | rfl)) | (apply And.intro; (first | rfl | (with_reducible assumption) | exact Nat.le_of_ble_eq_true rfl | omega | (simp <;> omega) | (focus (repeat' (first | (with_reducible assumption) | rfl | apply one_take | apply one_drop)); done))))) <;> (try (conv => whnf)); refine Then.mk ?_))
    refine AWq.in ?_
    refine AWp_segP 8 (edA x) rfl rfl (by (first | assumption | (simp only [AH.none_iff]; (repeat' (first | assumption | (refine And.intro ?_ ?_)))))) (edL_seg hx) rfl ?_
    refine AWp.of tt_ok (dok _) rfl ?_
    by_cases v4 : -65535 ≤ x.d ∧ x.d ≤ 65535
    · have hw := fun H => rwithin_c x.d 65535 (by decide) true (decide_eq_true v4) H
      by_cases hv : vE n x
      · obtain ⟨v1, v2, v3, _, v5⟩ := id hv
        (repeat' ((conv => whnf); first | refine Then.mk ?_ | refine OpsA.cons ?_ | refine OpsA.nil ?_ | refine AWq.seq ?_ | refine AWq.region ?_ | refine AWq.cond ?_ | refine AWq.block ?_ | refine AWq.skip ?_ | refine AWq.ret ?_ | refine AWq.exit ?_ | refine AWq.loop ?_ | (refine Both.mk ?_ ?_ <;> intro hc <;> (first | exact Bool.noConfusion hc | exact absurd hc (by assumption) | (exfalso; omega) | skip)) | (intro c hc; (try (simp only [AH.none_iff] at hc; repeat (have hn := hc.1; replace hc := hc.2))); (first | (refine i64_k hc ?_ ?_ ?_ ; omega; omega; (clear hc; intro hc; subst hc)) | skip)) | (apply Exists.intro; apply And.intro; (first | (focus (repeat (first | (with_reducible assumption) | (with_reducible exact AH.set_same _ _ _))); done))) | (apply Exists.intro; apply And.intro; first | (with_reducible assumption) | ((try simp only [List.getElem?_drop, Nat.mul_one, Nat.add_zero, Nat.zero_add]); first | (with_reducible assumption) | rfl)) | (apply And.intro; (first | rfl | (with_reducible assumption) | exact Nat.le_of_ble_eq_true rfl | omega | (simp <;> omega) | (focus (repeat' (first | (with_reducible assumption) | rfl | apply one_take | apply one_drop)); done))) | (refine ACall.to (hw _) ?_))) <;> (try (conv => whnf))
        exact ⟨i + 1, ⟨hil, all_take hx hin hv⟩, by omega, ⟨congrArg (AV.int .i64) (by omega), trivial⟩, HLe.refl _⟩
      · have hbad : ¬((∀ x ∈ es, vE n x) ∧ (∀ x ∈ fs, vF n x)) := fun h => hv (h.1 x hmem)
        unfold vE at hv
        rw [if_neg hbad]
        (repeat' ((conv => whnf); first | refine Then.mk ?_ | refine OpsA.cons ?_ | refine OpsA.nil ?_ | refine AWq.seq ?_ | refine AWq.region ?_ | refine AWq.cond ?_ | refine AWq.block ?_ | refine AWq.skip ?_ | refine AWq.ret ?_ | refine AWq.exit ?_ | refine AWq.loop ?_ | (refine Both.mk ?_ ?_ <;> intro hc <;> (first | exact Bool.noConfusion hc | exact absurd hc (by assumption) | (exfalso; omega) | skip)) | (intro c hc; (try (simp only [AH.none_iff] at hc; repeat (have hn := hc.1; replace hc := hc.2))); (first | (refine i64_k hc ?_ ?_ ?_ ; omega; omega; (clear hc; intro hc; subst hc)) | skip)) | (apply Exists.intro; apply And.intro; (first | (focus (repeat (first | (with_reducible assumption) | (with_reducible exact AH.set_same _ _ _))); done))) | (apply Exists.intro; apply And.intro; first | (with_reducible assumption) | ((try simp only [List.getElem?_drop, Nat.mul_one, Nat.add_zero, Nat.zero_add]); first | (with_reducible assumption) | rfl)) | (apply And.intro; (first | rfl | (with_reducible assumption) | exact Nat.le_of_ble_eq_true rfl | omega | (simp <;> omega) | (focus (repeat' (first | (with_reducible assumption) | rfl | apply one_take | apply one_drop)); done))) | (refine ACall.to (hw _) ?_))) <;> (try (conv => whnf))
    · have hw := fun H => rwithin_c x.d 65535 (by decide) false (decide_eq_false v4) H
      have hbad : ¬((∀ x ∈ es, vE n x) ∧ (∀ x ∈ fs, vF n x)) := fun h => v4 (h.1 x hmem).2.2.2.1
      rw [if_neg hbad]
      (repeat' ((conv => whnf); first | refine Then.mk ?_ | refine OpsA.cons ?_ | refine OpsA.nil ?_ | refine AWq.seq ?_ | refine AWq.region ?_ | refine AWq.cond ?_ | refine AWq.block ?_ | refine AWq.skip ?_ | refine AWq.ret ?_ | refine AWq.exit ?_ | refine AWq.loop ?_ | (refine Both.mk ?_ ?_ <;> intro hc <;> (first | exact Bool.noConfusion hc | exact absurd hc (by assumption) | (exfalso; omega) | skip)) | (intro c hc; (try (simp only [AH.none_iff] at hc; repeat (have hn := hc.1; replace hc := hc.2))); (first | (refine i64_k hc ?_ ?_ ?_ ; omega; omega; (clear hc; intro hc; subst hc)) | skip)) | (apply Exists.intro; apply And.intro; (first | (focus (repeat (first | (with_reducible assumption) | (with_reducible exact AH.set_same _ _ _))); done))) | (apply Exists.intro; apply And.intro; first | (with_reducible assumption) | ((try simp only [List.getElem?_drop, Nat.mul_one, Nat.add_zero, Nat.zero_add]); first | (with_reducible assumption) | rfl)) | (apply And.intro; (first | rfl | (with_reducible assumption) | exact Nat.le_of_ble_eq_true rfl | omega | (simp <;> omega) | (focus (repeat' (first | (with_reducible assumption) | rfl | apply one_take | apply one_drop)); done))) | (refine ACall.to (hw _) ?_))) <;> (try (conv => whnf))
  · have hie : i = es.length := by omega
    rw [hie, List.take_of_length_le (Nat.le_refl _)] at hin
    (repeat' ((conv => whnf); first | refine Then.mk ?_ | refine OpsA.cons ?_ | refine OpsA.nil ?_ | refine AWq.seq ?_ | refine AWq.region ?_ | refine AWq.cond ?_ | refine AWq.block ?_ | refine AWq.skip ?_ | refine AWq.ret ?_ | refine AWq.exit ?_ | refine AWq.loop ?_ | (refine Both.mk ?_ ?_ <;> intro hc <;> (first | exact Bool.noConfusion hc | exact absurd hc (by assumption) | (exfalso; omega) | skip)) | (intro c hc; (try (simp only [AH.none_iff] at hc; repeat (have hn := hc.1; replace hc := hc.2))); (first | (refine i64_k hc ?_ ?_ ?_ ; omega; omega; (clear hc; intro hc; subst hc)) | skip)) | (apply Exists.intro; apply And.intro; (first | (focus (repeat (first | (with_reducible assumption) | (with_reducible exact AH.set_same _ _ _))); done))) | (apply Exists.intro; apply And.intro; first | (with_reducible assumption) | ((try simp only [List.getElem?_drop, Nat.mul_one, Nat.add_zero, Nat.zero_add]); first | (with_reducible assumption) | rfl)) | (apply And.intro; (first | rfl | (with_reducible assumption) | exact Nat.le_of_ble_eq_true rfl | omega | (simp <;> omega) | (focus (repeat' (first | (with_reducible assumption) | rfl | apply one_take | apply one_drop)); done))))) <;> (try (conv => whnf))
    refine AWp_loop (σ := Nat) (6 :: 10 :: 11 :: 12 :: 81 :: 82 :: 83 :: 84 :: 85 :: 86 :: 87 :: 88 :: 89 :: 90 :: 91 :: 92 :: 93 :: 94 :: 95 :: 96 :: 97 :: 98 :: 99 :: 100 :: 101 :: 102 :: 103 :: 104 :: 105 :: 106 :: 107 :: 108 :: 109 :: 110 :: 111 :: 112 :: 113 :: 114 :: 115 :: 116 :: []) (fun i => [(10, .int .i64 i)]) (fun _ => H) (fun i => i ≤ fs.length ∧ ∀ x ∈ fs.take i, vF n x) (fun i => fs.length - i) 0 rfl ⟨Nat.zero_le _, fun x hx => by simp at hx⟩ ⟨rfl, trivial⟩ (HLe.refl _) ?_
    rintro i ⟨hi, hin2⟩
    refine AWp.of tt_ok (dok _) rfl ?_
    by_cases hil : i < fs.length
    · obtain ⟨x, hx⟩ : ∃ x, fs[i]? = some x := ⟨_, List.getElem?_eq_getElem hil⟩
      have hmem := List.mem_of_getElem? hx
      (iterate 3 ((repeat' ((conv => whnf); first | refine OpsA.cons ?_ | refine OpsA.nil ?_ | refine AWq.seq ?_ | refine AWq.region ?_ | refine AWq.cond ?_ | refine AWq.block ?_ | refine AWq.skip ?_ | refine AWq.ret ?_ | refine AWq.exit ?_ | refine AWq.loop ?_ | (refine Both.mk ?_ ?_ <;> intro hc <;> (first | exact Bool.noConfusion hc | exact absurd hc (by assumption) | (exfalso; omega) | skip)) | (intro c hc; (try (simp only [AH.none_iff] at hc; repeat (have hn := hc.1; replace hc := hc.2))); (first | (refine i64_k hc ?_ ?_ ?_ ; omega; omega; (clear hc; intro hc; subst hc)) | skip)) | (apply Exists.intro; apply And.intro; (first | (focus (repeat (first | (with_reducible assumption) | (with_reducible exact AH.set_same _ _ _))); done))) | (apply Exists.intro; apply And.intro; first | (with_reducible assumption) | ((try simp only [List.getElem?_drop, Nat.mul_one, Nat.add_zero, Nat.zero_add]); first | (with_reducible assumption) | rfl)) | (apply And.intro; (first | rfl | (with_reducible assumption) | exact Nat.le_of_ble_eq_true rfl | omega | (simp <;> omega) | (focus (repeat' (first | (with_reducible assumption) | rfl | apply one_take | apply one_drop)); done))))) <;> (try (conv => whnf)); refine Then.mk ?_))
      refine AWq.in ?_
      refine AWp_segP 11 (fxA x) rfl rfl (by (first | assumption | (simp only [AH.none_iff]; (repeat' (first | assumption | (refine And.intro ?_ ?_)))))) (fxL_seg hx) rfl ?_
      refine AWp.of tt_ok (dok _) rfl ?_
      by_cases v4 : -65535 ≤ x.v ∧ x.v ≤ 65535
      · have hw := fun H => rwithin_c x.v 65535 (by decide) true (decide_eq_true v4) H
        by_cases hv : vF n x
        · obtain ⟨v1, _, v5⟩ := id hv
          (repeat' ((conv => whnf); first | refine Then.mk ?_ | refine OpsA.cons ?_ | refine OpsA.nil ?_ | refine AWq.seq ?_ | refine AWq.region ?_ | refine AWq.cond ?_ | refine AWq.block ?_ | refine AWq.skip ?_ | refine AWq.ret ?_ | refine AWq.exit ?_ | refine AWq.loop ?_ | (refine Both.mk ?_ ?_ <;> intro hc <;> (first | exact Bool.noConfusion hc | exact absurd hc (by assumption) | (exfalso; omega) | skip)) | (intro c hc; (try (simp only [AH.none_iff] at hc; repeat (have hn := hc.1; replace hc := hc.2))); (first | (refine i64_k hc ?_ ?_ ?_ ; omega; omega; (clear hc; intro hc; subst hc)) | skip)) | (apply Exists.intro; apply And.intro; (first | (focus (repeat (first | (with_reducible assumption) | (with_reducible exact AH.set_same _ _ _))); done))) | (apply Exists.intro; apply And.intro; first | (with_reducible assumption) | ((try simp only [List.getElem?_drop, Nat.mul_one, Nat.add_zero, Nat.zero_add]); first | (with_reducible assumption) | rfl)) | (apply And.intro; (first | rfl | (with_reducible assumption) | exact Nat.le_of_ble_eq_true rfl | omega | (simp <;> omega) | (focus (repeat' (first | (with_reducible assumption) | rfl | apply one_take | apply one_drop)); done))) | (refine ACall.to (hw _) ?_))) <;> (try (conv => whnf))
          exact ⟨i + 1, ⟨hil, all_take hx hin2 hv⟩, by omega, ⟨congrArg (AV.int .i64) (by omega), trivial⟩, HLe.refl _⟩
        · have hbad : ¬((∀ x ∈ es, vE n x) ∧ (∀ x ∈ fs, vF n x)) := fun h => hv (h.2 x hmem)
          unfold vF at hv
          rw [if_neg hbad]
          (repeat' ((conv => whnf); first | refine Then.mk ?_ | refine OpsA.cons ?_ | refine OpsA.nil ?_ | refine AWq.seq ?_ | refine AWq.region ?_ | refine AWq.cond ?_ | refine AWq.block ?_ | refine AWq.skip ?_ | refine AWq.ret ?_ | refine AWq.exit ?_ | refine AWq.loop ?_ | (refine Both.mk ?_ ?_ <;> intro hc <;> (first | exact Bool.noConfusion hc | exact absurd hc (by assumption) | (exfalso; omega) | skip)) | (intro c hc; (try (simp only [AH.none_iff] at hc; repeat (have hn := hc.1; replace hc := hc.2))); (first | (refine i64_k hc ?_ ?_ ?_ ; omega; omega; (clear hc; intro hc; subst hc)) | skip)) | (apply Exists.intro; apply And.intro; (first | (focus (repeat (first | (with_reducible assumption) | (with_reducible exact AH.set_same _ _ _))); done))) | (apply Exists.intro; apply And.intro; first | (with_reducible assumption) | ((try simp only [List.getElem?_drop, Nat.mul_one, Nat.add_zero, Nat.zero_add]); first | (with_reducible assumption) | rfl)) | (apply And.intro; (first | rfl | (with_reducible assumption) | exact Nat.le_of_ble_eq_true rfl | omega | (simp <;> omega) | (focus (repeat' (first | (with_reducible assumption) | rfl | apply one_take | apply one_drop)); done))) | (refine ACall.to (hw _) ?_))) <;> (try (conv => whnf))
      · have hw := fun H => rwithin_c x.v 65535 (by decide) false (decide_eq_false v4) H
        have hbad : ¬((∀ x ∈ es, vE n x) ∧ (∀ x ∈ fs, vF n x)) := fun h => v4 (h.2 x hmem).2.1
        rw [if_neg hbad]
        (repeat' ((conv => whnf); first | refine Then.mk ?_ | refine OpsA.cons ?_ | refine OpsA.nil ?_ | refine AWq.seq ?_ | refine AWq.region ?_ | refine AWq.cond ?_ | refine AWq.block ?_ | refine AWq.skip ?_ | refine AWq.ret ?_ | refine AWq.exit ?_ | refine AWq.loop ?_ | (refine Both.mk ?_ ?_ <;> intro hc <;> (first | exact Bool.noConfusion hc | exact absurd hc (by assumption) | (exfalso; omega) | skip)) | (intro c hc; (try (simp only [AH.none_iff] at hc; repeat (have hn := hc.1; replace hc := hc.2))); (first | (refine i64_k hc ?_ ?_ ?_ ; omega; omega; (clear hc; intro hc; subst hc)) | skip)) | (apply Exists.intro; apply And.intro; (first | (focus (repeat (first | (with_reducible assumption) | (with_reducible exact AH.set_same _ _ _))); done))) | (apply Exists.intro; apply And.intro; first | (with_reducible assumption) | ((try simp only [List.getElem?_drop, Nat.mul_one, Nat.add_zero, Nat.zero_add]); first | (with_reducible assumption) | rfl)) | (apply And.intro; (first | rfl | (with_reducible assumption) | exact Nat.le_of_ble_eq_true rfl | omega | (simp <;> omega) | (focus (repeat' (first | (with_reducible assumption) | rfl | apply one_take | apply one_drop)); done))) | (refine ACall.to (hw _) ?_))) <;> (try (conv => whnf))
    · have hie : i = fs.length := by omega
      rw [hie, List.take_of_length_le (Nat.le_refl _)] at hin2
      rw [if_pos ⟨hin, hin2⟩]
      (repeat' ((conv => whnf); first | refine Then.mk ?_ | refine OpsA.cons ?_ | refine OpsA.nil ?_ | refine AWq.seq ?_ | refine AWq.region ?_ | refine AWq.cond ?_ | refine AWq.block ?_ | refine AWq.skip ?_ | refine AWq.ret ?_ | refine AWq.exit ?_ | refine AWq.loop ?_ | (refine Both.mk ?_ ?_ <;> intro hc <;> (first | exact Bool.noConfusion hc | exact absurd hc (by assumption) | (exfalso; omega) | skip)) | (intro c hc; (try (simp only [AH.none_iff] at hc; repeat (have hn := hc.1; replace hc := hc.2))); (first | (refine i64_k hc ?_ ?_ ?_ ; omega; omega; (clear hc; intro hc; subst hc)) | skip)) | (apply Exists.intro; apply And.intro; (first | (focus (repeat (first | (with_reducible assumption) | (with_reducible exact AH.set_same _ _ _))); done))) | (apply Exists.intro; apply And.intro; first | (with_reducible assumption) | ((try simp only [List.getElem?_drop, Nat.mul_one, Nat.add_zero, Nat.zero_add]); first | (with_reducible assumption) | rfl)) | (apply And.intro; (first | rfl | (with_reducible assumption) | exact Nat.le_of_ble_eq_true rfl | omega | (simp <;> omega) | (focus (repeat' (first | (with_reducible assumption) | rfl | apply one_take | apply one_drop)); done))))) <;> (try (conv => whnf))
set_option maxHeartbeats 4000000 in
set_option maxRecDepth 8000 in
theorem rcost_c (es : List Ed) (fs : List Fx) (o : List Int) (he : es.length ≤ 1000000000) (hf : fs.length ≤ 1000000000) (hol : o.length ≤ 1000000000) (H : AH) :
    ACall Try.prog 23 [.cs (edL es) es.length, .cs (fxL fs) fs.length, .cs (iS .i64 o) o.length] H (fun y H' => y = .tup [.int .i64 (costR es fs o).1, .int .i64 (costR es fs o).2] ∧ H' = H) := by
  have hv := fun H => rvalid_c o.length es fs he hf H
  unfold costR
  by_cases h0 : validV o.length es fs = 0
  · rw [if_neg (by simpa using h0)]
    rw [h0] at hv
    obtain ⟨⟨hn0, hn1⟩, ⟨he1, hf1⟩, hE, hF⟩ := validV_ok h0
    have hel := edL_len es
    have hfl := fxL_len fs
    have heo := edL_one es
    have hfo := fxL_one fs
    have hil := iS_length .i64 o
    refine ACall.back ?_
    refine ACall_of tt_ok (dok _) Try.func23 rfl (by decide) rfl ?_
    (repeat' ((conv => whnf); first | refine Then.mk ?_ | refine OpsA.cons ?_ | refine OpsA.nil ?_ | refine AWq.seq ?_ | refine AWq.region ?_ | refine AWq.cond ?_ | refine AWq.block ?_ | refine AWq.skip ?_ | refine AWq.ret ?_ | refine AWq.exit ?_ | refine AWq.loop ?_ | refine DrawA.consD ?_ | refine DrawA.nil ?_ | refine AWq.draw (by decide +kernel) ?_ | (refine Both.mk ?_ ?_ <;> intro hc <;> (first | exact Bool.noConfusion hc | exact absurd (by with_reducible rfl) hc | exact absurd (by assumption) hc | (exfalso; omega) | skip)) | (intro c hc; (try (simp only [AH.none_iff] at hc; repeat (have hn := hc.1; replace hc := hc.2))); (first | (refine i64_k hc ?_ ?_ ?_ ; omega; omega; (clear hc; intro hc; subst hc)) | skip)) | (apply Exists.intro; apply And.intro; (first | (focus (repeat (first | (with_reducible assumption) | (with_reducible exact AH.set_same _ _ _))); done))) | (apply Exists.intro; apply And.intro; first | (with_reducible assumption) | ((try simp only [List.getElem?_drop, Nat.mul_one, Nat.add_zero, Nat.zero_add]); first | (with_reducible assumption) | rfl)) | (apply And.intro; (first | rfl | (with_reducible assumption) | exact Nat.le_of_ble_eq_true rfl | omega | (simp <;> omega) | (focus (repeat' (first | (with_reducible assumption) | rfl | apply one_take | apply one_drop)); done))) | (refine ACall.to (hv _) ?_))) <;> (try (conv => whnf))
    refine AWp_loop (σ := Nat) (6 :: 7 :: 9 :: 10 :: 24 :: 25 :: 26 :: 27 :: 28 :: 29 :: 30 :: 31 :: 32 :: 33 :: 34 :: 35 :: 36 :: []) (fun i => [(9, .int .i64 i)]) (fun i => H) (fun i => i ≤ o.length ∧ ∀ x ∈ o.take i, -1073741824 ≤ x ∧ x ≤ 1073741824) (fun i => o.length - i) 0 rfl ⟨Nat.zero_le _, fun x hx => by simp at hx⟩ ⟨rfl, trivial⟩ (HLe.refl _) ?_
    rintro i ⟨hi, hin⟩
    refine AWp.of tt_ok (dok _) rfl ?_
    by_cases hilt : i < o.length
    · obtain ⟨x, hx⟩ : ∃ x, o[i]? = some x := ⟨_, List.getElem?_eq_getElem hilt⟩
      have hg : (iS .i64 o)[(i : Int).toNat]? = some (.int .i64 x) := by
        have : o.getD i 0 = x := by rw [List.getD_eq_getElem?_getD, hx]; rfl
        rw [← this]; exact iS_get hilt
      obtain ⟨R, hR⟩ : ∃ R, R = iS .i64 o := ⟨_, rfl⟩
      rw [← hR] at hg hil ⊢
      by_cases hb1 : -1073741824 ≤ x ∧ x ≤ 1073741824
      · have hw := fun H => rwithin_c x 1073741824 (by decide) true (decide_eq_true hb1) H
        (repeat' ((conv => whnf); first | refine Then.mk ?_ | refine OpsA.cons ?_ | refine OpsA.nil ?_ | refine AWq.seq ?_ | refine AWq.region ?_ | refine AWq.cond ?_ | refine AWq.block ?_ | refine AWq.skip ?_ | refine AWq.ret ?_ | refine AWq.exit ?_ | refine AWq.loop ?_ | refine DrawA.consD ?_ | refine DrawA.nil ?_ | refine AWq.draw (by decide +kernel) ?_ | (refine Both.mk ?_ ?_ <;> intro hc <;> (first | exact Bool.noConfusion hc | exact absurd (by with_reducible rfl) hc | exact absurd (by assumption) hc | (exfalso; omega) | skip)) | (intro c hc; (try (simp only [AH.none_iff] at hc; repeat (have hn := hc.1; replace hc := hc.2))); (first | (refine i64_k hc ?_ ?_ ?_ ; omega; omega; (clear hc; intro hc; subst hc)) | skip)) | (apply Exists.intro; apply And.intro; (first | (focus (repeat (first | (with_reducible assumption) | (with_reducible exact AH.set_same _ _ _))); done))) | (apply Exists.intro; apply And.intro; first | (with_reducible assumption) | ((try simp only [List.getElem?_drop, Nat.mul_one, Nat.add_zero, Nat.zero_add]); first | (with_reducible assumption) | rfl)) | (apply And.intro; (first | rfl | (with_reducible assumption) | exact Nat.le_of_ble_eq_true rfl | omega | (simp <;> omega) | (focus (repeat' (first | (with_reducible assumption) | rfl | apply one_take | apply one_drop)); done))) | (refine ACall.to (hw _) ?_))) <;> (try (conv => whnf))
        exact ⟨i + 1, ⟨hilt, all_take hx hin hb1⟩, by omega, ⟨congrArg (AV.int .i64) (by omega), trivial⟩, HLe.refl _⟩
      · have hw := fun H => rwithin_c x 1073741824 (by decide) false (decide_eq_false hb1) H
        rw [if_neg (fun h => hb1 (h x (List.mem_of_getElem? hx)))]
        (repeat' ((conv => whnf); first | refine Then.mk ?_ | refine OpsA.cons ?_ | refine OpsA.nil ?_ | refine AWq.seq ?_ | refine AWq.region ?_ | refine AWq.cond ?_ | refine AWq.block ?_ | refine AWq.skip ?_ | refine AWq.ret ?_ | refine AWq.exit ?_ | refine AWq.loop ?_ | refine DrawA.consD ?_ | refine DrawA.nil ?_ | refine AWq.draw (by decide +kernel) ?_ | (refine Both.mk ?_ ?_ <;> intro hc <;> (first | exact Bool.noConfusion hc | exact absurd (by with_reducible rfl) hc | exact absurd (by assumption) hc | (exfalso; omega) | skip)) | (intro c hc; (try (simp only [AH.none_iff] at hc; repeat (have hn := hc.1; replace hc := hc.2))); (first | (refine i64_k hc ?_ ?_ ?_ ; omega; omega; (clear hc; intro hc; subst hc)) | skip)) | (apply Exists.intro; apply And.intro; (first | (focus (repeat (first | (with_reducible assumption) | (with_reducible exact AH.set_same _ _ _))); done))) | (apply Exists.intro; apply And.intro; first | (with_reducible assumption) | ((try simp only [List.getElem?_drop, Nat.mul_one, Nat.add_zero, Nat.zero_add]); first | (with_reducible assumption) | rfl)) | (apply And.intro; (first | rfl | (with_reducible assumption) | exact Nat.le_of_ble_eq_true rfl | omega | (simp <;> omega) | (focus (repeat' (first | (with_reducible assumption) | rfl | apply one_take | apply one_drop)); done))) | (refine ACall.to (hw _) ?_))) <;> (try (conv => whnf))
        exact HLe.refl _
    · have hie : i = o.length := by omega
      rw [hie, List.take_of_length_le (Nat.le_refl _)] at hin
      have hb := hin
      rw [if_pos hb]
      (repeat' ((conv => whnf); first | refine Then.mk ?_ | refine OpsA.cons ?_ | refine OpsA.nil ?_ | refine AWq.seq ?_ | refine AWq.region ?_ | refine AWq.cond ?_ | refine AWq.block ?_ | refine AWq.skip ?_ | refine AWq.ret ?_ | refine AWq.exit ?_ | refine AWq.loop ?_ | refine DrawA.consD ?_ | refine DrawA.nil ?_ | refine AWq.draw (by decide +kernel) ?_ | (refine Both.mk ?_ ?_ <;> intro hc <;> (first | exact Bool.noConfusion hc | exact absurd (by with_reducible rfl) hc | exact absurd (by assumption) hc | (exfalso; omega) | skip)) | (intro c hc; (try (simp only [AH.none_iff] at hc; repeat (have hn := hc.1; replace hc := hc.2))); (first | (refine i64_k hc ?_ ?_ ?_ ; omega; omega; (clear hc; intro hc; subst hc)) | skip)) | (apply Exists.intro; apply And.intro; (first | (focus (repeat (first | (with_reducible assumption) | (with_reducible exact AH.set_same _ _ _))); done))) | (apply Exists.intro; apply And.intro; first | (with_reducible assumption) | ((try simp only [List.getElem?_drop, Nat.mul_one, Nat.add_zero, Nat.zero_add]); first | (with_reducible assumption) | rfl)) | (apply And.intro; (first | rfl | (with_reducible assumption) | exact Nat.le_of_ble_eq_true rfl | omega | (simp <;> omega) | (focus (repeat' (first | (with_reducible assumption) | rfl | apply one_take | apply one_drop)); done))))) <;> (try (conv => whnf))
      refine AWp_loop (σ := Nat) (11 :: 12 :: 13 :: 37 :: 38 :: 39 :: 40 :: 41 :: 42 :: 43 :: 44 :: 45 :: 46 :: 47 :: 48 :: 49 :: 50 :: 51 :: 52 :: 53 :: 54 :: 55 :: 56 :: 57 :: 58 :: 59 :: 60 :: 61 :: 62 :: 63 :: 64 :: 65 :: 66 :: []) (fun i => [(12, .int .i64 i), (11, .int .i64 ((es.take i).map (costE (ofL o))).sum)]) (fun i => H) (fun i => i ≤ es.length) (fun i => es.length - i) 0 rfl (Nat.zero_le _) ⟨rfl, rfl, trivial⟩ (HLe.refl _) ?_
      intro i hi
      refine AWp.of tt_ok (dok _) rfl ?_
      dsimp only at hi ⊢
      by_cases hilt : i < es.length
      · obtain ⟨x, hx⟩ : ∃ x, es[i]? = some x := ⟨_, List.getElem?_eq_getElem hilt⟩
        have hvx := hE x (List.mem_of_getElem? hx)
        have hcb := costE_bd hb hvx
        obtain ⟨v1, v2, v3, v4, v5⟩ := hvx
        have hsb := sum_bd (l := (es.take i).map (costE (ofL o))) (b := 140741783257088) (fun z hz => by
          obtain ⟨y, hy, rfl⟩ := List.mem_map.1 hz
          exact costE_bd hb (hE y (List.mem_of_mem_take hy)))
        have hlt : (((es.take i).map (costE (ofL o))).length : Int) ≤ 8192 := by rw [List.length_map, List.length_take]; omega
        have htk : ((es.take (i + 1)).map (costE (ofL o))).sum = ((es.take i).map (costE (ofL o))).sum + costE (ofL o) x := by rw [take_snoc hx]; simp
        generalize ((es.take i).map (costE (ofL o))).sum = s at *
        have ga : (iS .i64 o)[x.a.toNat]? = some (.int .i64 (ofL o x.a.toNat)) := iS_get (by omega)
        have gb : (iS .i64 o)[x.b.toNat]? = some (.int .i64 (ofL o x.b.toNat)) := iS_get (by omega)
        have hca := hb _ (getD_mem (i := x.a.toNat) (l := o) (by omega))
        have hcb2 := hb _ (getD_mem (i := x.b.toNat) (l := o) (by omega))
        have hab := fun H => rabs_c (ofL o x.a.toNat - ofL o x.b.toNat - x.d) (by unfold ofL; omega) H
        have hzb := absI_bd (z := ofL o x.a.toNat - ofL o x.b.toNat - x.d) (b := 2147549183) (by unfold ofL; omega)
        have hme : costE (ofL o) x = x.w * absI (ofL o x.a.toNat - ofL o x.b.toNat - x.d) := rfl
        rw [hme] at hcb htk
        have hca : -1073741824 ≤ ofL o x.a.toNat ∧ ofL o x.a.toNat ≤ 1073741824 := hca
        have hcb2 : -1073741824 ≤ ofL o x.b.toNat ∧ ofL o x.b.toNat ≤ 1073741824 := hcb2
        generalize ofL o x.a.toNat = oa at *
        generalize ofL o x.b.toNat = ob at *
        generalize absI (oa - ob - x.d) = z at *
        (iterate 3 ((repeat' ((conv => whnf); first | refine OpsA.cons ?_ | refine OpsA.nil ?_ | refine AWq.seq ?_ | refine AWq.region ?_ | refine AWq.cond ?_ | refine AWq.block ?_ | refine AWq.skip ?_ | refine AWq.ret ?_ | refine AWq.exit ?_ | refine AWq.loop ?_ | refine DrawA.consD ?_ | refine DrawA.nil ?_ | refine AWq.draw (by decide +kernel) ?_ | (refine Both.mk ?_ ?_ <;> intro hc <;> (first | exact Bool.noConfusion hc | exact absurd (by with_reducible rfl) hc | exact absurd (by assumption) hc | (exfalso; omega) | skip)) | (intro c hc; (try (simp only [AH.none_iff] at hc; repeat (have hn := hc.1; replace hc := hc.2))); (first | (refine i64_k hc ?_ ?_ ?_ ; omega; omega; (clear hc; intro hc; subst hc)) | skip)) | (apply Exists.intro; apply And.intro; (first | (focus (repeat (first | (with_reducible assumption) | (with_reducible exact AH.set_same _ _ _))); done))) | (apply Exists.intro; apply And.intro; first | (with_reducible assumption) | ((try simp only [List.getElem?_drop, Nat.mul_one, Nat.add_zero, Nat.zero_add]); first | (with_reducible assumption) | rfl)) | (apply And.intro; (first | rfl | (with_reducible assumption) | exact Nat.le_of_ble_eq_true rfl | omega | (simp <;> omega) | (focus (repeat' (first | (with_reducible assumption) | rfl | apply one_take | apply one_drop)); done))))) <;> (try (conv => whnf)); refine Then.mk ?_))
        refine AWq.in ?_
        refine AWp_segP 13 (edA x) rfl rfl (by (first | assumption | (simp only [AH.none_iff]; (repeat' (first | assumption | (refine And.intro ?_ ?_)))))) (edL_seg hx) rfl ?_
        refine AWp.of tt_ok (dok _) rfl ?_
        (repeat' ((conv => whnf); first | refine Then.mk ?_ | refine OpsA.cons ?_ | refine OpsA.nil ?_ | refine AWq.seq ?_ | refine AWq.region ?_ | refine AWq.cond ?_ | refine AWq.block ?_ | refine AWq.skip ?_ | refine AWq.ret ?_ | refine AWq.exit ?_ | refine AWq.loop ?_ | refine DrawA.consD ?_ | refine DrawA.nil ?_ | refine AWq.draw (by decide +kernel) ?_ | (apply Exists.intro; apply And.intro; exact hab _) | (refine Both.mk ?_ ?_ <;> intro hc <;> (first | exact Bool.noConfusion hc | exact absurd (by with_reducible rfl) hc | exact absurd (by assumption) hc | (exfalso; omega) | skip)) | (intro c hc; (try (simp only [AH.none_iff] at hc; repeat (have hn := hc.1; replace hc := hc.2))); (first | (refine i64_k hc ?_ ?_ ?_ ; omega; omega; (clear hc; intro hc; subst hc)) | skip)) | (apply Exists.intro; apply And.intro; (first | (focus (repeat (first | (with_reducible assumption) | (with_reducible exact AH.set_same _ _ _))); done))) | (apply Exists.intro; apply And.intro; first | (with_reducible assumption) | ((try simp only [List.getElem?_drop, Nat.mul_one, Nat.add_zero, Nat.zero_add]); first | (with_reducible assumption) | rfl)) | (apply And.intro; (first | rfl | (with_reducible assumption) | exact Nat.le_of_ble_eq_true rfl | omega | (simp <;> omega) | (focus (repeat' (first | (with_reducible assumption) | rfl | apply one_take | apply one_drop)); done))))) <;> (try (conv => whnf))
        exact ⟨i + 1, hilt, by omega, ⟨congrArg (AV.int .i64) (by omega), congrArg (AV.int .i64) htk.symm, trivial⟩, HLe.refl _⟩
      · have hte : (es.take i).map (costE (ofL o)) = es.map (costE (ofL o)) := by rw [List.take_of_length_le (by omega)]
        have hsE := sum_bd (l := es.map (costE (ofL o))) (b := 140741783257088) (fun z hz => by
          obtain ⟨y, hy, rfl⟩ := List.mem_map.1 hz
          exact costE_bd hb (hE y hy))
        rw [List.length_map] at hsE
        rw [hte]
        unfold costP
        generalize hSE : (es.map (costE (ofL o))).sum = S at *
        (repeat' ((conv => whnf); first | refine Then.mk ?_ | refine OpsA.cons ?_ | refine OpsA.nil ?_ | refine AWq.seq ?_ | refine AWq.region ?_ | refine AWq.cond ?_ | refine AWq.block ?_ | refine AWq.skip ?_ | refine AWq.ret ?_ | refine AWq.exit ?_ | refine AWq.loop ?_ | refine DrawA.consD ?_ | refine DrawA.nil ?_ | refine AWq.draw (by decide +kernel) ?_ | (refine Both.mk ?_ ?_ <;> intro hc <;> (first | exact Bool.noConfusion hc | exact absurd (by with_reducible rfl) hc | exact absurd (by assumption) hc | (exfalso; omega) | skip)) | (intro c hc; (try (simp only [AH.none_iff] at hc; repeat (have hn := hc.1; replace hc := hc.2))); (first | (refine i64_k hc ?_ ?_ ?_ ; omega; omega; (clear hc; intro hc; subst hc)) | skip)) | (apply Exists.intro; apply And.intro; (first | (focus (repeat (first | (with_reducible assumption) | (with_reducible exact AH.set_same _ _ _))); done))) | (apply Exists.intro; apply And.intro; first | (with_reducible assumption) | ((try simp only [List.getElem?_drop, Nat.mul_one, Nat.add_zero, Nat.zero_add]); first | (with_reducible assumption) | rfl)) | (apply And.intro; (first | rfl | (with_reducible assumption) | exact Nat.le_of_ble_eq_true rfl | omega | (simp <;> omega) | (focus (repeat' (first | (with_reducible assumption) | rfl | apply one_take | apply one_drop)); done))))) <;> (try (conv => whnf))
        refine AWp_loop (σ := Nat) (11 :: 14 :: 15 :: 67 :: 68 :: 69 :: 70 :: 71 :: 72 :: 73 :: 74 :: 75 :: 76 :: 77 :: 78 :: 79 :: 80 :: 81 :: 82 :: 83 :: 84 :: 85 :: 86 :: 87 :: 88 :: 89 :: 90 :: []) (fun j => [(14, .int .i64 j), (11, .int .i64 (S + ((fs.take j).map (costF (ofL o))).sum))]) (fun j => H) (fun j => j ≤ fs.length) (fun j => fs.length - j) 0 rfl (Nat.zero_le _) ⟨rfl, congrArg (AV.int .i64) (by simp), trivial⟩ (HLe.refl _) ?_
        intro j hj
        refine AWp.of tt_ok (dok _) rfl ?_
        dsimp only at hj ⊢
        by_cases hjlt : j < fs.length
        · obtain ⟨x, hx⟩ : ∃ x, fs[j]? = some x := ⟨_, List.getElem?_eq_getElem hjlt⟩
          have hvx := hF x (List.mem_of_getElem? hx)
          have hcb := costF_bd hb hvx
          obtain ⟨v1, v4, v5⟩ := hvx
          have hsb := sum_bd (l := (fs.take j).map (costF (ofL o))) (b := 140741783257088) (fun z hz => by
            obtain ⟨y, hy, rfl⟩ := List.mem_map.1 hz
            exact costF_bd hb (hF y (List.mem_of_mem_take hy)))
          have hlt : (((fs.take j).map (costF (ofL o))).length : Int) ≤ 8192 := by rw [List.length_map, List.length_take]; omega
          have htk : ((fs.take (j + 1)).map (costF (ofL o))).sum = ((fs.take j).map (costF (ofL o))).sum + costF (ofL o) x := by rw [take_snoc hx]; simp
          generalize ((fs.take j).map (costF (ofL o))).sum = s at *
          have ga : (iS .i64 o)[x.a.toNat]? = some (.int .i64 (ofL o x.a.toNat)) := iS_get (by omega)
          have hca := hb _ (getD_mem (i := x.a.toNat) (l := o) (by omega))
          have hab := fun H => rabs_c (ofL o x.a.toNat - x.v) (by unfold ofL; omega) H
          have hzb := absI_bd (z := ofL o x.a.toNat - x.v) (b := 2147549183) (by unfold ofL; omega)
          have hme : costF (ofL o) x = x.w * absI (ofL o x.a.toNat - x.v) := rfl
          rw [hme] at hcb htk
          have hca : -1073741824 ≤ ofL o x.a.toNat ∧ ofL o x.a.toNat ≤ 1073741824 := hca
          generalize ofL o x.a.toNat = oa at *
          generalize absI (oa - x.v) = z at *
          (iterate 3 ((repeat' ((conv => whnf); first | refine OpsA.cons ?_ | refine OpsA.nil ?_ | refine AWq.seq ?_ | refine AWq.region ?_ | refine AWq.cond ?_ | refine AWq.block ?_ | refine AWq.skip ?_ | refine AWq.ret ?_ | refine AWq.exit ?_ | refine AWq.loop ?_ | refine DrawA.consD ?_ | refine DrawA.nil ?_ | refine AWq.draw (by decide +kernel) ?_ | (refine Both.mk ?_ ?_ <;> intro hc <;> (first | exact Bool.noConfusion hc | exact absurd (by with_reducible rfl) hc | exact absurd (by assumption) hc | (exfalso; omega) | skip)) | (intro c hc; (try (simp only [AH.none_iff] at hc; repeat (have hn := hc.1; replace hc := hc.2))); (first | (refine i64_k hc ?_ ?_ ?_ ; omega; omega; (clear hc; intro hc; subst hc)) | skip)) | (apply Exists.intro; apply And.intro; (first | (focus (repeat (first | (with_reducible assumption) | (with_reducible exact AH.set_same _ _ _))); done))) | (apply Exists.intro; apply And.intro; first | (with_reducible assumption) | ((try simp only [List.getElem?_drop, Nat.mul_one, Nat.add_zero, Nat.zero_add]); first | (with_reducible assumption) | rfl)) | (apply And.intro; (first | rfl | (with_reducible assumption) | exact Nat.le_of_ble_eq_true rfl | omega | (simp <;> omega) | (focus (repeat' (first | (with_reducible assumption) | rfl | apply one_take | apply one_drop)); done))))) <;> (try (conv => whnf)); refine Then.mk ?_))
          refine AWq.in ?_
          refine AWp_segP 15 (fxA x) rfl rfl (by (first | assumption | (simp only [AH.none_iff]; (repeat' (first | assumption | (refine And.intro ?_ ?_)))))) (fxL_seg hx) rfl ?_
          refine AWp.of tt_ok (dok _) rfl ?_
          (repeat' ((conv => whnf); first | refine Then.mk ?_ | refine OpsA.cons ?_ | refine OpsA.nil ?_ | refine AWq.seq ?_ | refine AWq.region ?_ | refine AWq.cond ?_ | refine AWq.block ?_ | refine AWq.skip ?_ | refine AWq.ret ?_ | refine AWq.exit ?_ | refine AWq.loop ?_ | refine DrawA.consD ?_ | refine DrawA.nil ?_ | refine AWq.draw (by decide +kernel) ?_ | (apply Exists.intro; apply And.intro; exact hab _) | (refine Both.mk ?_ ?_ <;> intro hc <;> (first | exact Bool.noConfusion hc | exact absurd (by with_reducible rfl) hc | exact absurd (by assumption) hc | (exfalso; omega) | skip)) | (intro c hc; (try (simp only [AH.none_iff] at hc; repeat (have hn := hc.1; replace hc := hc.2))); (first | (refine i64_k hc ?_ ?_ ?_ ; omega; omega; (clear hc; intro hc; subst hc)) | skip)) | (apply Exists.intro; apply And.intro; (first | (focus (repeat (first | (with_reducible assumption) | (with_reducible exact AH.set_same _ _ _))); done))) | (apply Exists.intro; apply And.intro; first | (with_reducible assumption) | ((try simp only [List.getElem?_drop, Nat.mul_one, Nat.add_zero, Nat.zero_add]); first | (with_reducible assumption) | rfl)) | (apply And.intro; (first | rfl | (with_reducible assumption) | exact Nat.le_of_ble_eq_true rfl | omega | (simp <;> omega) | (focus (repeat' (first | (with_reducible assumption) | rfl | apply one_take | apply one_drop)); done))))) <;> (try (conv => whnf))
          exact ⟨j + 1, hjlt, by omega, ⟨congrArg (AV.int .i64) (by omega), congrArg (AV.int .i64) (by rw [htk]; omega), trivial⟩, HLe.refl _⟩
        · have hte2 : (fs.take j).map (costF (ofL o)) = fs.map (costF (ofL o)) := by rw [List.take_of_length_le (by omega)]
          rw [hte2]
          (repeat' ((conv => whnf); first | refine Then.mk ?_ | refine OpsA.cons ?_ | refine OpsA.nil ?_ | refine AWq.seq ?_ | refine AWq.region ?_ | refine AWq.cond ?_ | refine AWq.block ?_ | refine AWq.skip ?_ | refine AWq.ret ?_ | refine AWq.exit ?_ | refine AWq.loop ?_ | refine DrawA.consD ?_ | refine DrawA.nil ?_ | refine AWq.draw (by decide +kernel) ?_ | (refine Both.mk ?_ ?_ <;> intro hc <;> (first | exact Bool.noConfusion hc | exact absurd (by with_reducible rfl) hc | exact absurd (by assumption) hc | (exfalso; omega) | skip)) | (intro c hc; (try (simp only [AH.none_iff] at hc; repeat (have hn := hc.1; replace hc := hc.2))); (first | (refine i64_k hc ?_ ?_ ?_ ; omega; omega; (clear hc; intro hc; subst hc)) | skip)) | (apply Exists.intro; apply And.intro; (first | (focus (repeat (first | (with_reducible assumption) | (with_reducible exact AH.set_same _ _ _))); done))) | (apply Exists.intro; apply And.intro; first | (with_reducible assumption) | ((try simp only [List.getElem?_drop, Nat.mul_one, Nat.add_zero, Nat.zero_add]); first | (with_reducible assumption) | rfl)) | (apply And.intro; (first | rfl | (with_reducible assumption) | exact Nat.le_of_ble_eq_true rfl | omega | (simp <;> omega) | (focus (repeat' (first | (with_reducible assumption) | rfl | apply one_take | apply one_drop)); done))))) <;> (try (conv => whnf))
          exact HLe.refl _
  · rw [if_pos (by simpa using h0)]
    generalize validV o.length es fs = e at *
    refine ACall_of tt_ok (dok _) Try.func23 rfl (by decide) rfl ?_
    (repeat' ((conv => whnf); first | refine Then.mk ?_ | refine OpsA.cons ?_ | refine OpsA.nil ?_ | refine AWq.seq ?_ | refine AWq.region ?_ | refine AWq.cond ?_ | refine AWq.block ?_ | refine AWq.skip ?_ | refine AWq.ret ?_ | refine AWq.exit ?_ | refine AWq.loop ?_ | refine DrawA.consD ?_ | refine DrawA.nil ?_ | refine AWq.draw (by decide +kernel) ?_ | (refine Both.mk ?_ ?_ <;> intro hc <;> (first | exact Bool.noConfusion hc | exact absurd (by with_reducible rfl) hc | exact absurd (by assumption) hc | (exfalso; omega) | skip)) | (intro c hc; (try (simp only [AH.none_iff] at hc; repeat (have hn := hc.1; replace hc := hc.2))); (first | (refine i64_k hc ?_ ?_ ?_ ; omega; omega; (clear hc; intro hc; subst hc)) | skip)) | (apply Exists.intro; apply And.intro; (first | (focus (repeat (first | (with_reducible assumption) | (with_reducible exact AH.set_same _ _ _))); done))) | (apply Exists.intro; apply And.intro; first | (with_reducible assumption) | ((try simp only [List.getElem?_drop, Nat.mul_one, Nat.add_zero, Nat.zero_add]); first | (with_reducible assumption) | rfl)) | (apply And.intro; (first | rfl | (with_reducible assumption) | exact Nat.le_of_ble_eq_true rfl | omega | (simp <;> omega) | (focus (repeat' (first | (with_reducible assumption) | rfl | apply one_take | apply one_drop)); done))) | (refine ACall.to (hv _) ?_))) <;> (try (conv => whnf))
end Go.Proofs.Ytebflkgpbbjhnaa
/- The least cost over all small offsets (the reference's Best). -/
namespace Go.Proofs.Ytebflkgpbbjhnaa
open Go.Fw Go
set_option linter.unusedVariables false
set_option linter.unusedSimpArgs false

theorem alk_mem {A0 A : List Ac} (h : Alk A0 A) {x : Ac} (hx : x ∈ A) : ∃ y ∈ A0, y.a = x.a ∧ y.b = x.b ∧ y.d = x.d ∧ y.w = x.w := by
  obtain ⟨j, hj⟩ := List.mem_iff_getElem?.1 hx
  have hjl : j < A.length := by
    rcases Nat.lt_or_ge j A.length with h | h
    · exact h
    · rw [List.getElem?_eq_none h] at hj; cases hj
  rw [h.len] at hjl
  obtain ⟨y, hy⟩ : ∃ y, A0[j]? = some y := ⟨_, List.getElem?_eq_getElem hjl⟩
  obtain ⟨g, hg⟩ := (h j).1 y hy
  rw [hj] at hg
  cases hg
  exact ⟨y, List.mem_of_getElem? hy, rfl, rfl, rfl, rfl⟩
/-- How many nodes lie at or below a bound. -/
def below (d : Nat → Int) (n : Nat) (t : Int) : Nat := sumN (fun v => if d v ≤ t then 1 else 0) n
theorem below_le (d : Nat → Int) (t : Int) : ∀ n, below d n t ≤ n + 1
  | 0 => by
    show (if d 0 ≤ t then 1 else 0) ≤ 1
    split <;> omega
  | n + 1 => by
    have := below_le d t n
    show below d n t + (if d (n + 1) ≤ t then 1 else 0) ≤ n + 1 + 1
    split <;> omega
/-- The potentials of a greatest answer lie close together. -/
theorem near {n : Nat} {A : List Ac} {d : Nat → Int} {m : Nat} (hA : ∀ x ∈ A, x.a ≤ n ∧ x.b ≤ n ∧ -(m : Int) ≤ x.d ∧ x.d ≤ m) (hfe : Feas A d) (hup : ∀ v, v ≤ n → d v ≤ 0) (hmax : MaxP n A d) : ∀ v, v ≤ n → -((m : Int) * n) ≤ d v := by
  intro v hv
  by_cases hlow : -((m : Int) * n) ≤ d v
  · exact hlow
  exfalso
  have hgap : ∀ t : Int, t ≤ -1 → (∃ u, u ≤ n ∧ d u ≤ t) → ∃ u, u ≤ n ∧ t < d u ∧ d u ≤ t + m := by
    intro t ht ⟨u, hu, hut⟩
    by_cases he : ∃ u, u ≤ n ∧ t < d u ∧ d u ≤ t + m
    · exact he
    exfalso
    have hno : ∀ u, u ≤ n → d u ≤ t ∨ t + m < d u := fun u hu => by
      by_cases h1 : d u ≤ t
      · exact .inl h1
      · refine .inr ?_
        by_cases h2 : d u ≤ t + m
        · exact absurd ⟨u, hu, by omega, h2⟩ he
        · omega
    have hq := hmax (fun w => if d w ≤ t then d w + 1 else d w) ?_ ?_ u hu
    · try dsimp only at hq
      rw [if_pos hut] at hq
      omega
    · intro x hx
      obtain ⟨xa, xb, x1, x2⟩ := hA x hx
      obtain ⟨f1, f2⟩ := hfe x hx
      have na := hno _ xa
      have nb := hno _ xb
      try dsimp only
      refine ⟨fun hs => ?_, fun hs => ?_⟩
      · have := f1 hs
        split <;> split <;> omega
      · have := f2 hs
        split <;> split <;> omega
    · intro w hw
      try dsimp only
      have := hup w hw
      split <;> omega
  have hcnt : ∀ k : Nat, k ≤ n + 1 → k + 1 ≤ below d n (d v + (m : Int) * k) := by
    intro k
    induction k with
    | zero =>
      intro _
      have h1 : below d n (d v - 1) < below d n (d v + (m : Int) * (0 : Nat)) := by
        refine sumN_lt hv (fun u _ => ?_) ?_
        · split <;> split <;> omega
        · rw [if_neg (by omega), if_pos (by simp)]; omega
      omega
    | succ k ih =>
      intro hk
      have h0 := ih (by omega)
      have hmk : (m : Int) * k ≤ m * n := Int.mul_le_mul_of_nonneg_left (by omega) (by omega)
      have hmk0 : (0 : Int) ≤ (m : Int) * k := Int.mul_nonneg (by omega) (by omega)
      obtain ⟨u, hu, h1, h2⟩ := hgap (d v + (m : Int) * k) (by omega) ⟨v, hv, by omega⟩
      have he : d v + (m : Int) * ((k + 1 : Nat) : Int) = d v + (m : Int) * k + m := by
        rw [Int.natCast_add, Int.mul_add]; simp; omega
      have h3 : below d n (d v + (m : Int) * k) < below d n (d v + (m : Int) * ((k + 1 : Nat) : Int)) := by
        refine sumN_lt hu (fun w _ => ?_) ?_
        · rw [he]; split <;> split <;> omega
        · rw [he, if_neg (by omega), if_pos (by omega)]; omega
      omega
  have h1 := hcnt (n + 1) (Nat.le_refl _)
  have h2 := below_le d (d v + (m : Int) * ((n + 1 : Nat) : Int)) n
  omega
/-- The digit of a scene. -/
def dig (k j : Nat) : Int := ((k / 17 ^ j) % 17 : Nat) - 8
theorem dig_all : ∀ (n : Nat) (q : Nat → Int), (∀ j, j < n → -8 ≤ q j ∧ q j ≤ 8) → ∃ k, k < 17 ^ n ∧ ∀ j, j < n → dig k j = q j
  | 0, q, _ => ⟨0, by decide, fun j h => absurd h (Nat.not_lt_zero j)⟩
  | n + 1, q, h => by
    obtain ⟨k, hk, hd⟩ := dig_all n (fun j => q (j + 1)) (fun j hj => h (j + 1) (by omega))
    have h0 := h 0 (by omega)
    refine ⟨k * 17 + (q 0 + 8).toNat, ?_, fun j hj => ?_⟩
    · rw [Nat.pow_succ]
      have : (k + 1) * 17 ≤ 17 ^ n * 17 := Nat.mul_le_mul_right 17 hk
      omega
    · cases j with
      | zero =>
        show (((k * 17 + (q 0 + 8).toNat) / 17 ^ 0) % 17 : Nat) - (8 : Int) = q 0
        rw [Nat.pow_zero, Nat.div_one]
        omega
      | succ j =>
        rw [← hd j (by omega)]
        unfold dig
        rw [Nat.pow_succ', ← Nat.div_div_eq_div_mul]
        rw [show (k * 17 + (q 0 + 8).toNat) / 17 = k by omega]
theorem dig_rng (k j : Nat) : -8 ≤ dig k j ∧ dig k j ≤ 8 := by
  have := Nat.mod_lt (k / 17 ^ j) (show 0 < 17 by decide)
  unfold dig; omega
/-- The least cost among the first scenes. -/
def BestI (n : Nat) (es : List Ed) (fs : List Fx) (k : Nat) (b : Int) : Prop :=
  b ≤ 1152921504606846976 ∧ (∀ i, i < k → b ≤ costP es fs (ofL (fnL n (dig i)))) ∧ (b = 1152921504606846976 ∨ ∃ i, i < k ∧ b = costP es fs (ofL (fnL n (dig i))))
theorem BestI.step {n : Nat} {es : List Ed} {fs : List Fx} {k : Nat} {b : Int} (h : BestI n es fs k b) : BestI n es fs (k + 1) (min b (costP es fs (ofL (fnL n (dig k))))) := by
  obtain ⟨h0, h1, h2⟩ := h
  refine ⟨by omega, fun i hi => ?_, ?_⟩
  · by_cases e : i = k
    · rw [e]; omega
    · have := h1 i (by omega); omega
  · by_cases hle : b ≤ costP es fs (ofL (fnL n (dig k)))
    · rw [Int.min_eq_left hle]
      rcases h2 with h2 | ⟨i, hi, h2⟩
      · exact .inl h2
      · exact .inr ⟨i, by omega, h2⟩
    · exact .inr ⟨k, by omega, by omega⟩
end Go.Proofs.Ytebflkgpbbjhnaa
/- The walks of the reference: Best. -/
namespace Go.Proofs.Ytebflkgpbbjhnaa
open Go.Fw Go
set_option linter.unusedVariables false
set_option linter.unusedSimpArgs false

set_option maxHeartbeats 4000000 in
set_option maxRecDepth 8000 in
theorem best_c (n : Nat) (hn : n ≤ 3) (es : List Ed) (fs : List Fx) (hv : validV n es fs = 0) (H : AH) :
    ACall Try.prog 17 [.int .i64 n, .cs (edL es) es.length, .cs (fxL fs) fs.length] H (fun y H' => (∃ b, BestI n es fs (17 ^ n) b ∧ y = .int .i64 b) ∧ H' = H) := by
  obtain ⟨_, ⟨he, hf⟩, hE, hF⟩ := validV_ok hv
  have hco : ∀ k H, ACall Try.prog 23 [.cs (edL es) es.length, .cs (fxL fs) fs.length, .cs (iS .i64 (fnL n (dig k))) n] H (fun y H' => y = .tup [.int .i64 (costP es fs (ofL (fnL n (dig k)))), .int .i64 0] ∧ H' = H) := fun k H => by
    have h1 := rcost_c es fs (fnL n (dig k)) (by omega) (by omega) (by rw [fnL_len]; omega) H
    have h2 : costR es fs (fnL n (dig k)) = (costP es fs (ofL (fnL n (dig k))), 0) := by
      unfold costR
      rw [fnL_len, hv, if_neg (by simp), if_pos]
      intro x hx
      obtain ⟨j, _, rfl⟩ := List.mem_map.1 hx
      have := dig_rng k j
      omega
    rw [fnL_len, h2] at h1
    exact h1
  have hpow : 17 ^ n ≤ 4913 := by
    rcases (show n = 0 ∨ n = 1 ∨ n = 2 ∨ n = 3 by omega) with rfl | rfl | rfl | rfl <;> decide
  refine ACall_of tt_ok (dok _) Try.func17 rfl (by decide) rfl ?_
  (repeat' ((conv => whnf); first | refine Then.mk ?_ | left | refine OpsA.cons ?_ | refine OpsA.nil ?_ | refine AWq.seq ?_ | refine AWq.region ?_ | refine AWq.cond ?_ | refine AWq.block ?_ | refine AWq.skip ?_ | refine AWq.ret ?_ | refine AWq.exit ?_ | refine AWq.loop ?_ | (refine Both.mk ?_ ?_ <;> intro hc <;> (first | exact Bool.noConfusion hc | exact absurd hc (by assumption) | (exfalso; omega) | skip)) | (intro c hc; (try (simp only [AH.none_iff] at hc; repeat (have hn := hc.1; replace hc := hc.2))); (first | (have hc2 := Eq.trans hc (by with_reducible assumption); clear hc; subst hc2) | (refine i64_k hc ?_ ?_ ?_ ; omega; omega; (clear hc; intro hc; subst hc)) | subst hc | skip)) | (apply Exists.intro; apply And.intro; (first | (focus (repeat (first | (with_reducible assumption))); done))) | (apply And.intro; (first | rfl | (with_reducible assumption) | omega | (simp <;> omega))))) <;> (try (conv => whnf))
  refine AWp_loop (σ := Nat) (8 :: 9 :: 16 :: 17 :: 18 :: 19 :: 20 :: 21 :: 22 :: []) (fun j => [(9, .int .i64 j), (8, .int .i64 (17 ^ j : Nat))]) (fun _ => H) (fun j => j ≤ n) (fun j => n - j) 0 rfl (Nat.zero_le _) ⟨rfl, rfl, trivial⟩ (HLe.refl _) ?_
  intro j hj
  refine AWp.of tt_ok (dok _) rfl ?_
  dsimp only at hj ⊢
  by_cases hjl : j < n
  · have hp2 : 17 ^ (j + 1) ≤ 4913 := Nat.le_trans (Nat.pow_le_pow_right (by decide) hjl) hpow
    have hp3 : ((17 ^ j : Nat) : Int) * 17 = ((17 ^ (j + 1) : Nat) : Int) := by rw [Nat.pow_succ, Int.natCast_mul]; rfl
    have hp4 : 17 ^ (j + 1) = 17 ^ j * 17 := Nat.pow_succ 17 j
    (repeat' ((conv => whnf); first | refine Then.mk ?_ | left | refine OpsA.cons ?_ | refine OpsA.nil ?_ | refine AWq.seq ?_ | refine AWq.region ?_ | refine AWq.cond ?_ | refine AWq.block ?_ | refine AWq.skip ?_ | refine AWq.ret ?_ | refine AWq.exit ?_ | refine AWq.loop ?_ | (refine Both.mk ?_ ?_ <;> intro hc <;> (first | exact Bool.noConfusion hc | exact absurd hc (by assumption) | (exfalso; omega) | skip)) | (intro c hc; (try (simp only [AH.none_iff] at hc; repeat (have hn := hc.1; replace hc := hc.2))); (first | (have hc2 := Eq.trans hc (by with_reducible assumption); clear hc; subst hc2) | (refine i64_k hc ?_ ?_ ?_ ; omega; omega; (clear hc; intro hc; subst hc)) | subst hc | skip)) | (apply Exists.intro; apply And.intro; (first | (focus (repeat (first | (with_reducible assumption))); done))) | (apply And.intro; (first | rfl | (with_reducible assumption) | omega | (simp <;> omega))))) <;> (try (conv => whnf))
    exact ⟨j + 1, hjl, by omega, ⟨congrArg (AV.int .i64) (by omega), congrArg (AV.int .i64) (by omega), trivial⟩, HLe.refl _⟩
  · have hje : j = n := by omega
    subst hje
    obtain ⟨P, hP⟩ : ∃ P, P = 17 ^ j := ⟨_, rfl⟩
    rw [← hP] at hpow ⊢
    (repeat' ((conv => whnf); first | refine Then.mk ?_ | left | refine OpsA.cons ?_ | refine OpsA.nil ?_ | refine AWq.seq ?_ | refine AWq.region ?_ | refine AWq.cond ?_ | refine AWq.block ?_ | refine AWq.skip ?_ | refine AWq.ret ?_ | refine AWq.exit ?_ | refine AWq.loop ?_ | (refine Both.mk ?_ ?_ <;> intro hc <;> (first | exact Bool.noConfusion hc | exact absurd hc (by assumption) | (exfalso; omega) | skip)) | (intro c hc; (try (simp only [AH.none_iff] at hc; repeat (have hn := hc.1; replace hc := hc.2))); (first | (have hc2 := Eq.trans hc (by with_reducible assumption); clear hc; subst hc2) | (refine i64_k hc ?_ ?_ ?_ ; omega; omega; (clear hc; intro hc; subst hc)) | subst hc | skip)) | (apply Exists.intro; apply And.intro; (first | (focus (repeat (first | (with_reducible assumption))); done))) | (apply And.intro; (first | rfl | (with_reducible assumption) | omega | (simp <;> omega))))) <;> (try (conv => whnf))
    refine AWp_loop (σ := Nat × Int) (7 :: 10 :: 11 :: 12 :: 13 :: 14 :: 15 :: 23 :: 24 :: 25 :: 26 :: 27 :: 28 :: 29 :: 30 :: 31 :: 32 :: 33 :: 34 :: 35 :: 36 :: 37 :: 38 :: 39 :: 40 :: 41 :: 42 :: 43 :: 44 :: 45 :: 46 :: 47 :: 48 :: 49 :: 50 :: 51 :: []) (fun s => [(10, .int .i64 s.1), (7, .int .i64 s.2)]) (fun _ => H) (fun s => s.1 ≤ P ∧ BestI j es fs s.1 s.2) (fun s => P - s.1) (0, 1152921504606846976) rfl ⟨Nat.zero_le _, Int.le_refl _, fun i hi => absurd hi (Nat.not_lt_zero i), .inl rfl⟩ ⟨rfl, rfl, trivial⟩ (HLe.refl _) ?_
    rintro ⟨k, b⟩ ⟨hk, hb⟩
    dsimp only at hk hb ⊢
    refine AWp.of tt_ok (dok _) rfl ?_
    by_cases hkl : k < P
    · (iterate 3 ((repeat' ((conv => whnf); first | left | refine OpsA.cons ?_ | refine OpsA.nil ?_ | refine AWq.seq ?_ | refine AWq.region ?_ | refine AWq.cond ?_ | refine AWq.block ?_ | refine AWq.skip ?_ | refine AWq.ret ?_ | refine AWq.exit ?_ | refine AWq.loop ?_ | (refine Both.mk ?_ ?_ <;> intro hc <;> (first | exact Bool.noConfusion hc | exact absurd hc (by assumption) | (exfalso; omega) | skip)) | (intro c hc; (try (simp only [AH.none_iff] at hc; repeat (have hn := hc.1; replace hc := hc.2))); (first | (have hc2 := Eq.trans hc (by with_reducible assumption); clear hc; subst hc2) | (refine i64_k hc ?_ ?_ ?_ ; omega; omega; (clear hc; intro hc; subst hc)) | subst hc | skip)) | (apply Exists.intro; apply And.intro; (first | (focus (repeat (first | (with_reducible assumption))); done))) | (apply And.intro; (first | rfl | (with_reducible assumption) | omega | (simp <;> omega))))) <;> (try (conv => whnf)); refine Then.mk ?_))
      refine AWq.in ?_
      refine AWp_nilrow1 11 1 rfl rfl fun r1 hr1 => ?_
      refine AWp.of tt_ok (dok _) rfl ?_
      (repeat' ((conv => whnf); first | refine Then.mk ?_ | left | refine OpsA.cons ?_ | refine OpsA.nil ?_ | refine AWq.seq ?_ | refine AWq.region ?_ | refine AWq.cond ?_ | refine AWq.block ?_ | refine AWq.skip ?_ | refine AWq.ret ?_ | refine AWq.exit ?_ | refine AWq.loop ?_ | (refine Both.mk ?_ ?_ <;> intro hc <;> (first | exact Bool.noConfusion hc | exact absurd hc (by assumption) | (exfalso; omega) | skip)) | (intro c hc; (try (simp only [AH.none_iff] at hc; repeat (have hn := hc.1; replace hc := hc.2))); (first | (have hc2 := Eq.trans hc (by with_reducible assumption); clear hc; subst hc2) | (refine i64_k hc ?_ ?_ ?_ ; omega; omega; (clear hc; intro hc; subst hc)) | subst hc | skip)) | (apply Exists.intro; apply And.intro; (first | (focus (repeat (first | (with_reducible assumption))); done))) | (apply And.intro; (first | rfl | (with_reducible assumption) | omega | (simp <;> omega))))) <;> (try (conv => whnf))
      refine AWp_loop (σ := Nat) (11 :: 12 :: 13 :: 29 :: 30 :: 31 :: 32 :: 33 :: 34 :: 35 :: 36 :: 37 :: 38 :: 39 :: 40 :: 41 :: []) (fun i => [(13, .int .i64 i), (12, .int .i64 (k / 17 ^ i : Nat)), (11, .sl r1 i 1 0 i none)]) (fun i => H.set r1 (.row (iS .i64 (fnL i (dig k))) i)) (fun i => i ≤ j) (fun i => j - i) 0 rfl (Nat.zero_le _) ⟨rfl, congrArg (AV.int .i64) (by simp), rfl, trivial⟩ (HLe.refl _) ?_
      intro i hi
      refine AWp.of tt_ok (dok _) rfl ?_
      dsimp only at hi ⊢
      have hRl : (iS .i64 (fnL i (dig k))).length = i := by simp
      have hsn : iS .i64 (fnL (i + 1) (dig k)) = iS .i64 (fnL i (dig k)) ++ [.int .i64 (dig k i)] := by rw [fnL_snoc, ← iS_snoc]
      have hg1 : (H.set r1 (.row (iS .i64 (fnL i (dig k))) i)) r1 = some (.row (iS .i64 (fnL i (dig k))) i) := AH.set_same _ _ _
      by_cases hil : i < j
      · have hdg : dig k i = ((k / 17 ^ i) % 17 : Nat) - 8 := rfl
        have hdv : k / 17 ^ (i + 1) = k / 17 ^ i / 17 := by rw [Nat.pow_succ, Nat.div_div_eq_div_mul]
        rw [hdg] at hsn
        generalize iS .i64 (fnL i (dig k)) = R at *
        have hle : k / 17 ^ i ≤ k := Nat.div_le_self _ _
        generalize k / 17 ^ i = m at *
        have e1 : ((m : Int)).tmod 17 = ((m % 17 : Nat) : Int) := rfl
        have e2 : ((m : Int)).tdiv 17 = ((m / 17 : Nat) : Int) := rfl
        (repeat' ((conv => whnf); first | refine Then.mk ?_ | left | refine OpsA.cons ?_ | refine OpsA.nil ?_ | refine AWq.seq ?_ | refine AWq.region ?_ | refine AWq.cond ?_ | refine AWq.block ?_ | refine AWq.skip ?_ | refine AWq.ret ?_ | refine AWq.exit ?_ | refine AWq.loop ?_ | (refine Both.mk ?_ ?_ <;> intro hc <;> (first | exact Bool.noConfusion hc | exact absurd hc (by assumption) | (exfalso; omega) | skip)) | (intro c hc; (try (simp only [AH.none_iff] at hc; repeat (have hn := hc.1; replace hc := hc.2))); (first | (have hc2 := Eq.trans hc (by with_reducible assumption); clear hc; subst hc2) | (refine i64_k hc ?_ ?_ ?_ ; omega; omega; (clear hc; intro hc; subst hc)) | subst hc | skip)) | (apply Exists.intro; apply And.intro; (first | (focus (repeat (first | (with_reducible assumption))); done))) | (apply And.intro; (first | rfl | (with_reducible assumption) | omega | (simp <;> omega))))) <;> (try (conv => whnf))
        refine ⟨i + 1, hil, by omega, ⟨congrArg (AV.int .i64) (by omega), congrArg (AV.int .i64) (by rw [hdv]; exact e2), rfl, trivial⟩, HLe.of_eq ?_⟩
        rw [hsn]
        exact (AH.set_set _ _ _ _).symm
      · have hie : i = j := by omega
        subst hie
        have hco1 := fun H => hco k H
        have hst := hb.step
        generalize iS .i64 (fnL i (dig k)) = R at *
        generalize costP es fs (ofL (fnL i (dig k))) = cc at *
        (iterate 1 ((repeat' ((conv => whnf); first | left | refine OpsA.cons ?_ | refine OpsA.nil ?_ | refine AWq.seq ?_ | refine AWq.region ?_ | refine AWq.cond ?_ | refine AWq.block ?_ | refine AWq.skip ?_ | refine AWq.ret ?_ | refine AWq.exit ?_ | refine AWq.loop ?_ | (refine Both.mk ?_ ?_ <;> intro hc <;> (first | exact Bool.noConfusion hc | exact absurd hc (by assumption) | (exfalso; omega) | skip)) | (intro c hc; (try (simp only [AH.none_iff] at hc; repeat (have hn := hc.1; replace hc := hc.2))); (first | (have hc2 := Eq.trans hc (by with_reducible assumption); clear hc; subst hc2) | (refine i64_k hc ?_ ?_ ?_ ; omega; omega; (clear hc; intro hc; subst hc)) | subst hc | skip)) | (apply Exists.intro; apply And.intro; (first | (focus (repeat (first | (with_reducible assumption))); done))) | (apply And.intro; (first | rfl | (with_reducible assumption) | omega | (simp <;> omega))))) <;> (try (conv => whnf)); refine Then.mk ?_))
        refine AWq.in ?_
        refine AWp_freeze1 11 (r := r1) (v := i) (es := 1) (n := i) (lim := none) (cells := R) rfl rfl hg1 (by omega) ?_
        refine AWp_less H (HLe.del _ (HLe.fresh _ hr1) hr1) ?_
        refine AWp.of tt_ok (dok _) rfl ?_
        (repeat' ((conv => whnf); first | refine Then.mk ?_ | left | refine OpsA.cons ?_ | refine OpsA.nil ?_ | refine AWq.seq ?_ | refine AWq.region ?_ | refine AWq.cond ?_ | refine AWq.block ?_ | refine AWq.skip ?_ | refine AWq.ret ?_ | refine AWq.exit ?_ | refine AWq.loop ?_ | (refine Both.mk ?_ ?_ <;> intro hc <;> (first | exact Bool.noConfusion hc | exact absurd hc (by assumption) | (exfalso; omega) | skip)) | (intro c hc; (try (simp only [AH.none_iff] at hc; repeat (have hn := hc.1; replace hc := hc.2))); (first | (have hc2 := Eq.trans hc (by with_reducible assumption); clear hc; subst hc2) | (refine i64_k hc ?_ ?_ ?_ ; omega; omega; (clear hc; intro hc; subst hc)) | subst hc | skip)) | (apply Exists.intro; apply And.intro; (first | (focus (repeat (first | (with_reducible assumption))); done))) | (apply And.intro; (first | rfl | (with_reducible assumption) | omega | (simp <;> omega))) | (refine ACall.to (hco1 _) ?_))) <;> (try (conv => whnf))
        exact ⟨(k + 1, min b cc), ⟨hkl, hst⟩, by dsimp only; omega, ⟨congrArg (AV.int .i64) (by dsimp only; omega), rfl, trivial⟩, HLe.refl _⟩
    · have hke : k = P := by omega
      subst hke
      (repeat' ((conv => whnf); first | refine Then.mk ?_ | left | refine OpsA.cons ?_ | refine OpsA.nil ?_ | refine AWq.seq ?_ | refine AWq.region ?_ | refine AWq.cond ?_ | refine AWq.block ?_ | refine AWq.skip ?_ | refine AWq.ret ?_ | refine AWq.exit ?_ | refine AWq.loop ?_ | (refine Both.mk ?_ ?_ <;> intro hc <;> (first | exact Bool.noConfusion hc | exact absurd hc (by assumption) | (exfalso; omega) | skip)) | (intro c hc; (try (simp only [AH.none_iff] at hc; repeat (have hn := hc.1; replace hc := hc.2))); (first | (have hc2 := Eq.trans hc (by with_reducible assumption); clear hc; subst hc2) | (refine i64_k hc ?_ ?_ ?_ ; omega; omega; (clear hc; intro hc; subst hc)) | subst hc | skip)) | (apply Exists.intro; apply And.intro; (first | (focus (repeat (first | (with_reducible assumption))); done))) | (apply And.intro; (first | rfl | (with_reducible assumption) | omega | (simp <;> omega))))) <;> (try (conv => whnf))
end Go.Proofs.Ytebflkgpbbjhnaa
/- The walks of balance's reference: flows, Check. -/
namespace Go.Proofs.Ytebflkgpbbjhnaa
open Go.Fw Go
set_option linter.unusedVariables false
set_option linter.unusedSimpArgs false

structure FlowOk (n : Nat) (es : List Ed) (fs : List Fx) (E F : List Int) : Prop where
  l2 : E.length = es.length
  l3 : F.length = fs.length
  al : allW (net0 n es fs) (E ++ F)
  ne : ∀ v, v < n → netN (setFl (net0 n es fs) (E ++ F)) v = 0
theorem setFl_app : ∀ (A : List Ac) (L : List Int) (x : Ac) (f : Int), A.length = L.length → setFl (A ++ [x]) (L ++ [f]) = setFl A L ++ [⟨x.a, x.b, x.d, x.w, f⟩]
  | [], [], x, f, _ => rfl
  | [], _ :: _, x, f, h => by simp at h
  | _ :: _, [], x, f, h => by simp at h
  | y :: A, g :: L, x, f, h => by
    simp only [List.cons_append, setFl]
    rw [setFl_app A L x f (by simpa using h)]
theorem setFl_tk {A : List Ac} {L : List Int} {i : Nat} {x : Ac} (hx : A[i]? = some x) (hi : i < L.length) : setFl (A.take (i + 1)) (L.take (i + 1)) = setFl (A.take i) (L.take i) ++ [⟨x.a, x.b, x.d, x.w, L.getD i 0⟩] := by
  rw [take_snoc hx, getD_app hi]
  have : i < A.length := (List.getElem?_eq_some_iff.1 hx).1
  exact setFl_app _ _ _ _ (by rw [List.length_take, List.length_take]; omega)
theorem allW_tk {A : List Ac} {L : List Int} {i : Nat} (h : allW A (L.take i)) : allW (A.take i) (L.take i) := by
  intro j x hx hj
  rw [List.length_take] at hj
  refine h j x ?_ (by rw [List.length_take]; omega)
  rw [List.getElem?_take_of_lt (by omega)] at hx
  exact hx
set_option maxHeartbeats 4000000 in
set_option maxRecDepth 8000 in
theorem flows_c (n : Nat) (es : List Ed) (fs : List Fx) (hv : validV n es fs = 0) (E F : List Int) (hE' : E.length ≤ 1000000) (hF' : F.length ≤ 1000000) (H : AH) :
    ACall Try.prog 43 [.int .i64 n, .cs (edL es) es.length, .cs (fxL fs) fs.length, .cs (iS .i64 E) E.length, .cs (iS .i64 F) F.length] H (fun y H' => ∃ (v : Int) (b : Bool), (b = true ↔ FlowOk n es fs E F) ∧ (b = true → v = valF (net0 n es fs) (E ++ F)) ∧ y = .tup [.int .i64 v, .bool b] ∧ H' = H) := by
  obtain ⟨⟨_, hn64⟩, ⟨he, hf⟩, hE, hF⟩ := validV_ok hv
  have hJ0 := net0_ok hE hF
  have hlen0 : (net0 n es fs).length = es.length + fs.length := by unfold net0; simp
  refine ACall.told ?_
  by_cases hl : E.length = es.length ∧ F.length = fs.length
  · obtain ⟨l2, l3⟩ := hl
    obtain ⟨L, hL⟩ : ∃ L, L = E ++ F := ⟨_, rfl⟩
    have hLl : L.length = es.length + fs.length := by rw [hL, List.length_append]; omega
    rw [← hL]
    have hEL : ∀ i, i < es.length → L.getD i 0 = E.getD i 0 := fun i hi => by
      rw [hL, List.getD_eq_getElem?_getD, List.getElem?_append_left (by omega), ← List.getD_eq_getElem?_getD]
    have hFL : ∀ j, j < fs.length → L.getD (es.length + j) 0 = F.getD j 0 := fun j hj => by
      rw [hL, List.getD_eq_getElem?_getD, List.getElem?_append_right (by omega), ← List.getD_eq_getElem?_getD, l2, Nat.add_sub_cancel_left]
    have hAE : ∀ i x, es[i]? = some x → (net0 n es fs)[i]? = some (edAc x) := fun i x hx => by
      unfold net0
      have : i < es.length := (List.getElem?_eq_some_iff.1 hx).1
      rw [List.getElem?_append_left (by rw [List.length_map]; omega), List.getElem?_map, hx]; rfl
    have hAF : ∀ j x, fs[j]? = some x → (net0 n es fs)[es.length + j]? = some (fxAc n x) := fun j x hx => by
      unfold net0
      rw [List.getElem?_append_right (by rw [List.length_map]; omega), List.length_map, Nat.add_sub_cancel_left, List.getElem?_map, hx]; rfl
    have hFO : FlowOk n es fs E F ↔ allW (net0 n es fs) L ∧ ∀ v, v < n → netN (setFl (net0 n es fs) L) v = 0 := by
      rw [hL]
      exact ⟨fun k => ⟨k.al, k.ne⟩, fun k => ⟨l2, l3, k.1, k.2⟩⟩
    have hno : ∀ i x, (net0 n es fs)[i]? = some x → i < L.length → ¬ inW x (L.getD i 0) → ¬ FlowOk n es fs E F := fun i x hx hi hw k => hw ((hFO.1 k).1 i x hx hi)
    have hAd : ∀ x ∈ net0 n es fs, (-65535 ≤ x.d ∧ x.d ≤ 65535) ∧ x.w ≤ 65536 := fun x hx => by
      obtain ⟨xa, xb, d1, d2, w1, w2, f1, f2⟩ := hJ0.ok x hx
      exact ⟨⟨d1, d2⟩, w2⟩
    generalize hA0 : net0 n es fs = A0 at *
    obtain ⟨RE, hRE⟩ : ∃ R, R = iS .i64 E := ⟨_, rfl⟩
    obtain ⟨RF, hRF⟩ : ∃ R, R = iS .i64 F := ⟨_, rfl⟩
    have hRel : RE.length = E.length := by rw [hRE]; simp
    have hRfl : RF.length = F.length := by rw [hRF]; simp
    have hel := edL_len es
    have hfl := fxL_len fs
    rw [← hRE, ← hRF]
    refine ACall_of tt_ok (dok _) Try.func43 rfl (by decide) rfl ?_
    (repeat' ((conv => whnf); first | refine Then.mk ?_ | refine OpsA.cons ?_ | refine OpsA.nil ?_ | refine AWq.seq ?_ | refine AWq.region ?_ | refine AWq.cond ?_ | refine AWq.block ?_ | refine AWq.skip ?_ | refine AWq.ret ?_ | refine AWq.exit ?_ | refine AWq.loop ?_ | refine DrawA.consD ?_ | refine DrawA.nil ?_ | refine AWq.draw (by decide +kernel) ?_ | (refine Both.mk ?_ ?_ <;> intro hc <;> (first | exact Bool.noConfusion hc | exact absurd (by assumption) hc | (exfalso; omega) | skip)) | (intro c hc; (try (simp only [AH.none_iff] at hc; repeat (have hn := hc.1; replace hc := hc.2))); (first | (refine i64_k hc ?_ ?_ ?_ ; omega; omega; (clear hc; intro hc; subst hc)) | skip)) | (apply Exists.intro; apply And.intro; (first | (focus (repeat (first | (with_reducible assumption) | (with_reducible exact AH.set_same _ _ _))); done))) | (apply Exists.intro; apply And.intro; first | (with_reducible assumption) | ((try simp only [List.getElem?_drop, Nat.mul_one, Nat.add_zero, Nat.zero_add]); first | (with_reducible assumption) | rfl)) | (apply And.intro; (first | rfl | (with_reducible assumption) | exact Nat.le_of_ble_eq_true rfl | omega | (simp <;> omega))))) <;> (try (conv => whnf))
    (obtain ⟨r, hq_⟩ : ∃ r, r = c := ⟨_, rfl⟩); subst hq_
    have hr : H r = none := hc
    refine AWp_loop (σ := Nat) (10 :: 11 :: 13 :: 14 :: 15 :: 33 :: 34 :: 35 :: 36 :: 37 :: 38 :: 39 :: 40 :: 41 :: 42 :: 43 :: 44 :: 45 :: 46 :: 47 :: 48 :: 49 :: 50 :: 51 :: 52 :: 53 :: 54 :: 55 :: 56 :: 57 :: 58 :: 59 :: 60 :: 61 :: 62 :: 63 :: 64 :: 65 :: 66 :: 67 :: 68 :: 69 :: 70 :: 71 :: 72 :: 73 :: 74 :: 75 :: 76 :: 77 :: 78 :: 79 :: 80 :: 81 :: 82 :: 83 :: 84 :: 85 :: 86 :: 87 :: 88 :: 89 :: 90 :: 91 :: 92 :: 93 :: 94 :: 95 :: 96 :: 97 :: 98 :: 99 :: 100 :: 101 :: 102 :: []) (fun i => [(14, .int .i64 i), (13, .int .i64 (valF A0 (L.take i)))]) (fun i => H.set r (.row (dL n (netN (setFl (A0.take i) (L.take i)))) 0)) (fun i => i ≤ es.length ∧ allW A0 (L.take i)) (fun i => es.length - i) 0 rfl ⟨Nat.zero_le _, fun j x _ hj => by simp at hj⟩ ⟨rfl, congrArg (AV.int .i64) (by cases A0 <;> rfl), trivial⟩ ?_ ?_
    · refine HLe.of_eq (congrArg (fun l => H.set r (.row l 0)) ?_)
      rw [Int.toNat_natCast, dL_zero]; rfl
    rintro i ⟨hi, hall⟩
    refine AWp.of tt_ok (dok _) rfl ?_
    dsimp only at hi ⊢
    by_cases hilt : i < es.length
    · obtain ⟨x, hx⟩ : ∃ x, es[i]? = some x := ⟨_, List.getElem?_eq_getElem hilt⟩
      obtain ⟨v1, v2, v3, v4, v5⟩ := hE x (List.mem_of_getElem? hx)
      have hxA := hAE i x hx
      have g0 : (edL es)[(i : Int).toNat * 4]? = some (.int .i64 x.a) := edL_get hx 0 (by decide)
      have g1 : (edL es)[(i : Int).toNat * 4 + 1]? = some (.int .i64 x.b) := edL_get hx 1 (by decide)
      have g2 : (edL es)[(i : Int).toNat * 4 + 2]? = some (.int .i64 x.d) := edL_get hx 2 (by decide)
      have g3 : (edL es)[(i : Int).toNat * 4 + 3]? = some (.int .i64 x.w) := edL_get hx 3 (by decide)
      have gf : RE[(i : Int).toNat]? = some (.int .i64 (L.getD i 0)) := by rw [hRE, hEL i hilt]; exact iS_get (by omega)
      have hbd := netN_bd (setFl_ok (A := A0.take i) (L := L.take i) (fun y hy => hJ0.ok y (List.mem_of_mem_take hy)) (allW_tk hall))
      have hle : ((setFl (A0.take i) (L.take i)).length : Int) ≤ 16384 := by rw [setFl_len, List.length_take]; omega
      have hvb := valF_bd A0 (L.take i) hAd hall
      have htl : ((L.take i).length : Int) ≤ 16384 := by rw [List.length_take]; omega
      have htli : (L.take i).length = i := by rw [List.length_take]; omega
      have hvn := valF_snoc A0 (L.take i) (edAc x) (L.getD i 0) (by rw [htli]; exact hxA)
      have hwn : inW (edAc x) (L.getD i 0) → allW A0 (L.take i ++ [L.getD i 0]) := allW_snoc (by rw [htli]; exact hxA) hall
      rw [← getD_app (by omega)] at hvn hwn
      have hnx : ∀ v, netN (setFl (A0.take (i + 1)) (L.take (i + 1))) v = netN (setFl (A0.take i) (L.take i)) v + ((if x.a.toNat = v then L.getD i 0 else 0) - (if x.b.toNat = v then L.getD i 0 else 0)) := fun v => by
        rw [setFl_tk hxA (by omega), netN_snoc]; rfl
      have hnoi := hno i (edAc x) hxA (by omega)
      generalize L.getD i 0 = f at *
      generalize valF A0 (L.take i) = vv at *
      generalize hN1 : netN (setFl (A0.take (i + 1)) (L.take (i + 1))) = N1 at *
      generalize netN (setFl (A0.take i) (L.take i)) = N at *
      have hinI : inW (edAc x) f ↔ (-x.w ≤ f ∧ f ≤ x.w) := Iff.rfl
      by_cases hin : -x.w ≤ f ∧ f ≤ x.w
      · have hw := fun H => rwithin_c f x.w (by omega) true (decide_eq_true hin) H
        have key : -4294967296 ≤ f * x.d ∧ f * x.d ≤ 4294967296 := by
          have a1 : (65536 - f) * (65535 - x.d) ≥ 0 := Int.mul_nonneg (by omega) (by omega)
          have a2 : (65536 + f) * (65535 + x.d) ≥ 0 := Int.mul_nonneg (by omega) (by omega)
          have a3 : (65536 - f) * (65535 + x.d) ≥ 0 := Int.mul_nonneg (by omega) (by omega)
          have a4 : (65536 + f) * (65535 - x.d) ≥ 0 := Int.mul_nonneg (by omega) (by omega)
          simp only [Int.sub_mul, Int.add_mul, Int.mul_sub, Int.mul_add] at a1 a2 a3 a4
          omega
        have hnm : x.a.toNat ≠ x.b.toNat := by omega
        have b1 := hbd x.a.toNat
        have b2 := hbd x.b.toNat
        have gA : (dL n N)[x.a.toNat]? = some (.int .i64 (N x.a.toNat)) := dL_get N (by omega)
        have gB : (dL n (putD N x.a.toNat (N x.a.toNat + f)))[x.b.toNat]? = some (.int .i64 (N x.b.toNat)) := by
          rw [dL_get _ (by omega)]; unfold putD; rw [if_neg (Ne.symm hnm)]
        have hw1 : wrA (dL n N) (0 + x.a.toNat * 1) [.int .i64 (N x.a.toNat + f)] = dL n (putD N x.a.toNat (N x.a.toNat + f)) := by
          rw [Nat.zero_add, Nat.mul_one]; exact dL_wr N (by omega) _
        have hw2 : wrA (dL n (putD N x.a.toNat (N x.a.toNat + f))) (0 + x.b.toNat * 1) [.int .i64 (N x.b.toNat - f)] = dL n N1 := by
          rw [Nat.zero_add, Nat.mul_one, dL_wr _ (by omega)]
          refine dL_congr fun v hv => ?_
          rw [hnx v]
          unfold putD
          by_cases e1 : v = x.b.toNat
          · rw [if_pos e1, if_neg (by omega), if_pos e1.symm, e1]; omega
          · rw [if_neg e1, if_neg (Ne.symm e1)]
            by_cases e2 : v = x.a.toNat
            · rw [if_pos e2, if_pos e2.symm, e2]; omega
            · rw [if_neg e2, if_neg (Ne.symm e2)]; omega
        have hd1 := dL_len n N
        have hd2 := dL_len n (putD N x.a.toNat (N x.a.toNat + f))
        (iterate 2 ((repeat' ((conv => whnf); first | refine OpsA.cons ?_ | refine OpsA.nil ?_ | refine AWq.seq ?_ | refine AWq.region ?_ | refine AWq.cond ?_ | refine AWq.block ?_ | refine AWq.skip ?_ | refine AWq.ret ?_ | refine AWq.exit ?_ | refine AWq.loop ?_ | refine DrawA.consD ?_ | refine DrawA.nil ?_ | refine AWq.draw (by decide +kernel) ?_ | (refine Both.mk ?_ ?_ <;> intro hc <;> (first | exact Bool.noConfusion hc | exact absurd (by assumption) hc | (exfalso; omega) | skip)) | (intro c hc; (try (simp only [AH.none_iff] at hc; repeat (have hn := hc.1; replace hc := hc.2))); (first | (refine i64_k hc ?_ ?_ ?_ ; omega; omega; (clear hc; intro hc; subst hc)) | skip)) | (apply Exists.intro; apply And.intro; (first | (focus (repeat (first | (with_reducible assumption) | (with_reducible exact AH.set_same _ _ _))); done))) | (apply Exists.intro; apply And.intro; first | (with_reducible assumption) | ((try simp only [List.getElem?_drop, Nat.mul_one, Nat.add_zero, Nat.zero_add]); first | (with_reducible assumption) | rfl)) | (apply And.intro; (first | rfl | (with_reducible assumption) | exact Nat.le_of_ble_eq_true rfl | omega | (simp <;> omega))))) <;> (try (conv => whnf)); refine Then.mk ?_))
        (repeat' ((conv => whnf); first | refine OpsA.cons ?_ | refine OpsA.nil ?_ | refine AWq.seq ?_ | refine AWq.region ?_ | refine AWq.cond ?_ | refine AWq.block ?_ | refine AWq.skip ?_ | refine AWq.ret ?_ | refine AWq.exit ?_ | refine AWq.loop ?_ | refine DrawA.consD ?_ | refine DrawA.nil ?_ | refine AWq.draw (by decide +kernel) ?_ | (apply Exists.intro; apply And.intro; exact hw _) | (refine Both.mk ?_ ?_ <;> intro hc <;> (first | exact Bool.noConfusion hc | exact absurd (by assumption) hc | (exfalso; omega) | skip)) | (intro c hc; (try (simp only [AH.none_iff] at hc; repeat (have hn := hc.1; replace hc := hc.2))); (first | (refine i64_k hc ?_ ?_ ?_ ; omega; omega; (clear hc; intro hc; subst hc)) | skip)) | (apply Exists.intro; apply And.intro; (first | (focus (repeat (first | (with_reducible assumption) | (with_reducible exact AH.set_same _ _ _))); done))) | (apply Exists.intro; apply And.intro; first | (with_reducible assumption) | ((try simp only [List.getElem?_drop, Nat.mul_one, Nat.add_zero, Nat.zero_add]); first | (with_reducible assumption) | rfl)) | (apply And.intro; (first | rfl | (with_reducible assumption) | exact Nat.le_of_ble_eq_true rfl | omega | (simp <;> omega))))) <;> (try (conv => whnf))
        refine Then.mk ?_
        (iterate 2 ((repeat' ((conv => whnf); first | refine OpsA.cons ?_ | refine OpsA.nil ?_ | refine AWq.seq ?_ | refine AWq.region ?_ | refine AWq.cond ?_ | refine AWq.block ?_ | refine AWq.skip ?_ | refine AWq.ret ?_ | refine AWq.exit ?_ | refine AWq.loop ?_ | refine DrawA.consD ?_ | refine DrawA.nil ?_ | refine AWq.draw (by decide +kernel) ?_ | (refine Both.mk ?_ ?_ <;> intro hc <;> (first | exact Bool.noConfusion hc | exact absurd (by assumption) hc | (exfalso; omega) | skip)) | (intro c hc; (try (simp only [AH.none_iff] at hc; repeat (have hn := hc.1; replace hc := hc.2))); (first | (refine i64_k hc ?_ ?_ ?_ ; omega; omega; (clear hc; intro hc; subst hc)) | skip)) | (apply Exists.intro; apply And.intro; (first | (focus (repeat (first | (with_reducible assumption) | (with_reducible exact AH.set_same _ _ _))); done))) | (apply Exists.intro; apply And.intro; first | (with_reducible assumption) | ((try simp only [List.getElem?_drop, Nat.mul_one, Nat.add_zero, Nat.zero_add]); first | (with_reducible assumption) | rfl)) | (apply And.intro; (first | rfl | (with_reducible assumption) | exact Nat.le_of_ble_eq_true rfl | omega | (simp <;> omega))))) <;> (try (conv => whnf)); refine Then.mk ?_))
        (repeat' ((conv => whnf); first | refine OpsA.cons ?_ | refine OpsA.nil ?_ | refine AWq.seq ?_ | refine AWq.region ?_ | refine AWq.cond ?_ | refine AWq.block ?_ | refine AWq.skip ?_ | refine AWq.ret ?_ | refine AWq.exit ?_ | refine AWq.loop ?_ | refine DrawA.consD ?_ | refine DrawA.nil ?_ | refine AWq.draw (by decide +kernel) ?_ | (refine Both.mk ?_ ?_ <;> intro hc <;> (first | exact Bool.noConfusion hc | exact absurd (by assumption) hc | (exfalso; omega) | skip)) | (intro c hc; (try (simp only [AH.none_iff] at hc; repeat (have hn := hc.1; replace hc := hc.2))); (first | (refine i64_k hc ?_ ?_ ?_ ; omega; omega; (clear hc; intro hc; subst hc)) | skip)) | (apply Exists.intro; apply And.intro; (first | (focus (repeat (first | (with_reducible assumption) | (with_reducible exact AH.set_same _ _ _))); done))) | (apply Exists.intro; apply And.intro; first | (with_reducible assumption) | ((try simp only [List.getElem?_drop, Nat.mul_one, Nat.add_zero, Nat.zero_add]); first | (with_reducible assumption) | rfl)) | (apply And.intro; (first | rfl | (with_reducible assumption) | exact Nat.le_of_ble_eq_true rfl | omega | (simp <;> omega))))) <;> (try (conv => whnf))
        refine Then.mk (AWq.in ?_)
        refine AWp_less (H.set r (.row (dL n (putD N x.a.toNat (N x.a.toNat + f))) 0)) (HLe.of_eq (by rw [← hw1]; exact (AH.set_set _ _ _ _).symm)) ?_
        refine AWp.of tt_ok (dok _) rfl ?_
        (repeat' ((conv => whnf); first | refine OpsA.cons ?_ | refine OpsA.nil ?_ | refine AWq.seq ?_ | refine AWq.region ?_ | refine AWq.cond ?_ | refine AWq.block ?_ | refine AWq.skip ?_ | refine AWq.ret ?_ | refine AWq.exit ?_ | refine AWq.loop ?_ | refine DrawA.consD ?_ | refine DrawA.nil ?_ | refine AWq.draw (by decide +kernel) ?_ | (refine Both.mk ?_ ?_ <;> intro hc <;> (first | exact Bool.noConfusion hc | exact absurd (by assumption) hc | (exfalso; omega) | skip)) | (intro c hc; (try (simp only [AH.none_iff] at hc; repeat (have hn := hc.1; replace hc := hc.2))); (first | (refine i64_k hc ?_ ?_ ?_ ; omega; omega; (clear hc; intro hc; subst hc)) | skip)) | (apply Exists.intro; apply And.intro; (first | (focus (repeat (first | (with_reducible assumption) | (with_reducible exact AH.set_same _ _ _))); done))) | (apply Exists.intro; apply And.intro; first | (with_reducible assumption) | ((try simp only [List.getElem?_drop, Nat.mul_one, Nat.add_zero, Nat.zero_add]); first | (with_reducible assumption) | rfl)) | (apply And.intro; (first | rfl | (with_reducible assumption) | exact Nat.le_of_ble_eq_true rfl | omega | (simp <;> omega))))) <;> (try (conv => whnf))
        refine Then.mk (AWq.in ?_)
        refine AWp_less (H.set r (.row (dL n N1) 0)) (HLe.of_eq (by rw [← hw2]; exact (AH.set_set _ _ _ _).symm)) ?_
        refine AWp.of tt_ok (dok _) rfl ?_
        (repeat' ((conv => whnf); first | refine Then.mk ?_ | refine OpsA.cons ?_ | refine OpsA.nil ?_ | refine AWq.seq ?_ | refine AWq.region ?_ | refine AWq.cond ?_ | refine AWq.block ?_ | refine AWq.skip ?_ | refine AWq.ret ?_ | refine AWq.exit ?_ | refine AWq.loop ?_ | refine DrawA.consD ?_ | refine DrawA.nil ?_ | refine AWq.draw (by decide +kernel) ?_ | (refine Both.mk ?_ ?_ <;> intro hc <;> (first | exact Bool.noConfusion hc | exact absurd (by assumption) hc | (exfalso; omega) | skip)) | (intro c hc; (try (simp only [AH.none_iff] at hc; repeat (have hn := hc.1; replace hc := hc.2))); (first | (refine i64_k hc ?_ ?_ ?_ ; omega; omega; (clear hc; intro hc; subst hc)) | skip)) | (apply Exists.intro; apply And.intro; (first | (focus (repeat (first | (with_reducible assumption) | (with_reducible exact AH.set_same _ _ _))); done))) | (apply Exists.intro; apply And.intro; first | (with_reducible assumption) | ((try simp only [List.getElem?_drop, Nat.mul_one, Nat.add_zero, Nat.zero_add]); first | (with_reducible assumption) | rfl)) | (apply And.intro; (first | rfl | (with_reducible assumption) | exact Nat.le_of_ble_eq_true rfl | omega | (simp <;> omega))))) <;> (try (conv => whnf))
        refine ⟨i + 1, ⟨hilt, hwn (hinI.2 hin)⟩, by omega, ⟨congrArg (AV.int .i64) (by omega), congrArg (AV.int .i64) ?_, trivial⟩, HLe.of_eq ?_⟩
        · rw [hvn]; rfl
        · rw [hN1]
      · have hw := fun H => rwithin_c f x.w (by omega) false (decide_eq_false hin) H
        have hbad := hnoi (fun k => hin (hinI.1 k))
        (repeat' ((conv => whnf); first | refine Then.mk ?_ | refine OpsA.cons ?_ | refine OpsA.nil ?_ | refine AWq.seq ?_ | refine AWq.region ?_ | refine AWq.cond ?_ | refine AWq.block ?_ | refine AWq.skip ?_ | refine AWq.ret ?_ | refine AWq.exit ?_ | refine AWq.loop ?_ | refine DrawA.consD ?_ | refine DrawA.nil ?_ | refine AWq.draw (by decide +kernel) ?_ | (apply Exists.intro; apply And.intro; exact hw _) | (refine Both.mk ?_ ?_ <;> intro hc <;> (first | exact Bool.noConfusion hc | exact absurd (by assumption) hc | (exfalso; omega) | skip)) | (intro c hc; (try (simp only [AH.none_iff] at hc; repeat (have hn := hc.1; replace hc := hc.2))); (first | (refine i64_k hc ?_ ?_ ?_ ; omega; omega; (clear hc; intro hc; subst hc)) | skip)) | (apply Exists.intro; apply And.intro; (first | (focus (repeat (first | (with_reducible assumption) | (with_reducible exact AH.set_same _ _ _))); done))) | (apply Exists.intro; apply And.intro; first | (with_reducible assumption) | ((try simp only [List.getElem?_drop, Nat.mul_one, Nat.add_zero, Nat.zero_add]); first | (with_reducible assumption) | rfl)) | (apply And.intro; (first | rfl | (with_reducible assumption) | exact Nat.le_of_ble_eq_true rfl | omega | (simp <;> omega))))) <;> (try (conv => whnf))
        exact ⟨_, H, AVle.refl _, HLe.fresh _ hr, 0, false, ⟨fun h => Bool.noConfusion h, fun h => absurd h hbad⟩, fun h => Bool.noConfusion h, rfl, rfl⟩
    · have hie : i = es.length := by omega
      subst hie
      (repeat' ((conv => whnf); first | refine Then.mk ?_ | refine OpsA.cons ?_ | refine OpsA.nil ?_ | refine AWq.seq ?_ | refine AWq.region ?_ | refine AWq.cond ?_ | refine AWq.block ?_ | refine AWq.skip ?_ | refine AWq.ret ?_ | refine AWq.exit ?_ | refine AWq.loop ?_ | refine DrawA.consD ?_ | refine DrawA.nil ?_ | refine AWq.draw (by decide +kernel) ?_ | (refine Both.mk ?_ ?_ <;> intro hc <;> (first | exact Bool.noConfusion hc | exact absurd (by assumption) hc | (exfalso; omega) | skip)) | (intro c hc; (try (simp only [AH.none_iff] at hc; repeat (have hn := hc.1; replace hc := hc.2))); (first | (refine i64_k hc ?_ ?_ ?_ ; omega; omega; (clear hc; intro hc; subst hc)) | skip)) | (apply Exists.intro; apply And.intro; (first | (focus (repeat (first | (with_reducible assumption) | (with_reducible exact AH.set_same _ _ _))); done))) | (apply Exists.intro; apply And.intro; first | (with_reducible assumption) | ((try simp only [List.getElem?_drop, Nat.mul_one, Nat.add_zero, Nat.zero_add]); first | (with_reducible assumption) | rfl)) | (apply And.intro; (first | rfl | (with_reducible assumption) | exact Nat.le_of_ble_eq_true rfl | omega | (simp <;> omega))))) <;> (try (conv => whnf))
      refine AWp_loop (σ := Nat) (10 :: 11 :: 13 :: 16 :: 17 :: 103 :: 104 :: 105 :: 106 :: 107 :: 108 :: 109 :: 110 :: 111 :: 112 :: 113 :: 114 :: 115 :: 116 :: 117 :: 118 :: 119 :: 120 :: 121 :: 122 :: 123 :: 124 :: 125 :: 126 :: 127 :: 128 :: 129 :: 130 :: 131 :: 132 :: 133 :: 134 :: 135 :: 136 :: 137 :: 138 :: 139 :: 140 :: 141 :: 142 :: 143 :: 144 :: 145 :: 146 :: 147 :: 148 :: 149 :: 150 :: 151 :: 152 :: []) (fun j => [(16, .int .i64 j), (13, .int .i64 (valF A0 (L.take (es.length + j))))]) (fun j => H.set r (.row (dL n (netN (setFl (A0.take (es.length + j)) (L.take (es.length + j))))) 0)) (fun j => j ≤ fs.length ∧ allW A0 (L.take (es.length + j))) (fun j => fs.length - j) 0 rfl ⟨Nat.zero_le _, hall⟩ ⟨rfl, rfl, trivial⟩ (HLe.refl _) ?_
      rintro j ⟨hj, hall⟩
      refine AWp.of tt_ok (dok _) rfl ?_
      dsimp only at hj ⊢
      by_cases hjlt : j < fs.length
      · obtain ⟨x, hx⟩ : ∃ x, fs[j]? = some x := ⟨_, List.getElem?_eq_getElem hjlt⟩
        obtain ⟨v1, v4, v5⟩ := hF x (List.mem_of_getElem? hx)
        have hxA := hAF j x hx
        have g0 : (fxL fs)[(j : Int).toNat * 3]? = some (.int .i64 x.a) := fxL_get hx 0 (by decide)
        have g1 : (fxL fs)[(j : Int).toNat * 3 + 1]? = some (.int .i64 x.v) := fxL_get hx 1 (by decide)
        have g2 : (fxL fs)[(j : Int).toNat * 3 + 2]? = some (.int .i64 x.w) := fxL_get hx 2 (by decide)
        have gf : RF[(j : Int).toNat]? = some (.int .i64 (L.getD (es.length + j) 0)) := by rw [hRF, hFL j hjlt]; exact iS_get (by omega)
        have hbd := netN_bd (setFl_ok (A := A0.take (es.length + j)) (L := L.take (es.length + j)) (fun y hy => hJ0.ok y (List.mem_of_mem_take hy)) (allW_tk hall))
        have hle : ((setFl (A0.take (es.length + j)) (L.take (es.length + j))).length : Int) ≤ 16384 := by rw [setFl_len, List.length_take]; omega
        have hvb := valF_bd A0 (L.take (es.length + j)) hAd hall
        have htl : ((L.take (es.length + j)).length : Int) ≤ 16384 := by rw [List.length_take]; omega
        have htli : (L.take (es.length + j)).length = es.length + j := by rw [List.length_take]; omega
        have hvn := valF_snoc A0 (L.take (es.length + j)) (fxAc n x) (L.getD (es.length + j) 0) (by rw [htli]; exact hxA)
        have hwn : inW (fxAc n x) (L.getD (es.length + j) 0) → allW A0 (L.take (es.length + j) ++ [L.getD (es.length + j) 0]) := allW_snoc (by rw [htli]; exact hxA) hall
        rw [← getD_app (by omega)] at hvn hwn
        have hnx : ∀ v, netN (setFl (A0.take (es.length + j + 1)) (L.take (es.length + j + 1))) v = netN (setFl (A0.take (es.length + j)) (L.take (es.length + j))) v + ((if x.a.toNat = v then L.getD (es.length + j) 0 else 0) - (if n = v then L.getD (es.length + j) 0 else 0)) := fun v => by
          rw [setFl_tk hxA (by omega), netN_snoc]; rfl
        have hnoi := hno (es.length + j) (fxAc n x) hxA (by omega)
        generalize L.getD (es.length + j) 0 = f at *
        generalize valF A0 (L.take (es.length + j)) = vv at *
        generalize hN1 : netN (setFl (A0.take (es.length + j + 1)) (L.take (es.length + j + 1))) = N1 at *
        generalize netN (setFl (A0.take (es.length + j)) (L.take (es.length + j))) = N at *
        have hinI : inW (fxAc n x) f ↔ (-x.w ≤ f ∧ f ≤ x.w) := Iff.rfl
        by_cases hin : -x.w ≤ f ∧ f ≤ x.w
        · have hw := fun H => rwithin_c f x.w (by omega) true (decide_eq_true hin) H
          have key : -4294967296 ≤ f * x.v ∧ f * x.v ≤ 4294967296 := by
            have a1 : (65536 - f) * (65535 - x.v) ≥ 0 := Int.mul_nonneg (by omega) (by omega)
            have a2 : (65536 + f) * (65535 + x.v) ≥ 0 := Int.mul_nonneg (by omega) (by omega)
            have a3 : (65536 - f) * (65535 + x.v) ≥ 0 := Int.mul_nonneg (by omega) (by omega)
            have a4 : (65536 + f) * (65535 - x.v) ≥ 0 := Int.mul_nonneg (by omega) (by omega)
            simp only [Int.sub_mul, Int.add_mul, Int.mul_sub, Int.mul_add] at a1 a2 a3 a4
            omega
          have b1 := hbd x.a.toNat
          have gA : (dL n N)[x.a.toNat]? = some (.int .i64 (N x.a.toNat)) := dL_get N (by omega)
          have hw1 : wrA (dL n N) (0 + x.a.toNat * 1) [.int .i64 (N x.a.toNat + f)] = dL n N1 := by
            rw [Nat.zero_add, Nat.mul_one, dL_wr _ (by omega)]
            refine dL_congr fun v hv => ?_
            rw [hnx v]
            unfold putD
            by_cases e2 : v = x.a.toNat
            · rw [if_pos e2, if_pos e2.symm, if_neg (by omega), e2]; omega
            · rw [if_neg e2, if_neg (Ne.symm e2), if_neg (by omega)]; omega
          have hd1 := dL_len n N
          (iterate 2 ((repeat' ((conv => whnf); first | refine OpsA.cons ?_ | refine OpsA.nil ?_ | refine AWq.seq ?_ | refine AWq.region ?_ | refine AWq.cond ?_ | refine AWq.block ?_ | refine AWq.skip ?_ | refine AWq.ret ?_ | refine AWq.exit ?_ | refine AWq.loop ?_ | refine DrawA.consD ?_ | refine DrawA.nil ?_ | refine AWq.draw (by decide +kernel) ?_ | (refine Both.mk ?_ ?_ <;> intro hc <;> (first | exact Bool.noConfusion hc | exact absurd (by assumption) hc | (exfalso; omega) | skip)) | (intro c hc; (try (simp only [AH.none_iff] at hc; repeat (have hn := hc.1; replace hc := hc.2))); (first | (refine i64_k hc ?_ ?_ ?_ ; omega; omega; (clear hc; intro hc; subst hc)) | skip)) | (apply Exists.intro; apply And.intro; (first | (focus (repeat (first | (with_reducible assumption) | (with_reducible exact AH.set_same _ _ _))); done))) | (apply Exists.intro; apply And.intro; first | (with_reducible assumption) | ((try simp only [List.getElem?_drop, Nat.mul_one, Nat.add_zero, Nat.zero_add]); first | (with_reducible assumption) | rfl)) | (apply And.intro; (first | rfl | (with_reducible assumption) | exact Nat.le_of_ble_eq_true rfl | omega | (simp <;> omega))))) <;> (try (conv => whnf)); refine Then.mk ?_))
          (repeat' ((conv => whnf); first | refine OpsA.cons ?_ | refine OpsA.nil ?_ | refine AWq.seq ?_ | refine AWq.region ?_ | refine AWq.cond ?_ | refine AWq.block ?_ | refine AWq.skip ?_ | refine AWq.ret ?_ | refine AWq.exit ?_ | refine AWq.loop ?_ | refine DrawA.consD ?_ | refine DrawA.nil ?_ | refine AWq.draw (by decide +kernel) ?_ | (apply Exists.intro; apply And.intro; exact hw _) | (refine Both.mk ?_ ?_ <;> intro hc <;> (first | exact Bool.noConfusion hc | exact absurd (by assumption) hc | (exfalso; omega) | skip)) | (intro c hc; (try (simp only [AH.none_iff] at hc; repeat (have hn := hc.1; replace hc := hc.2))); (first | (refine i64_k hc ?_ ?_ ?_ ; omega; omega; (clear hc; intro hc; subst hc)) | skip)) | (apply Exists.intro; apply And.intro; (first | (focus (repeat (first | (with_reducible assumption) | (with_reducible exact AH.set_same _ _ _))); done))) | (apply Exists.intro; apply And.intro; first | (with_reducible assumption) | ((try simp only [List.getElem?_drop, Nat.mul_one, Nat.add_zero, Nat.zero_add]); first | (with_reducible assumption) | rfl)) | (apply And.intro; (first | rfl | (with_reducible assumption) | exact Nat.le_of_ble_eq_true rfl | omega | (simp <;> omega))))) <;> (try (conv => whnf))
          refine Then.mk ?_
          (iterate 2 ((repeat' ((conv => whnf); first | refine OpsA.cons ?_ | refine OpsA.nil ?_ | refine AWq.seq ?_ | refine AWq.region ?_ | refine AWq.cond ?_ | refine AWq.block ?_ | refine AWq.skip ?_ | refine AWq.ret ?_ | refine AWq.exit ?_ | refine AWq.loop ?_ | refine DrawA.consD ?_ | refine DrawA.nil ?_ | refine AWq.draw (by decide +kernel) ?_ | (refine Both.mk ?_ ?_ <;> intro hc <;> (first | exact Bool.noConfusion hc | exact absurd (by assumption) hc | (exfalso; omega) | skip)) | (intro c hc; (try (simp only [AH.none_iff] at hc; repeat (have hn := hc.1; replace hc := hc.2))); (first | (refine i64_k hc ?_ ?_ ?_ ; omega; omega; (clear hc; intro hc; subst hc)) | skip)) | (apply Exists.intro; apply And.intro; (first | (focus (repeat (first | (with_reducible assumption) | (with_reducible exact AH.set_same _ _ _))); done))) | (apply Exists.intro; apply And.intro; first | (with_reducible assumption) | ((try simp only [List.getElem?_drop, Nat.mul_one, Nat.add_zero, Nat.zero_add]); first | (with_reducible assumption) | rfl)) | (apply And.intro; (first | rfl | (with_reducible assumption) | exact Nat.le_of_ble_eq_true rfl | omega | (simp <;> omega))))) <;> (try (conv => whnf)); refine Then.mk ?_))
          (repeat' ((conv => whnf); first | refine OpsA.cons ?_ | refine OpsA.nil ?_ | refine AWq.seq ?_ | refine AWq.region ?_ | refine AWq.cond ?_ | refine AWq.block ?_ | refine AWq.skip ?_ | refine AWq.ret ?_ | refine AWq.exit ?_ | refine AWq.loop ?_ | refine DrawA.consD ?_ | refine DrawA.nil ?_ | refine AWq.draw (by decide +kernel) ?_ | (refine Both.mk ?_ ?_ <;> intro hc <;> (first | exact Bool.noConfusion hc | exact absurd (by assumption) hc | (exfalso; omega) | skip)) | (intro c hc; (try (simp only [AH.none_iff] at hc; repeat (have hn := hc.1; replace hc := hc.2))); (first | (refine i64_k hc ?_ ?_ ?_ ; omega; omega; (clear hc; intro hc; subst hc)) | skip)) | (apply Exists.intro; apply And.intro; (first | (focus (repeat (first | (with_reducible assumption) | (with_reducible exact AH.set_same _ _ _))); done))) | (apply Exists.intro; apply And.intro; first | (with_reducible assumption) | ((try simp only [List.getElem?_drop, Nat.mul_one, Nat.add_zero, Nat.zero_add]); first | (with_reducible assumption) | rfl)) | (apply And.intro; (first | rfl | (with_reducible assumption) | exact Nat.le_of_ble_eq_true rfl | omega | (simp <;> omega))))) <;> (try (conv => whnf))
          refine Then.mk (AWq.in ?_)
          refine AWp_less (H.set r (.row (dL n N1) 0)) (HLe.of_eq (by rw [← hw1]; exact (AH.set_set _ _ _ _).symm)) ?_
          refine AWp.of tt_ok (dok _) rfl ?_
          (repeat' ((conv => whnf); first | refine Then.mk ?_ | refine OpsA.cons ?_ | refine OpsA.nil ?_ | refine AWq.seq ?_ | refine AWq.region ?_ | refine AWq.cond ?_ | refine AWq.block ?_ | refine AWq.skip ?_ | refine AWq.ret ?_ | refine AWq.exit ?_ | refine AWq.loop ?_ | refine DrawA.consD ?_ | refine DrawA.nil ?_ | refine AWq.draw (by decide +kernel) ?_ | (refine Both.mk ?_ ?_ <;> intro hc <;> (first | exact Bool.noConfusion hc | exact absurd (by assumption) hc | (exfalso; omega) | skip)) | (intro c hc; (try (simp only [AH.none_iff] at hc; repeat (have hn := hc.1; replace hc := hc.2))); (first | (refine i64_k hc ?_ ?_ ?_ ; omega; omega; (clear hc; intro hc; subst hc)) | skip)) | (apply Exists.intro; apply And.intro; (first | (focus (repeat (first | (with_reducible assumption) | (with_reducible exact AH.set_same _ _ _))); done))) | (apply Exists.intro; apply And.intro; first | (with_reducible assumption) | ((try simp only [List.getElem?_drop, Nat.mul_one, Nat.add_zero, Nat.zero_add]); first | (with_reducible assumption) | rfl)) | (apply And.intro; (first | rfl | (with_reducible assumption) | exact Nat.le_of_ble_eq_true rfl | omega | (simp <;> omega))))) <;> (try (conv => whnf))
          refine ⟨j + 1, ⟨hjlt, hwn (hinI.2 hin)⟩, by omega, ⟨congrArg (AV.int .i64) (by omega), congrArg (AV.int .i64) ?_, trivial⟩, HLe.of_eq ?_⟩
          · exact hvn.symm
          · show H.set r (.row (dL n (netN (setFl (A0.take (es.length + j + 1)) (L.take (es.length + j + 1))))) 0) = _
            rw [hN1]
        · have hw := fun H => rwithin_c f x.w (by omega) false (decide_eq_false hin) H
          have hbad := hnoi (fun k => hin (hinI.1 k))
          (repeat' ((conv => whnf); first | refine Then.mk ?_ | refine OpsA.cons ?_ | refine OpsA.nil ?_ | refine AWq.seq ?_ | refine AWq.region ?_ | refine AWq.cond ?_ | refine AWq.block ?_ | refine AWq.skip ?_ | refine AWq.ret ?_ | refine AWq.exit ?_ | refine AWq.loop ?_ | refine DrawA.consD ?_ | refine DrawA.nil ?_ | refine AWq.draw (by decide +kernel) ?_ | (apply Exists.intro; apply And.intro; exact hw _) | (refine Both.mk ?_ ?_ <;> intro hc <;> (first | exact Bool.noConfusion hc | exact absurd (by assumption) hc | (exfalso; omega) | skip)) | (intro c hc; (try (simp only [AH.none_iff] at hc; repeat (have hn := hc.1; replace hc := hc.2))); (first | (refine i64_k hc ?_ ?_ ?_ ; omega; omega; (clear hc; intro hc; subst hc)) | skip)) | (apply Exists.intro; apply And.intro; (first | (focus (repeat (first | (with_reducible assumption) | (with_reducible exact AH.set_same _ _ _))); done))) | (apply Exists.intro; apply And.intro; first | (with_reducible assumption) | ((try simp only [List.getElem?_drop, Nat.mul_one, Nat.add_zero, Nat.zero_add]); first | (with_reducible assumption) | rfl)) | (apply And.intro; (first | rfl | (with_reducible assumption) | exact Nat.le_of_ble_eq_true rfl | omega | (simp <;> omega))))) <;> (try (conv => whnf))
          exact ⟨_, H, AVle.refl _, HLe.fresh _ hr, 0, false, ⟨fun h => Bool.noConfusion h, fun h => absurd h hbad⟩, fun h => Bool.noConfusion h, rfl, rfl⟩
      · have hje : es.length + j = L.length := by omega
        have htA : A0.take (es.length + j) = A0 := List.take_of_length_le (by omega)
        have htL : L.take (es.length + j) = L := List.take_of_length_le (by omega)
        rw [htL] at hall ⊢
        rw [htA]
        have hdl := dL_len n (netN (setFl A0 L))
        (repeat' ((conv => whnf); first | refine Then.mk ?_ | refine OpsA.cons ?_ | refine OpsA.nil ?_ | refine AWq.seq ?_ | refine AWq.region ?_ | refine AWq.cond ?_ | refine AWq.block ?_ | refine AWq.skip ?_ | refine AWq.ret ?_ | refine AWq.exit ?_ | refine AWq.loop ?_ | refine DrawA.consD ?_ | refine DrawA.nil ?_ | refine AWq.draw (by decide +kernel) ?_ | (refine Both.mk ?_ ?_ <;> intro hc <;> (first | exact Bool.noConfusion hc | exact absurd (by assumption) hc | (exfalso; omega) | skip)) | (intro c hc; (try (simp only [AH.none_iff] at hc; repeat (have hn := hc.1; replace hc := hc.2))); (first | (refine i64_k hc ?_ ?_ ?_ ; omega; omega; (clear hc; intro hc; subst hc)) | skip)) | (apply Exists.intro; apply And.intro; (first | (focus (repeat (first | (with_reducible assumption) | (with_reducible exact AH.set_same _ _ _))); done))) | (apply Exists.intro; apply And.intro; first | (with_reducible assumption) | ((try simp only [List.getElem?_drop, Nat.mul_one, Nat.add_zero, Nat.zero_add]); first | (with_reducible assumption) | rfl)) | (apply And.intro; (first | rfl | (with_reducible assumption) | exact Nat.le_of_ble_eq_true rfl | omega | (simp <;> omega))))) <;> (try (conv => whnf))
        refine AWp_loop (σ := Nat) (10 :: 11 :: 18 :: 153 :: 154 :: 155 :: 156 :: 157 :: 158 :: 159 :: 160 :: 161 :: 162 :: []) (fun k => [(18, .int .i64 k)]) (fun k => H.set r (.row (dL n (netN (setFl A0 L))) 0)) (fun k => k ≤ n ∧ ∀ v, v < k → netN (setFl A0 L) v = 0) (fun k => n - k) 0 rfl ⟨Nat.zero_le _, fun v hv => absurd hv (Nat.not_lt_zero v)⟩ ⟨rfl, trivial⟩ (HLe.refl _) ?_
        rintro k ⟨hk, hz⟩
        refine AWp.of tt_ok (dok _) rfl ?_
        dsimp only at hk ⊢
        by_cases hklt : k < n
        · have gk := dL_getZ (n := n) (netN (setFl A0 L)) hklt
          by_cases hz0 : netN (setFl A0 L) k = 0
          · (repeat' ((conv => whnf); first | refine Then.mk ?_ | refine OpsA.cons ?_ | refine OpsA.nil ?_ | refine AWq.seq ?_ | refine AWq.region ?_ | refine AWq.cond ?_ | refine AWq.block ?_ | refine AWq.skip ?_ | refine AWq.ret ?_ | refine AWq.exit ?_ | refine AWq.loop ?_ | refine DrawA.consD ?_ | refine DrawA.nil ?_ | refine AWq.draw (by decide +kernel) ?_ | (refine Both.mk ?_ ?_ <;> intro hc <;> (first | exact Bool.noConfusion hc | exact absurd (by assumption) hc | (exfalso; omega) | skip)) | (intro c hc; (try (simp only [AH.none_iff] at hc; repeat (have hn := hc.1; replace hc := hc.2))); (first | (refine i64_k hc ?_ ?_ ?_ ; omega; omega; (clear hc; intro hc; subst hc)) | skip)) | (apply Exists.intro; apply And.intro; (first | (focus (repeat (first | (with_reducible assumption) | (with_reducible exact AH.set_same _ _ _))); done))) | (apply Exists.intro; apply And.intro; first | (with_reducible assumption) | ((try simp only [List.getElem?_drop, Nat.mul_one, Nat.add_zero, Nat.zero_add]); first | (with_reducible assumption) | rfl)) | (apply And.intro; (first | rfl | (with_reducible assumption) | exact Nat.le_of_ble_eq_true rfl | omega | (simp <;> omega))))) <;> (try (conv => whnf))
            refine ⟨k + 1, ⟨hklt, fun v hv => ?_⟩, by omega, ⟨congrArg (AV.int .i64) (by omega), trivial⟩, HLe.refl _⟩
            by_cases e : v = k
            · rw [e]; exact hz0
            · exact hz v (by omega)
          · have hbad : ¬ FlowOk n es fs E F := fun q => hz0 ((hFO.1 q).2 k hklt)
            (repeat' ((conv => whnf); first | refine Then.mk ?_ | refine OpsA.cons ?_ | refine OpsA.nil ?_ | refine AWq.seq ?_ | refine AWq.region ?_ | refine AWq.cond ?_ | refine AWq.block ?_ | refine AWq.skip ?_ | refine AWq.ret ?_ | refine AWq.exit ?_ | refine AWq.loop ?_ | refine DrawA.consD ?_ | refine DrawA.nil ?_ | refine AWq.draw (by decide +kernel) ?_ | (refine Both.mk ?_ ?_ <;> intro hc <;> (first | exact Bool.noConfusion hc | exact absurd (by assumption) hc | (exfalso; omega) | skip)) | (intro c hc; (try (simp only [AH.none_iff] at hc; repeat (have hn := hc.1; replace hc := hc.2))); (first | (refine i64_k hc ?_ ?_ ?_ ; omega; omega; (clear hc; intro hc; subst hc)) | skip)) | (apply Exists.intro; apply And.intro; (first | (focus (repeat (first | (with_reducible assumption) | (with_reducible exact AH.set_same _ _ _))); done))) | (apply Exists.intro; apply And.intro; first | (with_reducible assumption) | ((try simp only [List.getElem?_drop, Nat.mul_one, Nat.add_zero, Nat.zero_add]); first | (with_reducible assumption) | rfl)) | (apply And.intro; (first | rfl | (with_reducible assumption) | exact Nat.le_of_ble_eq_true rfl | omega | (simp <;> omega))))) <;> (try (conv => whnf))
            exact ⟨_, H, AVle.refl _, HLe.fresh _ hr, 0, false, ⟨fun h => Bool.noConfusion h, fun h => absurd h hbad⟩, fun h => Bool.noConfusion h, rfl, rfl⟩
        · have hgood : FlowOk n es fs E F := hFO.2 ⟨hall, fun v hv => hz v (by omega)⟩
          (repeat' ((conv => whnf); first | refine Then.mk ?_ | refine OpsA.cons ?_ | refine OpsA.nil ?_ | refine AWq.seq ?_ | refine AWq.region ?_ | refine AWq.cond ?_ | refine AWq.block ?_ | refine AWq.skip ?_ | refine AWq.ret ?_ | refine AWq.exit ?_ | refine AWq.loop ?_ | refine DrawA.consD ?_ | refine DrawA.nil ?_ | refine AWq.draw (by decide +kernel) ?_ | (refine Both.mk ?_ ?_ <;> intro hc <;> (first | exact Bool.noConfusion hc | exact absurd (by assumption) hc | (exfalso; omega) | skip)) | (intro c hc; (try (simp only [AH.none_iff] at hc; repeat (have hn := hc.1; replace hc := hc.2))); (first | (refine i64_k hc ?_ ?_ ?_ ; omega; omega; (clear hc; intro hc; subst hc)) | skip)) | (apply Exists.intro; apply And.intro; (first | (focus (repeat (first | (with_reducible assumption) | (with_reducible exact AH.set_same _ _ _))); done))) | (apply Exists.intro; apply And.intro; first | (with_reducible assumption) | ((try simp only [List.getElem?_drop, Nat.mul_one, Nat.add_zero, Nat.zero_add]); first | (with_reducible assumption) | rfl)) | (apply And.intro; (first | rfl | (with_reducible assumption) | exact Nat.le_of_ble_eq_true rfl | omega | (simp <;> omega))))) <;> (try (conv => whnf))
          exact ⟨_, H, AVle.refl _, HLe.fresh _ hr, _, true, ⟨fun _ => hgood, fun _ => rfl⟩, fun _ => rfl, rfl, rfl⟩
  · have hbad : ¬ FlowOk n es fs E F := fun k => hl ⟨k.l2, k.l3⟩
    refine ACall_of tt_ok (dok _) Try.func43 rfl (by decide) rfl ?_
    (repeat' ((conv => whnf); first | refine Then.mk ?_ | refine OpsA.cons ?_ | refine OpsA.nil ?_ | refine AWq.seq ?_ | refine AWq.region ?_ | refine AWq.cond ?_ | refine AWq.block ?_ | refine AWq.skip ?_ | refine AWq.ret ?_ | refine AWq.exit ?_ | refine AWq.loop ?_ | refine DrawA.consD ?_ | refine DrawA.nil ?_ | refine AWq.draw (by decide +kernel) ?_ | (refine Both.mk ?_ ?_ <;> intro hc <;> (first | exact Bool.noConfusion hc | exact absurd (by assumption) hc | (exfalso; omega) | skip)) | (intro c hc; (try (simp only [AH.none_iff] at hc; repeat (have hn := hc.1; replace hc := hc.2))); (first | (refine i64_k hc ?_ ?_ ?_ ; omega; omega; (clear hc; intro hc; subst hc)) | skip)) | (apply Exists.intro; apply And.intro; (first | (focus (repeat (first | (with_reducible assumption) | (with_reducible exact AH.set_same _ _ _))); done))) | (apply Exists.intro; apply And.intro; first | (with_reducible assumption) | ((try simp only [List.getElem?_drop, Nat.mul_one, Nat.add_zero, Nat.zero_add]); first | (with_reducible assumption) | rfl)) | (apply And.intro; (first | rfl | (with_reducible assumption) | exact Nat.le_of_ble_eq_true rfl | omega | (simp <;> omega))))) <;> (try (conv => whnf))
    all_goals exact ⟨_, H, AVle.refl _, HLe.refl _, 0, false, ⟨fun h => Bool.noConfusion h, fun h => absurd h hbad⟩, fun h => Bool.noConfusion h, rfl, rfl⟩

set_option maxHeartbeats 4000000 in
set_option maxRecDepth 8000 in
theorem rcheck_c (n : Nat) (es : List Ed) (fs : List Fx) (hv : validV n es fs = 0) (O E F : List Int) (z : Int) (hO : O.length ≤ 1000000) (hE' : E.length ≤ 1000000) (hF' : F.length ≤ 1000000) (e : Int) (he1 : ChkP n es fs O E F z → e = 0) (he2 : ¬ ChkP n es fs O E F z → e = 17) (H : AH) :
    ACall Try.prog 15 [.int .i64 n, .cs (edL es) es.length, .cs (fxL fs) fs.length, .agg [.cs (iS .i64 O) O.length, .cs (iS .i64 E) E.length, .cs (iS .i64 F) F.length, .int .i64 z]] H (fun y H' => y = .int .i64 e ∧ H' = H) := by
  obtain ⟨⟨_, hn64⟩, ⟨he, hf⟩, hE, hF⟩ := validV_ok hv
  have hv1 := fun H => rvalid_c n es fs (by omega) (by omega) H
  rw [hv] at hv1
  have hcost := fun H => rcost_c es fs O (by omega) (by omega) (by omega) H
  have hfl := fun H => flows_c n es fs hv E F hE' hF' H
  refine ACall.back ?_
  by_cases hl : O.length = n
  · have hP : ChkP n es fs O E F z ↔ FlowOk n es fs E F ∧ (costR es fs O).2 = 0 ∧ (costR es fs O).1 = z ∧ valF (net0 n es fs) (E ++ F) = z :=
      ⟨fun k => ⟨⟨k.l2, k.l3, k.al, k.ne⟩, by rw [k.co], by rw [k.co], k.va⟩, fun ⟨q, k1, k2, k3⟩ => ⟨hl, q.l2, q.l3, q.al, Prod.ext k2 k1, k3, q.ne⟩⟩
    generalize costR es fs O = cr at *
    obtain ⟨cr1, cr2⟩ := cr
    dsimp only at hP hcost
    refine ACall_of tt_ok (dok _) Try.func15 rfl (by decide) rfl ?_
    (repeat' ((conv => whnf); first | refine Then.mk ?_ | refine OpsA.cons ?_ | refine OpsA.nil ?_ | refine AWq.seq ?_ | refine AWq.region ?_ | refine AWq.cond ?_ | refine AWq.skip ?_ | refine AWq.ret ?_ | (refine Both.mk ?_ ?_ <;> intro hc <;> (first | exact Bool.noConfusion hc | exact absurd (by with_reducible rfl) hc | exact absurd (by assumption) hc | (exfalso; omega) | skip)) | (intro c hc; (try (simp only [AH.none_iff] at hc; repeat (have hn := hc.1; replace hc := hc.2))); (first | skip)) | (apply Exists.intro; apply And.intro; (first | (focus (repeat (first | (with_reducible assumption) | (with_reducible exact AH.set_same _ _ _))); done))) | (apply Exists.intro; apply And.intro; first | (with_reducible assumption) | ((try simp only [List.getElem?_drop, Nat.mul_one, Nat.add_zero, Nat.zero_add]); first | (with_reducible assumption) | rfl)) | (apply And.intro; (first | rfl | (with_reducible assumption))) | (refine ACall.to (hv1 _) ?_) | (refine ACall.to (hcost _) ?_))) <;> (try (conv => whnf))
    refine ACall.mono (hfl _) ?_
    rintro y H' ⟨v, b, hb, hbv, rfl, rfl⟩
    cases b with
    | true =>
      have hFl := hb.1 rfl
      have hvv := hbv rfl
      rw [← hvv] at hP
      by_cases hgood : cr2 = 0 ∧ cr1 = z ∧ v = z
      · have hen := he1 (hP.2 ⟨hFl, hgood⟩)
        obtain ⟨rfl, rfl, hvz⟩ := hgood
        subst hen
        (repeat' ((conv => whnf); first | refine Then.mk ?_ | refine OpsA.cons ?_ | refine OpsA.nil ?_ | refine AWq.seq ?_ | refine AWq.region ?_ | refine AWq.cond ?_ | refine AWq.skip ?_ | refine AWq.ret ?_ | (refine Both.mk ?_ ?_ <;> intro hc <;> (first | exact Bool.noConfusion hc | exact absurd (by with_reducible rfl) hc | exact absurd (by assumption) hc | (exfalso; omega) | skip)) | (intro c hc; (try (simp only [AH.none_iff] at hc; repeat (have hn := hc.1; replace hc := hc.2))); (first | skip)) | (apply Exists.intro; apply And.intro; (first | (focus (repeat (first | (with_reducible assumption) | (with_reducible exact AH.set_same _ _ _))); done))) | (apply Exists.intro; apply And.intro; first | (with_reducible assumption) | ((try simp only [List.getElem?_drop, Nat.mul_one, Nat.add_zero, Nat.zero_add]); first | (with_reducible assumption) | rfl)) | (apply And.intro; (first | rfl | (with_reducible assumption))))) <;> (try (conv => whnf))
        all_goals (first | ((repeat' (first | (with_reducible exact HLe.refl _) | (with_reducible assumption) | refine HLe.set_of _ _ ?_ ?_)); done))
      · have hen := he2 (fun k => hgood (hP.1 k).2)
        subst hen
        (repeat' ((conv => whnf); first | refine Then.mk ?_ | refine OpsA.cons ?_ | refine OpsA.nil ?_ | refine AWq.seq ?_ | refine AWq.region ?_ | refine AWq.cond ?_ | refine AWq.skip ?_ | refine AWq.ret ?_ | (refine Both.mk ?_ ?_ <;> intro hc <;> (first | exact Bool.noConfusion hc | exact absurd (by with_reducible rfl) hc | exact absurd (by assumption) hc | (exfalso; omega) | skip)) | (intro c hc; (try (simp only [AH.none_iff] at hc; repeat (have hn := hc.1; replace hc := hc.2))); (first | skip)) | (apply Exists.intro; apply And.intro; (first | (focus (repeat (first | (with_reducible assumption) | (with_reducible exact AH.set_same _ _ _))); done))) | (apply Exists.intro; apply And.intro; first | (with_reducible assumption) | ((try simp only [List.getElem?_drop, Nat.mul_one, Nat.add_zero, Nat.zero_add]); first | (with_reducible assumption) | rfl)) | (apply And.intro; (first | rfl | (with_reducible assumption))))) <;> (try (conv => whnf))
        all_goals (first | ((repeat' (first | (with_reducible exact HLe.refl _) | (with_reducible assumption) | refine HLe.set_of _ _ ?_ ?_)); done))
    | false =>
      have hen := he2 (fun k => by have := hb.2 (hP.1 k).1; cases this)
      subst hen
      (repeat' ((conv => whnf); first | refine Then.mk ?_ | refine OpsA.cons ?_ | refine OpsA.nil ?_ | refine AWq.seq ?_ | refine AWq.region ?_ | refine AWq.cond ?_ | refine AWq.skip ?_ | refine AWq.ret ?_ | (refine Both.mk ?_ ?_ <;> intro hc <;> (first | exact Bool.noConfusion hc | exact absurd (by with_reducible rfl) hc | exact absurd (by assumption) hc | (exfalso; omega) | skip)) | (intro c hc; (try (simp only [AH.none_iff] at hc; repeat (have hn := hc.1; replace hc := hc.2))); (first | skip)) | (apply Exists.intro; apply And.intro; (first | (focus (repeat (first | (with_reducible assumption) | (with_reducible exact AH.set_same _ _ _))); done))) | (apply Exists.intro; apply And.intro; first | (with_reducible assumption) | ((try simp only [List.getElem?_drop, Nat.mul_one, Nat.add_zero, Nat.zero_add]); first | (with_reducible assumption) | rfl)) | (apply And.intro; (first | rfl | (with_reducible assumption))))) <;> (try (conv => whnf))
      all_goals (first | ((repeat' (first | (with_reducible exact HLe.refl _) | (with_reducible assumption) | refine HLe.set_of _ _ ?_ ?_)); done))
  · have hen := he2 (fun k => hl k.l1)
    subst hen
    refine ACall_of tt_ok (dok _) Try.func15 rfl (by decide) rfl ?_
    (repeat' ((conv => whnf); first | refine Then.mk ?_ | refine OpsA.cons ?_ | refine OpsA.nil ?_ | refine AWq.seq ?_ | refine AWq.region ?_ | refine AWq.cond ?_ | refine AWq.skip ?_ | refine AWq.ret ?_ | (refine Both.mk ?_ ?_ <;> intro hc <;> (first | exact Bool.noConfusion hc | exact absurd (by with_reducible rfl) hc | exact absurd (by assumption) hc | (exfalso; omega) | skip)) | (intro c hc; (try (simp only [AH.none_iff] at hc; repeat (have hn := hc.1; replace hc := hc.2))); (first | skip)) | (apply Exists.intro; apply And.intro; (first | (focus (repeat (first | (with_reducible assumption) | (with_reducible exact AH.set_same _ _ _))); done))) | (apply Exists.intro; apply And.intro; first | (with_reducible assumption) | ((try simp only [List.getElem?_drop, Nat.mul_one, Nat.add_zero, Nat.zero_add]); first | (with_reducible assumption) | rfl)) | (apply And.intro; (first | rfl | (with_reducible assumption))) | (refine ACall.to (hv1 _) ?_))) <;> (try (conv => whnf))
    (first | ((repeat' (first | (with_reducible exact HLe.refl _) | (with_reducible assumption) | refine HLe.set_of _ _ ?_ ?_)); done))
end Go.Proofs.Ytebflkgpbbjhnaa
/- The walks of the reference: Loose. -/
namespace Go.Proofs.Ytebflkgpbbjhnaa
open Go.Fw Go
set_option linter.unusedVariables false
set_option linter.unusedSimpArgs false

/-- Truths of a function. -/
def qL (n : Nat) (b : Nat → Bool) : List AV := fnL n fun v => AV.bool (b v)
@[simp] theorem qL_len (n : Nat) (b : Nat → Bool) : (qL n b).length = n := by simp [qL]
def putB (b : Nat → Bool) (i : Nat) : Nat → Bool := fun v => if v = i then true else b v
theorem qL_get {n i : Nat} (b : Nat → Bool) (h : i < n) : (qL n b)[i]? = some (.bool (b i)) := fnL_get _ h
theorem qL_wr {n i : Nat} (b : Nat → Bool) (h : i < n) : wrA (qL n b) (0 + i * 1) [.bool true] = qL n (putB b i) := by
  rw [show 0 + i * 1 = i by omega]
  unfold wrA
  have e : (qL n b).set i (.bool true) = qL n (putB b i) := by
    unfold qL
    rw [fnL_set]
    refine fnL_congr fun u _ => ?_
    unfold putB
    by_cases hu : u = i
    · rw [if_pos hu, if_pos hu]
    · rw [if_neg hu, if_neg hu]
  rw [← e, List.set_eq_take_append_cons_drop, if_pos (by simpa using h)]
  simp
theorem qL_zero (n : Nat) : (List.replicate n [AV.bool false]).flatten = qL n fun _ => false := by
  have : (List.replicate n [AV.bool false]).flatten = List.replicate n (AV.bool false) := by
    induction n with
    | zero => rfl
    | succ n ih => rw [List.replicate_succ, List.flatten_cons, ih, List.replicate_succ]; rfl
  rw [this, fnL_rep]; rfl
/-- Closed under the edges. -/
def Clo (es : List Ed) (b : Nat → Bool) : Prop := ∀ x ∈ es, b x.a.toNat = b x.b.toNat
def outN (n : Nat) (b : Nat → Bool) : Nat := sumN (fun v => cond (b v) 0 1) (n - 1)
theorem outN_0 {n i : Nat} {b : Nat → Bool} (hi : i < n) (hb : b i = true) : outN n b < n := by
  have h1 : outN n b < sumN (fun _ => 1) (n - 1) := sumN_lt (v := i) (by omega) (fun u _ => by cases b u <;> decide) (by rw [hb]; decide)
  have h2 : ∀ k, sumN (fun _ => 1) k = k + 1 := fun k => by
    induction k with
    | zero => rfl
    | succ k ih => show sumN (fun _ => 1) k + 1 = _; rw [ih]
  rw [h2] at h1; omega
theorem putB_same {b : Nat → Bool} {i : Nat} (h : b i = true) : putB b i = b := by
  funext v; unfold putB; split
  · rename_i e; rw [e, h]
  · rfl
theorem outN_put {n i : Nat} {b : Nat → Bool} (hi : i < n) (h : b i = false) : outN n (putB b i) < outN n b := by
  refine sumN_lt (v := i) (by omega) (fun u _ => ?_) ?_
  · unfold putB; split
    · exact Nat.zero_le _
    · exact Nat.le_refl _
  · unfold putB; rw [if_pos rfl, h]; decide
/-- A node that is the least of a part without a fix. -/
def LooseP (n : Nat) (es : List Ed) (fs : List Fx) (i : Nat) : Prop :=
  i < n ∧ ∃ b : Nat → Bool, b i = true ∧ Clo es b ∧ (∀ v, v < i → b v = false) ∧ ∀ x ∈ fs, b x.a.toNat = false
set_option maxHeartbeats 4000000 in
set_option maxRecDepth 8000 in
theorem loose_c (n : Nat) (hnn : n ≤ 64) (es : List Ed) (fs : List Fx) (he : es.length ≤ 8192) (hf : fs.length ≤ 8192) (hE : ∀ x ∈ es, vE n x) (hF : ∀ x ∈ fs, vF n x) (H : AH) :
    ACall Try.prog 18 [.int .i64 n, .cs (edL es) es.length, .cs (fxL fs) fs.length] H (fun y H' => ∃ L : List Nat, L.length ≤ n ∧ (∀ i ∈ L, LooseP n es fs i) ∧ y = .cs (iS .i64 (L.map fun i : Nat => (i : Int))) L.length ∧ H' = H) := by
  have hel := edL_len es
  have hfl := fxL_len fs
  have heo := edL_one es
  have hfo := fxL_one fs
  refine ACall_of tt_ok (dok _) Try.func18 rfl (by decide) rfl ?_
  (iterate 2 ((repeat' ((conv => whnf); first | left | refine OpsA.cons ?_ | refine OpsA.nil ?_ | refine AWq.seq ?_ | refine AWq.region ?_ | refine AWq.cond ?_ | refine AWq.block ?_ | refine AWq.skip ?_ | refine AWq.ret ?_ | refine AWq.exit ?_ | refine AWq.loop ?_ | (refine Both.mk ?_ ?_ <;> intro hc <;> (first | exact Bool.noConfusion hc | (exfalso; omega) | skip)) | (intro c hc; (try (simp only [AH.none_iff] at hc; repeat (have hn := hc.1; replace hc := hc.2))); (first | (refine i64_k hc ?_ ?_ ?_ ; omega; omega; (clear hc; intro hc; subst hc)) | skip)) | (apply Exists.intro; apply And.intro; (first | (focus (repeat (first | (with_reducible assumption) | (with_reducible exact AH.set_same _ _ _) | ((first | refine AH.get_ne ?_ ?_); (first | (with_reducible assumption) | exact Ne.symm (by with_reducible assumption))))); done))) | (apply Exists.intro; apply And.intro; first | (with_reducible assumption) | ((try simp only [List.getElem?_drop, Nat.mul_one, Nat.add_zero, Nat.zero_add]); first | (with_reducible assumption) | rfl)) | (apply And.intro; (first | rfl | (with_reducible assumption) | exact Nat.le_of_ble_eq_true rfl | omega | (simp <;> omega))))) <;> (try (conv => whnf)); refine Then.mk ?_))
  refine AWq.in ?_
  refine AWp_nilrow1 7 1 rfl rfl fun r1 hr1 => ?_
  refine AWp.of tt_ok (dok _) rfl ?_
  (repeat' ((conv => whnf); first | refine Then.mk ?_ | left | refine OpsA.cons ?_ | refine OpsA.nil ?_ | refine AWq.seq ?_ | refine AWq.region ?_ | refine AWq.cond ?_ | refine AWq.block ?_ | refine AWq.skip ?_ | refine AWq.ret ?_ | refine AWq.exit ?_ | refine AWq.loop ?_ | (refine Both.mk ?_ ?_ <;> intro hc <;> (first | exact Bool.noConfusion hc | (exfalso; omega) | skip)) | (intro c hc; (try (simp only [AH.none_iff] at hc; repeat (have hn := hc.1; replace hc := hc.2))); (first | (refine i64_k hc ?_ ?_ ?_ ; omega; omega; (clear hc; intro hc; subst hc)) | skip)) | (apply Exists.intro; apply And.intro; (first | (focus (repeat (first | (with_reducible assumption) | (with_reducible exact AH.set_same _ _ _) | ((first | refine AH.get_ne ?_ ?_); (first | (with_reducible assumption) | exact Ne.symm (by with_reducible assumption))))); done))) | (apply Exists.intro; apply And.intro; first | (with_reducible assumption) | ((try simp only [List.getElem?_drop, Nat.mul_one, Nat.add_zero, Nat.zero_add]); first | (with_reducible assumption) | rfl)) | (apply And.intro; (first | rfl | (with_reducible assumption) | exact Nat.le_of_ble_eq_true rfl | omega | (simp <;> omega))))) <;> (try (conv => whnf))
  refine AWp_loop (σ := List Nat × Nat) (7 :: 8 :: 9 :: 10 :: 11 :: 12 :: 13 :: 14 :: 15 :: 16 :: 17 :: 18 :: 19 :: 20 :: 21 :: 22 :: 23 :: 24 :: 25 :: 26 :: 27 :: 28 :: 29 :: 30 :: 31 :: 32 :: 33 :: 34 :: 35 :: 36 :: 37 :: 38 :: 39 :: 40 :: 41 :: 42 :: 43 :: 44 :: 45 :: 46 :: 47 :: 48 :: 49 :: 50 :: 51 :: 52 :: 53 :: 54 :: 55 :: 56 :: 57 :: 58 :: 59 :: 60 :: 61 :: 62 :: 63 :: 64 :: 65 :: 66 :: 67 :: 68 :: 69 :: 70 :: 71 :: 72 :: 73 :: 74 :: 75 :: 76 :: 77 :: 78 :: 79 :: 80 :: 81 :: 82 :: 83 :: 84 :: 85 :: 86 :: 87 :: 88 :: 89 :: 90 :: 91 :: 92 :: 93 :: 94 :: 95 :: 96 :: 97 :: 98 :: 99 :: 100 :: 101 :: 102 :: 103 :: []) (fun s => [(8, .int .i64 s.2), (7, .sl r1 s.1.length 1 0 s.1.length none)]) (fun s => H.set r1 (.row (iS .i64 (s.1.map fun i : Nat => (i : Int))) s.1.length)) (fun s => s.2 ≤ n ∧ s.1.length ≤ s.2 ∧ ∀ i ∈ s.1, LooseP n es fs i) (fun s => n - s.2) ([], 0) rfl ⟨Nat.zero_le _, Nat.le_refl _, fun i hi => by cases hi⟩ ⟨rfl, rfl, trivial⟩ (HLe.refl _) ?_
  rintro ⟨L, i⟩ ⟨hi, hLi, hL⟩
  dsimp only at hi hLi hL ⊢
  refine AWp.of tt_ok (dok _) rfl ?_
  have hRl : (iS .i64 (L.map fun i : Nat => (i : Int))).length = L.length := by simp
  have hsn : iS .i64 ((L ++ [i]).map fun i : Nat => (i : Int)) = iS .i64 (L.map fun i : Nat => (i : Int)) ++ [.int .i64 (i : Int)] := by simp [iS]
  obtain ⟨R, hR⟩ : ∃ R, R = iS .i64 (L.map fun i : Nat => (i : Int)) := ⟨_, rfl⟩
  rw [← hR] at hRl hsn ⊢
  have hg1 : (H.set r1 (.row R L.length)) r1 = some (.row R L.length) := AH.set_same _ _ _
  by_cases hil : i < n
  · (iterate 2 ((repeat' ((conv => whnf); first | left | refine OpsA.cons ?_ | refine OpsA.nil ?_ | refine AWq.seq ?_ | refine AWq.region ?_ | refine AWq.cond ?_ | refine AWq.block ?_ | refine AWq.skip ?_ | refine AWq.ret ?_ | refine AWq.exit ?_ | refine AWq.loop ?_ | (refine Both.mk ?_ ?_ <;> intro hc <;> (first | exact Bool.noConfusion hc | (exfalso; omega) | skip)) | (intro c hc; (try (simp only [AH.none_iff] at hc; repeat (have hn := hc.1; replace hc := hc.2))); (first | (refine i64_k hc ?_ ?_ ?_ ; omega; omega; (clear hc; intro hc; subst hc)) | skip)) | (apply Exists.intro; apply And.intro; (first | (focus (repeat (first | (with_reducible assumption) | (with_reducible exact AH.set_same _ _ _) | ((first | refine AH.get_ne ?_ ?_); (first | (with_reducible assumption) | exact Ne.symm (by with_reducible assumption))))); done))) | (apply Exists.intro; apply And.intro; first | (with_reducible assumption) | ((try simp only [List.getElem?_drop, Nat.mul_one, Nat.add_zero, Nat.zero_add]); first | (with_reducible assumption) | rfl)) | (apply And.intro; (first | rfl | (with_reducible assumption) | exact Nat.le_of_ble_eq_true rfl | omega | (simp <;> omega))))) <;> (try (conv => whnf)); refine Then.mk ?_))
    (repeat' ((conv => whnf); first | left | refine OpsA.cons ?_ | refine OpsA.nil ?_ | refine AWq.seq ?_ | refine AWq.region ?_ | refine AWq.cond ?_ | refine AWq.block ?_ | refine AWq.skip ?_ | refine AWq.ret ?_ | refine AWq.exit ?_ | refine AWq.loop ?_ | (refine Both.mk ?_ ?_ <;> intro hc <;> (first | exact Bool.noConfusion hc | (exfalso; omega) | skip)) | (intro c hc; (try (simp only [AH.none_iff] at hc; repeat (have hn := hc.1; replace hc := hc.2))); (first | (refine i64_k hc ?_ ?_ ?_ ; omega; omega; (clear hc; intro hc; subst hc)) | skip)) | (apply Exists.intro; apply And.intro; (first | (focus (repeat (first | (with_reducible assumption) | (with_reducible exact AH.set_same _ _ _) | ((first | refine AH.get_ne ?_ ?_); (first | (with_reducible assumption) | exact Ne.symm (by with_reducible assumption))))); done))) | (apply Exists.intro; apply And.intro; first | (with_reducible assumption) | ((try simp only [List.getElem?_drop, Nat.mul_one, Nat.add_zero, Nat.zero_add]); first | (with_reducible assumption) | rfl)) | (apply And.intro; (first | rfl | (with_reducible assumption) | exact Nat.le_of_ble_eq_true rfl | omega | (simp <;> omega))))) <;> (try (conv => whnf))
    (obtain ⟨q, hq_⟩ : ∃ q, q = c := ⟨_, rfl⟩); subst hq_
    have hc0 := hc
    have hqr : q ≠ r1 := by assumption
    have hq : AH.set H r1 (.row R L.length) q = none := by rw [AH.set_ne _ _ hqr]; exact hc
    refine Then.mk ?_
    have hq0 : ((List.replicate (n : Int).toNat [AV.bool false]).flatten).length = n := by rw [show (n : Int).toNat = n by omega, qL_zero]; simp
    (iterate 1 ((repeat' ((conv => whnf); first | left | refine OpsA.cons ?_ | refine OpsA.nil ?_ | refine AWq.seq ?_ | refine AWq.region ?_ | refine AWq.cond ?_ | refine AWq.block ?_ | refine AWq.skip ?_ | refine AWq.ret ?_ | refine AWq.exit ?_ | refine AWq.loop ?_ | (refine Both.mk ?_ ?_ <;> intro hc <;> (first | exact Bool.noConfusion hc | (exfalso; omega) | skip)) | (intro c hc; (try (simp only [AH.none_iff] at hc; repeat (have hn := hc.1; replace hc := hc.2))); (first | (refine i64_k hc ?_ ?_ ?_ ; omega; omega; (clear hc; intro hc; subst hc)) | skip)) | (apply Exists.intro; apply And.intro; (first | (focus (repeat (first | (with_reducible assumption) | (with_reducible exact AH.set_same _ _ _) | ((first | refine AH.get_ne ?_ ?_); (first | (with_reducible assumption) | exact Ne.symm (by with_reducible assumption))))); done))) | (apply Exists.intro; apply And.intro; first | (with_reducible assumption) | ((try simp only [List.getElem?_drop, Nat.mul_one, Nat.add_zero, Nat.zero_add]); first | (with_reducible assumption) | rfl)) | (apply And.intro; (first | rfl | (with_reducible assumption) | exact Nat.le_of_ble_eq_true rfl | omega | (simp <;> omega))))) <;> (try (conv => whnf)); refine Then.mk ?_))
    refine AWq.in ?_
    refine AWp_less ((H.set r1 (.row R L.length)).set q (.row (qL n (putB (fun _ => false) i)) 0)) ?_ ?_
    · refine HLe.of_eq ?_
      rw [← qL_wr (fun _ => false) hil, ← qL_zero]
      rw [show (n : Int).toNat = n by omega]
      exact (AH.set_set _ _ _ _).symm
    refine AWp.of tt_ok (dok _) rfl ?_
    (repeat' ((conv => whnf); first | refine Then.mk ?_ | left | refine OpsA.cons ?_ | refine OpsA.nil ?_ | refine AWq.seq ?_ | refine AWq.region ?_ | refine AWq.cond ?_ | refine AWq.block ?_ | refine AWq.skip ?_ | refine AWq.ret ?_ | refine AWq.exit ?_ | refine AWq.loop ?_ | (refine Both.mk ?_ ?_ <;> intro hc <;> (first | exact Bool.noConfusion hc | (exfalso; omega) | skip)) | (intro c hc; (try (simp only [AH.none_iff] at hc; repeat (have hn := hc.1; replace hc := hc.2))); (first | (refine i64_k hc ?_ ?_ ?_ ; omega; omega; (clear hc; intro hc; subst hc)) | skip)) | (apply Exists.intro; apply And.intro; (first | (focus (repeat (first | (with_reducible assumption) | (with_reducible exact AH.set_same _ _ _) | ((first | refine AH.get_ne ?_ ?_); (first | (with_reducible assumption) | exact Ne.symm (by with_reducible assumption))))); done))) | (apply Exists.intro; apply And.intro; first | (with_reducible assumption) | ((try simp only [List.getElem?_drop, Nat.mul_one, Nat.add_zero, Nat.zero_add]); first | (with_reducible assumption) | rfl)) | (apply And.intro; (first | rfl | (with_reducible assumption) | exact Nat.le_of_ble_eq_true rfl | omega | (simp <;> omega))))) <;> (try (conv => whnf))
    refine AWp_loop (σ := Nat × (Nat → Bool)) (10 :: 11 :: 25 :: 26 :: 27 :: 28 :: 29 :: 30 :: 31 :: 32 :: 33 :: 34 :: 35 :: 36 :: 37 :: 38 :: 39 :: 40 :: 41 :: 42 :: 43 :: 44 :: 45 :: 46 :: 47 :: 48 :: 49 :: 50 :: 51 :: 52 :: 53 :: 54 :: 55 :: 56 :: 57 :: 58 :: 59 :: 60 :: 61 :: 62 :: 63 :: 64 :: 65 :: 66 :: 67 :: []) (fun s => [(10, .int .i64 s.1)]) (fun s => (H.set r1 (.row R L.length)).set q (.row (qL n s.2) 0)) (fun s => s.1 ≤ n ∧ s.2 i = true ∧ (Clo es s.2 ∨ outN n s.2 + s.1 < n)) (fun s => n - s.1) (0, putB (fun _ => false) i) rfl ⟨Nat.zero_le _, if_pos rfl, .inr (outN_0 hil (if_pos rfl))⟩ ⟨rfl, trivial⟩ (HLe.refl _) ?_
    rintro ⟨k, b0⟩ ⟨hk, hb0, hcl⟩
    dsimp only at hk hb0 hcl ⊢
    refine AWp.of tt_ok (dok _) rfl ?_
    by_cases hkn : k < n
    · (repeat' ((conv => whnf); first | refine Then.mk ?_ | left | refine OpsA.cons ?_ | refine OpsA.nil ?_ | refine AWq.seq ?_ | refine AWq.region ?_ | refine AWq.cond ?_ | refine AWq.block ?_ | refine AWq.skip ?_ | refine AWq.ret ?_ | refine AWq.exit ?_ | refine AWq.loop ?_ | (refine Both.mk ?_ ?_ <;> intro hc <;> (first | exact Bool.noConfusion hc | (exfalso; omega) | skip)) | (intro c hc; (try (simp only [AH.none_iff] at hc; repeat (have hn := hc.1; replace hc := hc.2))); (first | (refine i64_k hc ?_ ?_ ?_ ; omega; omega; (clear hc; intro hc; subst hc)) | skip)) | (apply Exists.intro; apply And.intro; (first | (focus (repeat (first | (with_reducible assumption) | (with_reducible exact AH.set_same _ _ _) | ((first | refine AH.get_ne ?_ ?_); (first | (with_reducible assumption) | exact Ne.symm (by with_reducible assumption))))); done))) | (apply Exists.intro; apply And.intro; first | (with_reducible assumption) | ((try simp only [List.getElem?_drop, Nat.mul_one, Nat.add_zero, Nat.zero_add]); first | (with_reducible assumption) | rfl)) | (apply And.intro; (first | rfl | (with_reducible assumption) | exact Nat.le_of_ble_eq_true rfl | omega | (simp <;> omega))))) <;> (try (conv => whnf))
      refine AWp_loop (σ := Nat × (Nat → Bool)) (11 :: 30 :: 31 :: 32 :: 33 :: 34 :: 35 :: 36 :: 37 :: 38 :: 39 :: 40 :: 41 :: 42 :: 43 :: 44 :: 45 :: 46 :: 47 :: 48 :: 49 :: 50 :: 51 :: 52 :: 53 :: 54 :: 55 :: 56 :: 57 :: 58 :: 59 :: 60 :: 61 :: 62 :: 63 :: 64 :: 65 :: 66 :: 67 :: []) (fun s => [(11, .int .i64 s.1)]) (fun s => (H.set r1 (.row R L.length)).set q (.row (qL n s.2) 0)) (fun s => s.1 ≤ es.length ∧ s.2 i = true ∧ (Clo es b0 → s.2 = b0) ∧ (outN n s.2 < outN n b0 ∨ s.2 = b0 ∧ ∀ x ∈ es.take s.1, b0 x.a.toNat = b0 x.b.toNat)) (fun s => es.length - s.1) (0, b0) rfl ⟨Nat.zero_le _, hb0, fun _ => rfl, .inr ⟨rfl, fun x hx => by simp at hx⟩⟩ ⟨rfl, trivial⟩ (HLe.refl _) ?_
      rintro ⟨j, b⟩ ⟨hj, hb, hbc, hbo⟩
      dsimp only at hj hb hbc hbo ⊢
      refine AWp.of tt_ok (dok _) rfl ?_
      by_cases hjl : j < es.length
      · obtain ⟨x, hx⟩ : ∃ x, es[j]? = some x := ⟨_, List.getElem?_eq_getElem hjl⟩
        have hxm := List.mem_of_getElem? hx
        obtain ⟨v1, v2, v3, v4, v5⟩ := hE x hxm
        have ga : (edL es)[(j : Int).toNat * 4]? = some (.int .i64 x.a) := edL_get hx 0 (by decide)
        have gb : (edL es)[(j : Int).toNat * 4 + 1]? = some (.int .i64 x.b) := edL_get hx 1 (by decide)
        have qa := qL_get b (show x.a.toNat < n by omega)
        have qb := qL_get b (show x.b.toNat < n by omega)
        have hql := qL_len n b
        by_cases hab : b x.a.toNat = b x.b.toNat
        · have hstp : j + 1 ≤ es.length ∧ b i = true ∧ (Clo es b0 → b = b0) ∧ (outN n b < outN n b0 ∨ b = b0 ∧ ∀ x ∈ es.take (j + 1), b0 x.a.toNat = b0 x.b.toNat) := by
            refine ⟨hjl, hb, hbc, hbo.imp_right fun h => ⟨h.1, all_take hx h.2 ?_⟩⟩
            rw [← h.1]; exact hab
          cases h1 : b x.a.toNat with
          | false =>
            rw [h1] at qa hab
            rw [← hab] at qb
            (repeat' ((conv => whnf); first | refine Then.mk ?_ | left | refine OpsA.cons ?_ | refine OpsA.nil ?_ | refine AWq.seq ?_ | refine AWq.region ?_ | refine AWq.cond ?_ | refine AWq.block ?_ | refine AWq.skip ?_ | refine AWq.ret ?_ | refine AWq.exit ?_ | refine AWq.loop ?_ | (refine Both.mk ?_ ?_ <;> intro hc <;> (first | exact Bool.noConfusion hc | (exfalso; omega) | skip)) | (intro c hc; (try (simp only [AH.none_iff] at hc; repeat (have hn := hc.1; replace hc := hc.2))); (first | (refine i64_k hc ?_ ?_ ?_ ; omega; omega; (clear hc; intro hc; subst hc)) | skip)) | (apply Exists.intro; apply And.intro; (first | (focus (repeat (first | (with_reducible assumption) | (with_reducible exact AH.set_same _ _ _) | ((first | refine AH.get_ne ?_ ?_); (first | (with_reducible assumption) | exact Ne.symm (by with_reducible assumption))))); done))) | (apply Exists.intro; apply And.intro; first | (with_reducible assumption) | ((try simp only [List.getElem?_drop, Nat.mul_one, Nat.add_zero, Nat.zero_add]); first | (with_reducible assumption) | rfl)) | (apply And.intro; (first | rfl | (with_reducible assumption) | exact Nat.le_of_ble_eq_true rfl | omega | (simp <;> omega))))) <;> (try (conv => whnf))
            exact ⟨(j + 1, b), hstp, by dsimp only; omega, ⟨congrArg (AV.int .i64) (by dsimp only; omega), trivial⟩, HLe.refl _⟩
          | true =>
            rw [h1] at qa hab
            rw [← hab] at qb
            have w1 := qL_wr b (show x.a.toNat < n by omega)
            rw [putB_same h1] at w1
            have w2 := qL_wr b (show x.b.toNat < n by omega)
            rw [putB_same hab.symm] at w2
            have hfin : (((H.set r1 (.row R L.length)).set q (.row (qL n b) 0)).set q (.row (wrA (qL n b) (0 + x.a.toNat * 1) [.bool true]) 0)).set q (.row (wrA (wrA (qL n b) (0 + x.a.toNat * 1) [.bool true]) (0 + x.b.toNat * 1) [.bool true]) 0) = (H.set r1 (.row R L.length)).set q (.row (qL n b) 0) := by rw [AH.set_set, AH.set_set, w1, w2]
            (repeat' ((conv => whnf); first | refine Then.mk ?_ | left | refine OpsA.cons ?_ | refine OpsA.nil ?_ | refine AWq.seq ?_ | refine AWq.region ?_ | refine AWq.cond ?_ | refine AWq.block ?_ | refine AWq.skip ?_ | refine AWq.ret ?_ | refine AWq.exit ?_ | refine AWq.loop ?_ | (refine Both.mk ?_ ?_ <;> intro hc <;> (first | exact Bool.noConfusion hc | (exfalso; omega) | skip)) | (intro c hc; (try (simp only [AH.none_iff] at hc; repeat (have hn := hc.1; replace hc := hc.2))); (first | (refine i64_k hc ?_ ?_ ?_ ; omega; omega; (clear hc; intro hc; subst hc)) | skip)) | (apply Exists.intro; apply And.intro; (first | (focus (repeat (first | (with_reducible assumption) | (with_reducible exact AH.set_same _ _ _) | ((first | refine AH.get_ne ?_ ?_); (first | (with_reducible assumption) | exact Ne.symm (by with_reducible assumption))))); done))) | (apply Exists.intro; apply And.intro; first | (with_reducible assumption) | ((try simp only [List.getElem?_drop, Nat.mul_one, Nat.add_zero, Nat.zero_add]); first | (with_reducible assumption) | rfl)) | (apply And.intro; (first | rfl | (with_reducible assumption) | exact Nat.le_of_ble_eq_true rfl | omega | (simp <;> omega))))) <;> (try (conv => whnf))
            refine ⟨(j + 1, b), hstp, by dsimp only; omega, ⟨congrArg (AV.int .i64) (by dsimp only; omega), trivial⟩, HLe.of_eq hfin.symm⟩
        · have hnc : ¬ Clo es b0 := fun hc => by
            rw [hbc hc] at hab
            exact hab (hc x hxm)
          have w1 := qL_wr b (show x.a.toNat < n by omega)
          have w2 := qL_wr (putB b x.a.toNat) (show x.b.toNat < n by omega)
          have hfin : (((H.set r1 (.row R L.length)).set q (.row (qL n b) 0)).set q (.row (wrA (qL n b) (0 + x.a.toNat * 1) [.bool true]) 0)).set q (.row (wrA (wrA (qL n b) (0 + x.a.toNat * 1) [.bool true]) (0 + x.b.toNat * 1) [.bool true]) 0) = (H.set r1 (.row R L.length)).set q (.row (qL n (putB (putB b x.a.toNat) x.b.toNat)) 0) := by rw [AH.set_set, AH.set_set, w1, w2]
          have hlt : outN n (putB (putB b x.a.toNat) x.b.toNat) < outN n b := by
            cases h1 : b x.a.toNat with
            | false =>
              have h2 : b x.b.toNat = true := by rw [h1] at hab; revert hab; cases b x.b.toNat <;> simp
              have h3 : putB b x.a.toNat x.b.toNat = true := by unfold putB; split <;> first | rfl | exact h2
              rw [putB_same h3]
              exact outN_put (by omega) h1
            | true =>
              rw [putB_same h1]
              have h2 : b x.b.toNat = false := by rw [h1] at hab; revert hab; cases b x.b.toNat <;> simp
              exact outN_put (by omega) h2
          have hstp : j + 1 ≤ es.length ∧ putB (putB b x.a.toNat) x.b.toNat i = true ∧ (Clo es b0 → putB (putB b x.a.toNat) x.b.toNat = b0) ∧ (outN n (putB (putB b x.a.toNat) x.b.toNat) < outN n b0 ∨ putB (putB b x.a.toNat) x.b.toNat = b0 ∧ ∀ x ∈ es.take (j + 1), b0 x.a.toNat = b0 x.b.toNat) := by
            refine ⟨hjl, ?_, fun h => absurd h hnc, .inl (Nat.lt_of_lt_of_le hlt ?_)⟩
            · unfold putB; split
              · rfl
              · split
                · rfl
                · exact hb
            · rcases hbo with h | h
              · exact Nat.le_of_lt h
              · rw [h.1]; exact Nat.le_refl _
          cases h1 : b x.a.toNat with
          | false =>
            have h2 : b x.b.toNat = true := by rw [h1] at hab; revert hab; cases b x.b.toNat <;> simp
            rw [h1] at qa
            rw [h2] at qb
            (repeat' ((conv => whnf); first | refine Then.mk ?_ | left | refine OpsA.cons ?_ | refine OpsA.nil ?_ | refine AWq.seq ?_ | refine AWq.region ?_ | refine AWq.cond ?_ | refine AWq.block ?_ | refine AWq.skip ?_ | refine AWq.ret ?_ | refine AWq.exit ?_ | refine AWq.loop ?_ | (refine Both.mk ?_ ?_ <;> intro hc <;> (first | exact Bool.noConfusion hc | (exfalso; omega) | skip)) | (intro c hc; (try (simp only [AH.none_iff] at hc; repeat (have hn := hc.1; replace hc := hc.2))); (first | (refine i64_k hc ?_ ?_ ?_ ; omega; omega; (clear hc; intro hc; subst hc)) | skip)) | (apply Exists.intro; apply And.intro; (first | (focus (repeat (first | (with_reducible assumption) | (with_reducible exact AH.set_same _ _ _) | ((first | refine AH.get_ne ?_ ?_); (first | (with_reducible assumption) | exact Ne.symm (by with_reducible assumption))))); done))) | (apply Exists.intro; apply And.intro; first | (with_reducible assumption) | ((try simp only [List.getElem?_drop, Nat.mul_one, Nat.add_zero, Nat.zero_add]); first | (with_reducible assumption) | rfl)) | (apply And.intro; (first | rfl | (with_reducible assumption) | exact Nat.le_of_ble_eq_true rfl | omega | (simp <;> omega))))) <;> (try (conv => whnf))
            exact ⟨(j + 1, putB (putB b x.a.toNat) x.b.toNat), hstp, by dsimp only; omega, ⟨congrArg (AV.int .i64) (by dsimp only; omega), trivial⟩, HLe.of_eq hfin.symm⟩
          | true =>
            have h2 : b x.b.toNat = false := by rw [h1] at hab; revert hab; cases b x.b.toNat <;> simp
            rw [h1] at qa
            rw [h2] at qb
            (repeat' ((conv => whnf); first | refine Then.mk ?_ | left | refine OpsA.cons ?_ | refine OpsA.nil ?_ | refine AWq.seq ?_ | refine AWq.region ?_ | refine AWq.cond ?_ | refine AWq.block ?_ | refine AWq.skip ?_ | refine AWq.ret ?_ | refine AWq.exit ?_ | refine AWq.loop ?_ | (refine Both.mk ?_ ?_ <;> intro hc <;> (first | exact Bool.noConfusion hc | (exfalso; omega) | skip)) | (intro c hc; (try (simp only [AH.none_iff] at hc; repeat (have hn := hc.1; replace hc := hc.2))); (first | (refine i64_k hc ?_ ?_ ?_ ; omega; omega; (clear hc; intro hc; subst hc)) | skip)) | (apply Exists.intro; apply And.intro; (first | (focus (repeat (first | (with_reducible assumption) | (with_reducible exact AH.set_same _ _ _) | ((first | refine AH.get_ne ?_ ?_); (first | (with_reducible assumption) | exact Ne.symm (by with_reducible assumption))))); done))) | (apply Exists.intro; apply And.intro; first | (with_reducible assumption) | ((try simp only [List.getElem?_drop, Nat.mul_one, Nat.add_zero, Nat.zero_add]); first | (with_reducible assumption) | rfl)) | (apply And.intro; (first | rfl | (with_reducible assumption) | exact Nat.le_of_ble_eq_true rfl | omega | (simp <;> omega))))) <;> (try (conv => whnf))
            exact ⟨(j + 1, putB (putB b x.a.toNat) x.b.toNat), hstp, by dsimp only; omega, ⟨congrArg (AV.int .i64) (by dsimp only; omega), trivial⟩, HLe.of_eq hfin.symm⟩
      · have hje : j = es.length := by omega
        (repeat' ((conv => whnf); first | refine Then.mk ?_ | left | refine OpsA.cons ?_ | refine OpsA.nil ?_ | refine AWq.seq ?_ | refine AWq.region ?_ | refine AWq.cond ?_ | refine AWq.block ?_ | refine AWq.skip ?_ | refine AWq.ret ?_ | refine AWq.exit ?_ | refine AWq.loop ?_ | (refine Both.mk ?_ ?_ <;> intro hc <;> (first | exact Bool.noConfusion hc | (exfalso; omega) | skip)) | (intro c hc; (try (simp only [AH.none_iff] at hc; repeat (have hn := hc.1; replace hc := hc.2))); (first | (refine i64_k hc ?_ ?_ ?_ ; omega; omega; (clear hc; intro hc; subst hc)) | skip)) | (apply Exists.intro; apply And.intro; (first | (focus (repeat (first | (with_reducible assumption) | (with_reducible exact AH.set_same _ _ _) | ((first | refine AH.get_ne ?_ ?_); (first | (with_reducible assumption) | exact Ne.symm (by with_reducible assumption))))); done))) | (apply Exists.intro; apply And.intro; first | (with_reducible assumption) | ((try simp only [List.getElem?_drop, Nat.mul_one, Nat.add_zero, Nat.zero_add]); first | (with_reducible assumption) | rfl)) | (apply And.intro; (first | rfl | (with_reducible assumption) | exact Nat.le_of_ble_eq_true rfl | omega | (simp <;> omega))))) <;> (try (conv => whnf))
        refine ⟨(k + 1, b), ⟨hkn, hb, ?_⟩, by dsimp only; omega, ⟨congrArg (AV.int .i64) (by dsimp only; omega), trivial⟩, HLe.refl _⟩
        dsimp only
        rcases hcl with h | h
        · left; rw [hbc h]; exact h
        · rcases hbo with h2 | ⟨h2, h3⟩
          · right; omega
          · left
            rw [hje, List.take_of_length_le (Nat.le_refl _)] at h3
            rw [h2]; exact h3
    · have hkc : Clo es b0 := by
        rcases hcl with h | h
        · exact h
        · omega
      generalize b0 = b at *
      clear hcl
      (repeat' ((conv => whnf); first | refine Then.mk ?_ | left | refine OpsA.cons ?_ | refine OpsA.nil ?_ | refine AWq.seq ?_ | refine AWq.region ?_ | refine AWq.cond ?_ | refine AWq.block ?_ | refine AWq.skip ?_ | refine AWq.ret ?_ | refine AWq.exit ?_ | refine AWq.loop ?_ | (refine Both.mk ?_ ?_ <;> intro hc <;> (first | exact Bool.noConfusion hc | (exfalso; omega) | skip)) | (intro c hc; (try (simp only [AH.none_iff] at hc; repeat (have hn := hc.1; replace hc := hc.2))); (first | (refine i64_k hc ?_ ?_ ?_ ; omega; omega; (clear hc; intro hc; subst hc)) | skip)) | (apply Exists.intro; apply And.intro; (first | (focus (repeat (first | (with_reducible assumption) | (with_reducible exact AH.set_same _ _ _) | ((first | refine AH.get_ne ?_ ?_); (first | (with_reducible assumption) | exact Ne.symm (by with_reducible assumption))))); done))) | (apply Exists.intro; apply And.intro; first | (with_reducible assumption) | ((try simp only [List.getElem?_drop, Nat.mul_one, Nat.add_zero, Nat.zero_add]); first | (with_reducible assumption) | rfl)) | (apply And.intro; (first | rfl | (with_reducible assumption) | exact Nat.le_of_ble_eq_true rfl | omega | (simp <;> omega))))) <;> (try (conv => whnf))
      refine AWp_loop (σ := Nat × Bool) (12 :: 13 :: 68 :: 69 :: 70 :: 71 :: 72 :: 73 :: 74 :: 75 :: 76 :: 77 :: 78 :: 79 :: 80 :: []) (fun s => [(13, .int .i64 s.1), (12, .bool s.2)]) (fun s => (H.set r1 (.row R L.length)).set q (.row (qL n b) 0)) (fun s => s.1 ≤ i ∧ (s.2 = true → ∀ v, v < s.1 → b v = false)) (fun s => i - s.1) (0, true) rfl ⟨Nat.zero_le _, fun _ v hv => absurd hv (Nat.not_lt_zero v)⟩ ⟨rfl, rfl, trivial⟩ (HLe.refl _) ?_
      rintro ⟨j, al⟩ ⟨hj, hal⟩
      dsimp only at hj hal ⊢
      refine AWp.of tt_ok (dok _) rfl ?_
      have hql := qL_len n b
      by_cases hji : j < i
      · have qj : (qL n b)[(j : Int).toNat]? = some (.bool (b j)) := qL_get b (show j < n by omega)
        cases al with
        | false =>
          (repeat' ((conv => whnf); first | refine Then.mk ?_ | left | refine OpsA.cons ?_ | refine OpsA.nil ?_ | refine AWq.seq ?_ | refine AWq.region ?_ | refine AWq.cond ?_ | refine AWq.block ?_ | refine AWq.skip ?_ | refine AWq.ret ?_ | refine AWq.exit ?_ | refine AWq.loop ?_ | (refine Both.mk ?_ ?_ <;> intro hc <;> (first | exact Bool.noConfusion hc | (exfalso; omega) | skip)) | (intro c hc; (try (simp only [AH.none_iff] at hc; repeat (have hn := hc.1; replace hc := hc.2))); (first | (refine i64_k hc ?_ ?_ ?_ ; omega; omega; (clear hc; intro hc; subst hc)) | skip)) | (apply Exists.intro; apply And.intro; (first | (focus (repeat (first | (with_reducible assumption) | (with_reducible exact AH.set_same _ _ _) | ((first | refine AH.get_ne ?_ ?_); (first | (with_reducible assumption) | exact Ne.symm (by with_reducible assumption))))); done))) | (apply Exists.intro; apply And.intro; first | (with_reducible assumption) | ((try simp only [List.getElem?_drop, Nat.mul_one, Nat.add_zero, Nat.zero_add]); first | (with_reducible assumption) | rfl)) | (apply And.intro; (first | rfl | (with_reducible assumption) | exact Nat.le_of_ble_eq_true rfl | omega | (simp <;> omega))))) <;> (try (conv => whnf))
          exact ⟨(j + 1, false), ⟨hji, fun h => Bool.noConfusion h⟩, by dsimp only; omega, ⟨congrArg (AV.int .i64) (by dsimp only; omega), rfl, trivial⟩, HLe.refl _⟩
        | true =>
          cases h1 : b j with
          | true =>
            rw [h1] at qj
            (repeat' ((conv => whnf); first | refine Then.mk ?_ | left | refine OpsA.cons ?_ | refine OpsA.nil ?_ | refine AWq.seq ?_ | refine AWq.region ?_ | refine AWq.cond ?_ | refine AWq.block ?_ | refine AWq.skip ?_ | refine AWq.ret ?_ | refine AWq.exit ?_ | refine AWq.loop ?_ | (refine Both.mk ?_ ?_ <;> intro hc <;> (first | exact Bool.noConfusion hc | (exfalso; omega) | skip)) | (intro c hc; (try (simp only [AH.none_iff] at hc; repeat (have hn := hc.1; replace hc := hc.2))); (first | (refine i64_k hc ?_ ?_ ?_ ; omega; omega; (clear hc; intro hc; subst hc)) | skip)) | (apply Exists.intro; apply And.intro; (first | (focus (repeat (first | (with_reducible assumption) | (with_reducible exact AH.set_same _ _ _) | ((first | refine AH.get_ne ?_ ?_); (first | (with_reducible assumption) | exact Ne.symm (by with_reducible assumption))))); done))) | (apply Exists.intro; apply And.intro; first | (with_reducible assumption) | ((try simp only [List.getElem?_drop, Nat.mul_one, Nat.add_zero, Nat.zero_add]); first | (with_reducible assumption) | rfl)) | (apply And.intro; (first | rfl | (with_reducible assumption) | exact Nat.le_of_ble_eq_true rfl | omega | (simp <;> omega))))) <;> (try (conv => whnf))
            exact ⟨(j + 1, false), ⟨hji, fun h => Bool.noConfusion h⟩, by dsimp only; omega, ⟨congrArg (AV.int .i64) (by dsimp only; omega), rfl, trivial⟩, HLe.refl _⟩
          | false =>
            rw [h1] at qj
            (repeat' ((conv => whnf); first | refine Then.mk ?_ | left | refine OpsA.cons ?_ | refine OpsA.nil ?_ | refine AWq.seq ?_ | refine AWq.region ?_ | refine AWq.cond ?_ | refine AWq.block ?_ | refine AWq.skip ?_ | refine AWq.ret ?_ | refine AWq.exit ?_ | refine AWq.loop ?_ | (refine Both.mk ?_ ?_ <;> intro hc <;> (first | exact Bool.noConfusion hc | (exfalso; omega) | skip)) | (intro c hc; (try (simp only [AH.none_iff] at hc; repeat (have hn := hc.1; replace hc := hc.2))); (first | (refine i64_k hc ?_ ?_ ?_ ; omega; omega; (clear hc; intro hc; subst hc)) | skip)) | (apply Exists.intro; apply And.intro; (first | (focus (repeat (first | (with_reducible assumption) | (with_reducible exact AH.set_same _ _ _) | ((first | refine AH.get_ne ?_ ?_); (first | (with_reducible assumption) | exact Ne.symm (by with_reducible assumption))))); done))) | (apply Exists.intro; apply And.intro; first | (with_reducible assumption) | ((try simp only [List.getElem?_drop, Nat.mul_one, Nat.add_zero, Nat.zero_add]); first | (with_reducible assumption) | rfl)) | (apply And.intro; (first | rfl | (with_reducible assumption) | exact Nat.le_of_ble_eq_true rfl | omega | (simp <;> omega))))) <;> (try (conv => whnf))
            refine ⟨(j + 1, true), ⟨hji, fun _ v hv => ?_⟩, by dsimp only; omega, ⟨congrArg (AV.int .i64) (by dsimp only; omega), rfl, trivial⟩, HLe.refl _⟩
            dsimp only at hv
            by_cases hvj : v = j
            · rw [hvj]; exact h1
            · exact hal rfl v (by omega)
      · have hje : j = i := by omega
        subst hje
        (repeat' ((conv => whnf); first | refine Then.mk ?_ | left | refine OpsA.cons ?_ | refine OpsA.nil ?_ | refine AWq.seq ?_ | refine AWq.region ?_ | refine AWq.cond ?_ | refine AWq.block ?_ | refine AWq.skip ?_ | refine AWq.ret ?_ | refine AWq.exit ?_ | refine AWq.loop ?_ | (refine Both.mk ?_ ?_ <;> intro hc <;> (first | exact Bool.noConfusion hc | (exfalso; omega) | skip)) | (intro c hc; (try (simp only [AH.none_iff] at hc; repeat (have hn := hc.1; replace hc := hc.2))); (first | (refine i64_k hc ?_ ?_ ?_ ; omega; omega; (clear hc; intro hc; subst hc)) | skip)) | (apply Exists.intro; apply And.intro; (first | (focus (repeat (first | (with_reducible assumption) | (with_reducible exact AH.set_same _ _ _) | ((first | refine AH.get_ne ?_ ?_); (first | (with_reducible assumption) | exact Ne.symm (by with_reducible assumption))))); done))) | (apply Exists.intro; apply And.intro; first | (with_reducible assumption) | ((try simp only [List.getElem?_drop, Nat.mul_one, Nat.add_zero, Nat.zero_add]); first | (with_reducible assumption) | rfl)) | (apply And.intro; (first | rfl | (with_reducible assumption) | exact Nat.le_of_ble_eq_true rfl | omega | (simp <;> omega))))) <;> (try (conv => whnf))
        refine AWp_loop (σ := Nat × Bool) (12 :: 14 :: 81 :: 82 :: 83 :: 84 :: 85 :: 86 :: 87 :: 88 :: 89 :: 90 :: 91 :: 92 :: 93 :: 94 :: 95 :: 96 :: 97 :: 98 :: []) (fun s => [(14, .int .i64 s.1), (12, .bool s.2)]) (fun s => (H.set r1 (.row R L.length)).set q (.row (qL n b) 0)) (fun s => s.1 ≤ fs.length ∧ (s.2 = true → (∀ v, v < j → b v = false) ∧ ∀ x ∈ fs.take s.1, b x.a.toNat = false)) (fun s => fs.length - s.1) (0, al) rfl ⟨Nat.zero_le _, fun h => ⟨hal h, fun x hx => by simp at hx⟩⟩ ⟨rfl, rfl, trivial⟩ (HLe.refl _) ?_
        rintro ⟨m, al2⟩ ⟨hm, hal2⟩
        dsimp only at hm hal2 ⊢
        refine AWp.of tt_ok (dok _) rfl ?_
        by_cases hml : m < fs.length
        · obtain ⟨x, hx⟩ : ∃ x, fs[m]? = some x := ⟨_, List.getElem?_eq_getElem hml⟩
          have hxm := List.mem_of_getElem? hx
          obtain ⟨v1, v2, v5⟩ := hF x hxm
          have ga : (fxL fs)[(m : Int).toNat * 3]? = some (.int .i64 x.a) := fxL_get hx 0 (by decide)
          have qa := qL_get b (show x.a.toNat < n by omega)
          cases al2 with
          | false =>
            (repeat' ((conv => whnf); first | refine Then.mk ?_ | left | refine OpsA.cons ?_ | refine OpsA.nil ?_ | refine AWq.seq ?_ | refine AWq.region ?_ | refine AWq.cond ?_ | refine AWq.block ?_ | refine AWq.skip ?_ | refine AWq.ret ?_ | refine AWq.exit ?_ | refine AWq.loop ?_ | (refine Both.mk ?_ ?_ <;> intro hc <;> (first | exact Bool.noConfusion hc | (exfalso; omega) | skip)) | (intro c hc; (try (simp only [AH.none_iff] at hc; repeat (have hn := hc.1; replace hc := hc.2))); (first | (refine i64_k hc ?_ ?_ ?_ ; omega; omega; (clear hc; intro hc; subst hc)) | skip)) | (apply Exists.intro; apply And.intro; (first | (focus (repeat (first | (with_reducible assumption) | (with_reducible exact AH.set_same _ _ _) | ((first | refine AH.get_ne ?_ ?_); (first | (with_reducible assumption) | exact Ne.symm (by with_reducible assumption))))); done))) | (apply Exists.intro; apply And.intro; first | (with_reducible assumption) | ((try simp only [List.getElem?_drop, Nat.mul_one, Nat.add_zero, Nat.zero_add]); first | (with_reducible assumption) | rfl)) | (apply And.intro; (first | rfl | (with_reducible assumption) | exact Nat.le_of_ble_eq_true rfl | omega | (simp <;> omega))))) <;> (try (conv => whnf))
            exact ⟨(m + 1, false), ⟨hml, fun h => Bool.noConfusion h⟩, by dsimp only; omega, ⟨congrArg (AV.int .i64) (by dsimp only; omega), rfl, trivial⟩, HLe.refl _⟩
          | true =>
            cases h1 : b x.a.toNat with
            | true =>
              rw [h1] at qa
              (repeat' ((conv => whnf); first | refine Then.mk ?_ | left | refine OpsA.cons ?_ | refine OpsA.nil ?_ | refine AWq.seq ?_ | refine AWq.region ?_ | refine AWq.cond ?_ | refine AWq.block ?_ | refine AWq.skip ?_ | refine AWq.ret ?_ | refine AWq.exit ?_ | refine AWq.loop ?_ | (refine Both.mk ?_ ?_ <;> intro hc <;> (first | exact Bool.noConfusion hc | (exfalso; omega) | skip)) | (intro c hc; (try (simp only [AH.none_iff] at hc; repeat (have hn := hc.1; replace hc := hc.2))); (first | (refine i64_k hc ?_ ?_ ?_ ; omega; omega; (clear hc; intro hc; subst hc)) | skip)) | (apply Exists.intro; apply And.intro; (first | (focus (repeat (first | (with_reducible assumption) | (with_reducible exact AH.set_same _ _ _) | ((first | refine AH.get_ne ?_ ?_); (first | (with_reducible assumption) | exact Ne.symm (by with_reducible assumption))))); done))) | (apply Exists.intro; apply And.intro; first | (with_reducible assumption) | ((try simp only [List.getElem?_drop, Nat.mul_one, Nat.add_zero, Nat.zero_add]); first | (with_reducible assumption) | rfl)) | (apply And.intro; (first | rfl | (with_reducible assumption) | exact Nat.le_of_ble_eq_true rfl | omega | (simp <;> omega))))) <;> (try (conv => whnf))
              exact ⟨(m + 1, false), ⟨hml, fun h => Bool.noConfusion h⟩, by dsimp only; omega, ⟨congrArg (AV.int .i64) (by dsimp only; omega), rfl, trivial⟩, HLe.refl _⟩
            | false =>
              rw [h1] at qa
              (repeat' ((conv => whnf); first | refine Then.mk ?_ | left | refine OpsA.cons ?_ | refine OpsA.nil ?_ | refine AWq.seq ?_ | refine AWq.region ?_ | refine AWq.cond ?_ | refine AWq.block ?_ | refine AWq.skip ?_ | refine AWq.ret ?_ | refine AWq.exit ?_ | refine AWq.loop ?_ | (refine Both.mk ?_ ?_ <;> intro hc <;> (first | exact Bool.noConfusion hc | (exfalso; omega) | skip)) | (intro c hc; (try (simp only [AH.none_iff] at hc; repeat (have hn := hc.1; replace hc := hc.2))); (first | (refine i64_k hc ?_ ?_ ?_ ; omega; omega; (clear hc; intro hc; subst hc)) | skip)) | (apply Exists.intro; apply And.intro; (first | (focus (repeat (first | (with_reducible assumption) | (with_reducible exact AH.set_same _ _ _) | ((first | refine AH.get_ne ?_ ?_); (first | (with_reducible assumption) | exact Ne.symm (by with_reducible assumption))))); done))) | (apply Exists.intro; apply And.intro; first | (with_reducible assumption) | ((try simp only [List.getElem?_drop, Nat.mul_one, Nat.add_zero, Nat.zero_add]); first | (with_reducible assumption) | rfl)) | (apply And.intro; (first | rfl | (with_reducible assumption) | exact Nat.le_of_ble_eq_true rfl | omega | (simp <;> omega))))) <;> (try (conv => whnf))
              exact ⟨(m + 1, true), ⟨hml, fun h => ⟨(hal2 rfl).1, all_take hx (hal2 rfl).2 h1⟩⟩, by dsimp only; omega, ⟨congrArg (AV.int .i64) (by dsimp only; omega), rfl, trivial⟩, HLe.refl _⟩
        · have hme : m = fs.length := by omega
          rw [hme, List.take_of_length_le (Nat.le_refl _)] at hal2
          have hdrop := HLe.fresh (H := H.set r1 (.row R L.length)) (.row (qL n b) 0) hq
          cases al2 with
          | false =>
            (repeat' ((conv => whnf); first | refine Then.mk ?_ | left | refine OpsA.cons ?_ | refine OpsA.nil ?_ | refine AWq.seq ?_ | refine AWq.region ?_ | refine AWq.cond ?_ | refine AWq.block ?_ | refine AWq.skip ?_ | refine AWq.ret ?_ | refine AWq.exit ?_ | refine AWq.loop ?_ | (refine Both.mk ?_ ?_ <;> intro hc <;> (first | exact Bool.noConfusion hc | (exfalso; omega) | skip)) | (intro c hc; (try (simp only [AH.none_iff] at hc; repeat (have hn := hc.1; replace hc := hc.2))); (first | (refine i64_k hc ?_ ?_ ?_ ; omega; omega; (clear hc; intro hc; subst hc)) | skip)) | (apply Exists.intro; apply And.intro; (first | (focus (repeat (first | (with_reducible assumption) | (with_reducible exact AH.set_same _ _ _) | ((first | refine AH.get_ne ?_ ?_); (first | (with_reducible assumption) | exact Ne.symm (by with_reducible assumption))))); done))) | (apply Exists.intro; apply And.intro; first | (with_reducible assumption) | ((try simp only [List.getElem?_drop, Nat.mul_one, Nat.add_zero, Nat.zero_add]); first | (with_reducible assumption) | rfl)) | (apply And.intro; (first | rfl | (with_reducible assumption) | exact Nat.le_of_ble_eq_true rfl | omega | (simp <;> omega))))) <;> (try (conv => whnf))
            exact ⟨(L, j + 1), ⟨hil, by dsimp only; omega, hL⟩, by dsimp only; omega, ⟨congrArg (AV.int .i64) (by dsimp only; omega), rfl, trivial⟩, by dsimp only; rw [← hR]; exact hdrop⟩
          | true =>
            have hnew : ∀ i ∈ L ++ [j], LooseP n es fs i := fun i hi => by
              rcases List.mem_append.1 hi with h | h
              · exact hL i h
              · rw [List.mem_singleton.1 h]
                exact ⟨hil, b, hb0, hkc, (hal2 rfl).1, (hal2 rfl).2⟩
            have hll : (L ++ [j]).length = L.length + 1 := by simp
            generalize L ++ [j] = L2 at *
            (repeat' ((conv => whnf); first | refine Then.mk ?_ | left | refine OpsA.cons ?_ | refine OpsA.nil ?_ | refine AWq.seq ?_ | refine AWq.region ?_ | refine AWq.cond ?_ | refine AWq.block ?_ | refine AWq.skip ?_ | refine AWq.ret ?_ | refine AWq.exit ?_ | refine AWq.loop ?_ | (refine Both.mk ?_ ?_ <;> intro hc <;> (first | exact Bool.noConfusion hc | (exfalso; omega) | skip)) | (intro c hc; (try (simp only [AH.none_iff] at hc; repeat (have hn := hc.1; replace hc := hc.2))); (first | (refine i64_k hc ?_ ?_ ?_ ; omega; omega; (clear hc; intro hc; subst hc)) | skip)) | (apply Exists.intro; apply And.intro; (first | (focus (repeat (first | (with_reducible assumption) | (with_reducible exact AH.set_same _ _ _) | ((first | refine AH.get_ne ?_ ?_); (first | (with_reducible assumption) | exact Ne.symm (by with_reducible assumption))))); done))) | (apply Exists.intro; apply And.intro; first | (with_reducible assumption) | ((try simp only [List.getElem?_drop, Nat.mul_one, Nat.add_zero, Nat.zero_add]); first | (with_reducible assumption) | rfl)) | (apply And.intro; (first | rfl | (with_reducible assumption) | exact Nat.le_of_ble_eq_true rfl | omega | (simp <;> omega))))) <;> (try (conv => whnf))
            refine ⟨(L2, j + 1), ⟨hil, by dsimp only; omega, hnew⟩, by dsimp only; omega, ⟨congrArg (AV.int .i64) (by dsimp only; omega), ?_, trivial⟩, ?_⟩
            · first | exact congrArg (fun k => AV.sl r1 k 1 0 k none) hll | exact congrArg (fun k => AV.sl r1 k 1 0 k none) hll.symm
            · dsimp only
              rw [hsn, hll, AH.set_back _ (Ne.symm hqr)]
              exact HLe.fresh _ (by rw [AH.set_ne _ _ hqr]; exact hc0)
  · have hie : i = n := by omega
    (iterate 1 ((repeat' ((conv => whnf); first | left | refine OpsA.cons ?_ | refine OpsA.nil ?_ | refine AWq.seq ?_ | refine AWq.region ?_ | refine AWq.cond ?_ | refine AWq.block ?_ | refine AWq.skip ?_ | refine AWq.ret ?_ | refine AWq.exit ?_ | refine AWq.loop ?_ | (refine Both.mk ?_ ?_ <;> intro hc <;> (first | exact Bool.noConfusion hc | (exfalso; omega) | skip)) | (intro c hc; (try (simp only [AH.none_iff] at hc; repeat (have hn := hc.1; replace hc := hc.2))); (first | (refine i64_k hc ?_ ?_ ?_ ; omega; omega; (clear hc; intro hc; subst hc)) | skip)) | (apply Exists.intro; apply And.intro; (first | (focus (repeat (first | (with_reducible assumption) | (with_reducible exact AH.set_same _ _ _) | ((first | refine AH.get_ne ?_ ?_); (first | (with_reducible assumption) | exact Ne.symm (by with_reducible assumption))))); done))) | (apply Exists.intro; apply And.intro; first | (with_reducible assumption) | ((try simp only [List.getElem?_drop, Nat.mul_one, Nat.add_zero, Nat.zero_add]); first | (with_reducible assumption) | rfl)) | (apply And.intro; (first | rfl | (with_reducible assumption) | exact Nat.le_of_ble_eq_true rfl | omega | (simp <;> omega))))) <;> (try (conv => whnf)); refine Then.mk ?_))
    refine AWq.in ?_
    refine AWp_freeze1 7 (r := r1) (v := L.length) (es := 1) (n := L.length) (lim := none) (cells := R) rfl rfl hg1 (by omega) ?_
    refine AWp_less H (HLe.del _ (HLe.fresh _ hr1) hr1) ?_
    refine AWp.of tt_ok (dok _) rfl ?_
    (repeat' ((conv => whnf); first | refine Then.mk ?_ | left | refine OpsA.cons ?_ | refine OpsA.nil ?_ | refine AWq.seq ?_ | refine AWq.region ?_ | refine AWq.cond ?_ | refine AWq.block ?_ | refine AWq.skip ?_ | refine AWq.ret ?_ | refine AWq.exit ?_ | refine AWq.loop ?_ | (refine Both.mk ?_ ?_ <;> intro hc <;> (first | exact Bool.noConfusion hc | (exfalso; omega) | skip)) | (intro c hc; (try (simp only [AH.none_iff] at hc; repeat (have hn := hc.1; replace hc := hc.2))); (first | (refine i64_k hc ?_ ?_ ?_ ; omega; omega; (clear hc; intro hc; subst hc)) | skip)) | (apply Exists.intro; apply And.intro; (first | (focus (repeat (first | (with_reducible assumption) | (with_reducible exact AH.set_same _ _ _) | ((first | refine AH.get_ne ?_ ?_); (first | (with_reducible assumption) | exact Ne.symm (by with_reducible assumption))))); done))) | (apply Exists.intro; apply And.intro; first | (with_reducible assumption) | ((try simp only [List.getElem?_drop, Nat.mul_one, Nat.add_zero, Nat.zero_add]); first | (with_reducible assumption) | rfl)) | (apply And.intro; (first | rfl | (with_reducible assumption) | exact Nat.le_of_ble_eq_true rfl | omega | (simp <;> omega))))) <;> (try (conv => whnf))
    exact ⟨L, by omega, hL, by rw [hR], rfl⟩
end Go.Proofs.Ytebflkgpbbjhnaa
/- Solve's answer against the reference: Loose and Check. -/
namespace Go.Proofs.Ytebflkgpbbjhnaa
open Go.Fw Go
set_option linter.unusedVariables false
set_option linter.unusedSimpArgs false

theorem loose0 {n : Nat} {es : List Ed} {fs : List Fx} {A : List Ac} {d o : Nat → Int} (h : Sv n es fs A d o) {i : Nat} (hL : LooseP n es fs i) (hE : ∀ x ∈ es, vE n x) : offS n d o i = 0 := by
  obtain ⟨hi, b, hb, hcl, hlo, hfx⟩ := hL
  have hS : ∀ x ∈ A, (x.a < n ∧ b x.a = true) ↔ (x.b < n ∧ b x.b = true) := by
    intro x hx
    obtain ⟨j, hj⟩ := List.mem_iff_getElem?.1 hx
    have hjl : j < A.length := by
      rcases Nat.lt_or_ge j A.length with h | h
      · exact h
      · rw [List.getElem?_eq_none h] at hj; cases hj
    rw [h.alk.len] at hjl
    obtain ⟨y, hy⟩ : ∃ y, (net0 n es fs)[j]? = some y := ⟨_, List.getElem?_eq_getElem hjl⟩
    obtain ⟨g, hg⟩ := (h.alk j).1 y hy
    rw [hj] at hg
    cases hg
    show (y.a < n ∧ b y.a = true) ↔ (y.b < n ∧ b y.b = true)
    have hym := List.mem_of_getElem? hy
    unfold net0 at hym
    rcases List.mem_append.1 hym with hm | hm
    · obtain ⟨e, he, rfl⟩ := List.mem_map.1 hm
      obtain ⟨v1, v2, v3, v4, v5⟩ := hE e he
      show (e.a.toNat < n ∧ b e.a.toNat = true) ↔ (e.b.toNat < n ∧ b e.b.toNat = true)
      rw [hcl e he]
      constructor
      · exact fun k => ⟨by omega, k.2⟩
      · exact fun k => ⟨by omega, k.2⟩
    · obtain ⟨e, he, rfl⟩ := List.mem_map.1 hm
      show (e.a.toNat < n ∧ b e.a.toNat = true) ↔ (n < n ∧ b n = true)
      rw [hfx e he]
      constructor
      · exact fun k => Bool.noConfusion k.2
      · exact fun k => absurd k.1 (Nat.lt_irrefl n)
  obtain ⟨u, hu, hun, hub⟩ := h.bi.cl (fun v => v < n ∧ b v = true) (fun k => absurd k.1 (Nat.lt_irrefl n)) hS i (by omega) ⟨hi, hb⟩
  have hup := h.bi.up i (by omega)
  have hui : u = i := by
    by_cases hlt : u < i
    · rw [hlo u hlt] at hub; cases hub
    · omega
  have hbs : bsN n o i = i := by unfold bsN; rw [hu, hui, if_neg (by omega)]
  unfold offS
  rw [hbs, Int.toNat_natCast]; omega
theorem loose0_c (n : Nat) (es : List Ed) (fs : List Fx) (hv : validV n es fs = 0) (H : AH) :
    ACall Try.prog 18 [.int .i64 n, .cs (edL es) es.length, .cs (fxL fs) fs.length] H (fun y H' => (∃ L : List Nat, L.length ≤ n ∧ (∀ i ∈ L, LooseP n es fs i) ∧ y = .cs (iS .i64 (L.map fun i : Nat => (i : Int))) L.length) ∧ H' = H) := by
  obtain ⟨⟨_, hn⟩, ⟨he, hf⟩, hE, hF⟩ := validV_ok hv
  refine (loose_c n (by omega) es fs he hf hE hF H).mono ?_
  rintro y H' ⟨L, h1, h2, h3, h4⟩
  exact ⟨⟨L, h1, h2, h3⟩, h4⟩
theorem rcheck_solved {n : Nat} {es : List Ed} {fs : List Fx} {A : List Ac} {d o : Nat → Int} (h : Sv n es fs A d o) (hv : validV n es fs = 0) (H : AH) :
    ACall Try.prog 15 [.int .i64 n, .cs (edL es) es.length, .cs (fxL fs) fs.length, .agg [.cs (iS .i64 (fnL n (offS n d o))) n, .cs (iS .i64 (flE es A)) es.length, .cs (iS .i64 (flF es A)) fs.length, .int .i64 (costR es fs (fnL n (offS n d o))).1]] H (fun y H' => y = .int .i64 0 ∧ H' = H) := by
  obtain ⟨⟨_, hn⟩, ⟨he, hf⟩, hE, hF⟩ := validV_ok hv
  obtain ⟨_, _, _, f4, f5⟩ := h.flows hE hF
  have hc := rcheck_c n es fs hv (fnL n (offS n d o)) (flE es A) (flF es A) (costR es fs (fnL n (offS n d o))).1 (by rw [fnL_len]; omega) (by omega) (by omega) 0 (fun _ => rfl) (fun k => absurd (h.chk hE hF hv) k) H
  rw [fnL_len, f4, f5] at hc
  exact hc
end Go.Proofs.Ytebflkgpbbjhnaa
/- The law BalanceSolves: the contract of the law's function. -/
namespace Go.Proofs.Ytebflkgpbbjhnaa
open Go.Fw Go
set_option linter.unusedVariables false
set_option linter.unusedSimpArgs false

theorem Sv.best {n : Nat} {es : List Ed} {fs : List Fx} {A : List Ac} {d o : Nat → Int} (h : Sv n es fs A d o) (hn : n ≤ 3) (hv : validV n es fs = 0) (he : es.length ≤ 12) (hf : fs.length ≤ 5) (hE2 : ∀ x ∈ es, (-2 ≤ x.d ∧ x.d ≤ 2) ∧ x.w ≤ 9) (hF2 : ∀ x ∈ fs, (-2 ≤ x.v ∧ x.v ≤ 2) ∧ x.w ≤ 9) {b : Int} (hb : BestI n es fs (17 ^ n) b) : (Proofs.Ytebflkgpbbjhnaa.costR es fs (fnL n (offS n d o))).1 = b := by
  obtain ⟨_, _, hE, hF⟩ := validV_ok hv
  rw [h.costR hE hF hv]
  show costP es fs (ofL (fnL n (offS n d o))) = b
  have hnear := near (m := 2) (fun x hx => by
    obtain ⟨y, hy, e1, e2, e3, e4⟩ := alk_mem h.alk hx
    have hok := h.ok x hx
    refine ⟨hok.a, hok.b, ?_⟩
    unfold net0 at hy
    rw [← e3]
    rcases List.mem_append.1 hy with hm | hm
    · obtain ⟨e, he, rfl⟩ := List.mem_map.1 hm
      exact (hE2 e he).1
    · obtain ⟨e, he, rfl⟩ := List.mem_map.1 hm
      exact (hF2 e he).1) h.fe h.up h.max
  have hrng : ∀ j, j < n → -8 ≤ offS n d o j ∧ offS n d o j ≤ 8 := fun j hj => by
    obtain ⟨b1, b2⟩ := h.bs (v := j) (by omega)
    have l1 := hnear j (by omega)
    have u1 := h.up j (by omega)
    have l2 := hnear (bsN n o j).toNat (by omega)
    have u2 := h.up (bsN n o j).toNat (by omega)
    unfold offS
    omega
  obtain ⟨k, hk, hd⟩ := dig_all n _ hrng
  obtain ⟨b0, b1, b2⟩ := hb
  have h1 := b1 k hk
  rw [fnL_congr hd] at h1
  have hz : costP es fs (ofL (fnL n (offS n d o))) ≤ 1000 := by
    refine Int.le_trans (h.min hE hF (fun _ => 0)) ?_
    have s1 := sum_bd (l := es.map (costE fun _ => 0)) (b := 18) (fun c hc => by
      obtain ⟨x, hx, rfl⟩ := List.mem_map.1 hc
      obtain ⟨_, _, _, _, v5⟩ := hE x hx
      obtain ⟨w1, w2⟩ := hE2 x hx
      show 0 ≤ x.w * absI (0 - 0 - x.d) ∧ x.w * absI (0 - 0 - x.d) ≤ 18
      have ha : 0 ≤ absI (0 - 0 - x.d) ∧ absI (0 - 0 - x.d) ≤ 2 := absI_bd (by omega)
      generalize absI (0 - 0 - x.d) = z at *
      have p1 := Int.mul_nonneg (show 0 ≤ x.w by omega) ha.1
      have p2 := Int.mul_nonneg (show 0 ≤ 9 - x.w by omega) ha.1
      rw [Int.sub_mul] at p2
      omega)
    have s2 := sum_bd (l := fs.map (costF fun _ => 0)) (b := 18) (fun c hc => by
      obtain ⟨x, hx, rfl⟩ := List.mem_map.1 hc
      obtain ⟨_, _, v5⟩ := hF x hx
      obtain ⟨w1, w2⟩ := hF2 x hx
      show 0 ≤ x.w * absI (0 - x.v) ∧ x.w * absI (0 - x.v) ≤ 18
      have ha : 0 ≤ absI (0 - x.v) ∧ absI (0 - x.v) ≤ 2 := absI_bd (by omega)
      generalize absI (0 - x.v) = z at *
      have p1 := Int.mul_nonneg (show 0 ≤ x.w by omega) ha.1
      have p2 := Int.mul_nonneg (show 0 ≤ 9 - x.w by omega) ha.1
      rw [Int.sub_mul] at p2
      omega)
    rw [List.length_map] at s1 s2
    unfold costP
    omega
  rcases b2 with h2 | ⟨i, hi, h2⟩
  · omega
  · have := h.min hE hF (ofL (fnL n (dig i)))
    omega
theorem BestI.one {n : Nat} {es : List Ed} {fs : List Fx} {k : Nat} {b c : Int} (h : BestI n es fs k b) (g : BestI n es fs k c) : b = c := by
  obtain ⟨h0, h1, h2⟩ := h
  obtain ⟨g0, g1, g2⟩ := g
  rcases h2 with h2 | ⟨i, hi, h2⟩
  · rcases g2 with g2 | ⟨j, hj, g2⟩
    · omega
    · have := h1 j hj; omega
  · have := g1 i hi
    rcases g2 with g2 | ⟨j, hj, g2⟩
    · omega
    · have := h1 j hj; omega
theorem BestI.ex (n : Nat) (es : List Ed) (fs : List Fx) : ∀ k, ∃ b, BestI n es fs k b
  | 0 => ⟨1152921504606846976, Int.le_refl _, fun i hi => absurd hi (Nat.not_lt_zero i), .inl rfl⟩
  | k + 1 => let ⟨_, h⟩ := BestI.ex n es fs k; ⟨_, h.step⟩
set_option maxHeartbeats 4000000 in
set_option maxRecDepth 8000 in
theorem BalanceSolves_c (x0 : Int) (hx0 : -9223372036854775808 ≤ x0 ∧ x0 ≤ 9223372036854775807) (l1 : List Int) (hl1 : l1.length ≤ maxLen) (hr1 : ∀ n ∈ l1, -9223372036854775808 ≤ n ∧ n ≤ 9223372036854775807) :
    ACall Try.prog 3 [.int .i64 x0, .cs (iS .i64 l1) l1.length] (fun _ => none) (fun y _ => y = .bool true) := by
  have ha1 : ∀ H, ACall Try.prog 11 [.int .i64 x0, .int .i64 4] H (fun y H' => y = .int .i64 (aro x0 4) ∧ H' = H) := fun H => around_f x0 hx0.1 hx0.2 4 (by decide) (by decide) H
  have hn := aro_lt (n := x0) (m := 4) (by decide)
  generalize aro x0 4 = n at *
  have hpr : ∀ H, ACall Try.prog 12 [.int .i64 n, .cs (iS .i64 l1) l1.length, .int .i64 2] H (fun y H' => y = .tup [.cs (edL (prES n 2 l1)) (prES n 2 l1).length, .cs (fxL (prFS n 2 l1)) (prFS n 2 l1).length] ∧ H' = H) := fun H => problem_c n 2 (by omega) (by decide) l1 hr1 hl1 H
  obtain ⟨v1, v2, v3, v4⟩ := pr_valid (n := n) (most := 2) (by omega) (by decide) l1
  generalize prES n 2 l1 = es at *
  generalize prFS n 2 l1 = fs at *
  have hvz : validV n es fs = 0 := valid0 (by omega) (by omega) (by omega) (fun x hx => (v1 x hx).1) (fun x hx => (v2 x hx).1)
  obtain ⟨_, _, hE, hF⟩ := validV_ok hvz
  have r1 := fun H => real_c es fs (by omega) (by omega) H
  have s1 := fun H => solve_c n es fs hvz H
  have s2 := fun H => loose0_c n es fs hvz H
  obtain ⟨b0, hb0⟩ := BestI.ex n es fs (17 ^ n)
  have s3 := fun H => (best_c n (by omega) es fs hvz H).mono (K' := fun y H' => y = .int .i64 b0 ∧ H' = H) fun y H' ⟨⟨b, hb, hy⟩, hH⟩ => ⟨by rw [hy, hb.one hb0], hH⟩
  generalize (fun _ => none : AH) = H0
  refine ACall_of tt_ok (dok _) Try.func3 rfl (by decide) rfl ?_
  (repeat' ((conv => whnf); first | refine Then.mk ?_ | refine OpsA.cons ?_ | refine OpsA.nil ?_ | refine AWq.seq ?_ | refine AWq.region ?_ | refine AWq.cond ?_ | refine AWq.block ?_ | refine AWq.skip ?_ | refine AWq.ret ?_ | refine AWq.exit ?_ | refine AWq.loop ?_ | refine DrawA.consD ?_ | refine DrawA.nil ?_ | refine AWq.draw (by decide +kernel) ?_ | (refine Both.mk ?_ ?_ <;> intro hc <;> (first | exact Bool.noConfusion hc | exact absurd (by with_reducible rfl) hc | exact absurd (by assumption) hc | (exfalso; omega) | skip)) | (intro c hc; (try (simp only [AH.none_iff] at hc; repeat (have hn := hc.1; replace hc := hc.2))); (first | (refine i64_k hc ?_ ?_ ?_ ; omega; omega; (clear hc; intro hc; subst hc)) | skip)) | (apply Exists.intro; apply And.intro; (first | (focus (repeat (first | (with_reducible assumption) | (with_reducible exact AH.set_same _ _ _))); done))) | (apply Exists.intro; apply And.intro; first | (with_reducible assumption) | ((try simp only [List.getElem?_drop, Nat.mul_one, Nat.add_zero, Nat.zero_add]); first | (with_reducible assumption) | rfl)) | (apply And.intro; (first | rfl | (with_reducible assumption) | exact Nat.le_of_ble_eq_true rfl | omega)) | (refine ACall.to (ha1 _) ?_) | (refine ACall.to (hpr _) ?_) | (refine ACall.to (r1 _) ?_))) <;> (try (conv => whnf))
  refine ACall.mono (s1 _) ?_
  rintro y H2 ⟨A, dd, oo, hSv, rfl, rfl⟩
  have c1 := fun H => check_solved hSv hvz H
  have c2 := fun H => rcheck_solved hSv hvz H
  have hz := fun i (hL : LooseP n es fs i) => loose0 hSv hL hE
  have hbe := hSv.best (by omega) hvz v3 v4 (fun x hx => (v1 x hx).2) (fun x hx => (v2 x hx).2) hb0
  have hon := one_iS .i64 (fnL n (offS n dd oo))
  have hol : (iS .i64 (fnL n (offS n dd oo))).length = n := by simp
  have hog : ∀ i : Nat, i < n → (iS .i64 (fnL n (offS n dd oo)))[i]? = some (.int .i64 (offS n dd oo i)) := fun i hi => dL_get _ hi
  unfold solV
  generalize (costR es fs (fnL n (offS n dd oo))).1 = cc at *
  generalize iS .i64 (fnL n (offS n dd oo)) = OL at *
  generalize iS .i64 (flE es A) = EL at *
  generalize iS .i64 (flF es A) = FL at *
  (repeat' ((conv => whnf); first | refine OpsA.cons ?_ | refine OpsA.nil ?_ | refine AWq.seq ?_ | refine AWq.region ?_ | refine AWq.cond ?_ | refine AWq.block ?_ | refine AWq.skip ?_ | refine AWq.ret ?_ | refine AWq.exit ?_ | refine AWq.loop ?_ | refine DrawA.consD ?_ | refine DrawA.nil ?_ | refine AWq.draw (by decide +kernel) ?_ | (refine Both.mk ?_ ?_ <;> intro hc <;> (first | exact Bool.noConfusion hc | exact absurd (by with_reducible rfl) hc | exact absurd (by assumption) hc | (exfalso; omega) | skip)) | (intro c hc; (try (simp only [AH.none_iff] at hc; repeat (have hn := hc.1; replace hc := hc.2))); (first | (refine i64_k hc ?_ ?_ ?_ ; omega; omega; (clear hc; intro hc; subst hc)) | skip)) | (apply Exists.intro; apply And.intro; (first | (focus (repeat (first | (with_reducible assumption) | (with_reducible exact AH.set_same _ _ _))); done))) | (apply Exists.intro; apply And.intro; first | (with_reducible assumption) | ((try simp only [List.getElem?_drop, Nat.mul_one, Nat.add_zero, Nat.zero_add]); first | (with_reducible assumption) | rfl)) | (apply And.intro; (first | rfl | (with_reducible assumption) | exact Nat.le_of_ble_eq_true rfl | omega)))) <;> (try (conv => whnf))
  refine Then.mk (AWq.in ?_)
  refine AWp_segP 10 [.cs OL n, .cs EL es.length, .cs FL fs.length, .int .i64 cc] rfl rfl (by assumption) rfl rfl ?_
  refine AWp.of tt_ok (dok _) rfl ?_
  (repeat' ((conv => whnf); first | refine Then.mk ?_ | refine OpsA.cons ?_ | refine OpsA.nil ?_ | refine AWq.seq ?_ | refine AWq.region ?_ | refine AWq.cond ?_ | refine AWq.block ?_ | refine AWq.skip ?_ | refine AWq.ret ?_ | refine AWq.exit ?_ | refine AWq.loop ?_ | refine DrawA.consD ?_ | refine DrawA.nil ?_ | refine AWq.draw (by decide +kernel) ?_ | (apply Exists.intro; apply And.intro; exact plain_c _ _ _ _ _ _ _ _) | (apply Exists.intro; apply And.intro; exact c2 _) | (apply Exists.intro; apply And.intro; exact s3 _) | (refine Both.mk ?_ ?_ <;> intro hc <;> (first | exact Bool.noConfusion hc | exact absurd (by with_reducible rfl) hc | exact absurd (by assumption) hc | (exfalso; omega) | skip)) | (intro c hc; (try (simp only [AH.none_iff] at hc; repeat (have hn := hc.1; replace hc := hc.2))); (first | (refine i64_k hc ?_ ?_ ?_ ; omega; omega; (clear hc; intro hc; subst hc)) | skip)) | (apply Exists.intro; apply And.intro; (first | (focus (repeat (first | (with_reducible assumption) | (with_reducible exact AH.set_same _ _ _))); done))) | (apply Exists.intro; apply And.intro; first | (with_reducible assumption) | ((try simp only [List.getElem?_drop, Nat.mul_one, Nat.add_zero, Nat.zero_add]); first | (with_reducible assumption) | rfl)) | (apply And.intro; (first | rfl | (with_reducible assumption) | exact Nat.le_of_ble_eq_true rfl | omega)))) <;> (try (conv => whnf))
  refine ACall.mono (s2 _) ?_
  rintro y H3 ⟨⟨L, hLl, hL, rfl⟩, rfl⟩
  have hLg : ∀ (j : Nat) (i : Nat), L[j]? = some i → (iS .i64 (L.map fun i : Nat => (i : Int)))[(j : Int).toNat]? = some (.int .i64 (i : Int)) := fun j i h => by
    unfold iS
    rw [List.getElem?_map, List.getElem?_map, Int.toNat_natCast, h]; rfl
  have hLn : (iS .i64 (L.map fun i : Nat => (i : Int))).length = L.length := by simp
  have hLo := one_iS .i64 (L.map fun i : Nat => (i : Int))
  generalize iS .i64 (L.map fun i : Nat => (i : Int)) = RL at *
  (repeat' ((conv => whnf); first | refine Then.mk ?_ | refine OpsA.cons ?_ | refine OpsA.nil ?_ | refine AWq.seq ?_ | refine AWq.region ?_ | refine AWq.cond ?_ | refine AWq.block ?_ | refine AWq.skip ?_ | refine AWq.ret ?_ | refine AWq.exit ?_ | refine AWq.loop ?_ | refine DrawA.consD ?_ | refine DrawA.nil ?_ | refine AWq.draw (by decide +kernel) ?_ | (refine Both.mk ?_ ?_ <;> intro hc <;> (first | exact Bool.noConfusion hc | exact absurd (by with_reducible rfl) hc | exact absurd (by assumption) hc | (exfalso; omega) | skip)) | (intro c hc; (try (simp only [AH.none_iff] at hc; repeat (have hn := hc.1; replace hc := hc.2))); (first | (refine i64_k hc ?_ ?_ ?_ ; omega; omega; (clear hc; intro hc; subst hc)) | skip)) | (apply Exists.intro; apply And.intro; (first | (focus (repeat (first | (with_reducible assumption) | (with_reducible exact AH.set_same _ _ _))); done))) | (apply Exists.intro; apply And.intro; first | (with_reducible assumption) | ((try simp only [List.getElem?_drop, Nat.mul_one, Nat.add_zero, Nat.zero_add]); first | (with_reducible assumption) | rfl)) | (apply And.intro; (first | rfl | (with_reducible assumption) | exact Nat.le_of_ble_eq_true rfl | omega)))) <;> (try (conv => whnf))
  refine AWp_loop (σ := Nat) (4 :: 13 :: 59 :: 60 :: 61 :: 62 :: 63 :: 64 :: 65 :: 66 :: 67 :: 68 :: 69 :: 70 :: 71 :: 72 :: 73 :: []) (fun j => [(13, .int .i64 j)]) (fun j => H3) (fun j => j ≤ L.length) (fun j => L.length - j) 0 rfl (Nat.zero_le _) ⟨rfl, trivial⟩ (HLe.refl _) ?_
  rintro j hj
  dsimp only at hj ⊢
  refine AWp.of tt_ok (dok _) rfl ?_
  by_cases hjl : j < L.length
  · obtain ⟨i, hLi⟩ : ∃ i, L[j]? = some i := ⟨_, List.getElem?_eq_getElem hjl⟩
    have hLP := hL i (List.mem_of_getElem? hLi)
    have g1 := hLg j i hLi
    have g2 : OL[(i : Int).toNat]? = some (.int .i64 0) := by
      have := hog i hLP.1
      rw [hz i hLP] at this
      rw [Int.toNat_natCast]; exact this
    have hin := hLP.1
    (repeat' ((conv => whnf); first | refine Then.mk ?_ | refine OpsA.cons ?_ | refine OpsA.nil ?_ | refine AWq.seq ?_ | refine AWq.region ?_ | refine AWq.cond ?_ | refine AWq.block ?_ | refine AWq.skip ?_ | refine AWq.ret ?_ | refine AWq.exit ?_ | refine AWq.loop ?_ | refine DrawA.consD ?_ | refine DrawA.nil ?_ | refine AWq.draw (by decide +kernel) ?_ | (refine Both.mk ?_ ?_ <;> intro hc <;> (first | exact Bool.noConfusion hc | exact absurd (by with_reducible rfl) hc | exact absurd (by assumption) hc | (exfalso; omega) | skip)) | (intro c hc; (try (simp only [AH.none_iff] at hc; repeat (have hn := hc.1; replace hc := hc.2))); (first | (refine i64_k hc ?_ ?_ ?_ ; omega; omega; (clear hc; intro hc; subst hc)) | skip)) | (apply Exists.intro; apply And.intro; (first | (focus (repeat (first | (with_reducible assumption) | (with_reducible exact AH.set_same _ _ _))); done))) | (apply Exists.intro; apply And.intro; first | (with_reducible assumption) | ((try simp only [List.getElem?_drop, Nat.mul_one, Nat.add_zero, Nat.zero_add]); first | (with_reducible assumption) | rfl)) | (apply And.intro; (first | rfl | (with_reducible assumption) | exact Nat.le_of_ble_eq_true rfl | omega)))) <;> (try (conv => whnf))
    exact ⟨j + 1, hjl, by omega, ⟨congrArg (AV.int .i64) (by omega), trivial⟩, HLe.refl _⟩
  · (repeat' ((conv => whnf); first | refine Then.mk ?_ | refine OpsA.cons ?_ | refine OpsA.nil ?_ | refine AWq.seq ?_ | refine AWq.region ?_ | refine AWq.cond ?_ | refine AWq.block ?_ | refine AWq.skip ?_ | refine AWq.ret ?_ | refine AWq.exit ?_ | refine AWq.loop ?_ | refine DrawA.consD ?_ | refine DrawA.nil ?_ | refine AWq.draw (by decide +kernel) ?_ | (refine Both.mk ?_ ?_ <;> intro hc <;> (first | exact Bool.noConfusion hc | exact absurd (by with_reducible rfl) hc | exact absurd (by assumption) hc | (exfalso; omega) | skip)) | (intro c hc; (try (simp only [AH.none_iff] at hc; repeat (have hn := hc.1; replace hc := hc.2))); (first | (refine i64_k hc ?_ ?_ ?_ ; omega; omega; (clear hc; intro hc; subst hc)) | skip)) | (apply Exists.intro; apply And.intro; (first | (focus (repeat (first | (with_reducible assumption) | (with_reducible exact AH.set_same _ _ _))); done))) | (apply Exists.intro; apply And.intro; first | (with_reducible assumption) | ((try simp only [List.getElem?_drop, Nat.mul_one, Nat.add_zero, Nat.zero_add]); first | (with_reducible assumption) | rfl)) | (apply And.intro; (first | rfl | (with_reducible assumption) | exact Nat.le_of_ble_eq_true rfl | omega)) | (refine ACall.to (lives17_c _) ?_))) <;> (try (conv => whnf))
end Go.Proofs.Ytebflkgpbbjhnaa
