/- For the law BalanceChecks, part 5 of 6: the frame of the walk, the walks of the functions, the plain law, the row. No conditions. -/
import Derived.Test.YtebflkgpbbjhnaaBalanceChecksM4
/- The walks of balance: problems made from numbers. -/
namespace Go.Fw
open Go.RowKit
/-- Two fresh rows that nobody writes any more. -/
theorem ACall.cold2 {P : Program} {g : FuncId} {args : List AV} {H : AH} {e1 n1 e2 n2 : Nat} {c1 c2 : List AV} (h1 : c1.length = n1 * e1) (h2 : c2.length = n2 * e2)
    (h : ACall P g args H fun y H' => ∃ r1 r2 v1 v2, H r1 = none ∧ H r2 = none ∧ r1 ≠ r2 ∧ y = .tup [.sl r1 v1 e1 0 n1 none, .sl r2 v2 e2 0 n2 none] ∧ H' = (H.set r1 (.row c1 v1)).set r2 (.row c2 v2)) :
    ACall P g args H fun y H' => y = .tup [.cs c1 n1, .cs c2 n2] ∧ H' = H := by
  refine ⟨h.ent, fun κ F B w0 w cargs hI hA => (h.run κ F B w0 w cargs hI hA).mono ?_⟩
  rintro e w' ⟨x, he, y, H', κ', F', k1, k2, I, hv, r1, r2, v1, v2, hr1, hr2, hne, rfl, rfl⟩
  obtain ⟨F1, hF1, I1, ha1⟩ := I.coolAll (r := r2) (v := v2) (cells := c2) (AH.set_same _ _ _)
  rw [AH.del_set _ _ _ (by rw [AH.set_ne _ _ (Ne.symm hne)]; exact hr2)] at I1
  obtain ⟨F2, hF2, I2, ha2⟩ := I1.coolAll (r := r1) (v := v1) (cells := c1) (AH.set_same _ _ _)
  rw [AH.del_set _ _ _ hr1] at I2
  refine ⟨x, he, _, H, κ', F2, k1, (k2.trans hF1).trans hF2, I2, ?_, rfl, rfl⟩
  cases hv with
  | tup hsz hi =>
    refine .tup hsz fun i hi' => ?_
    match i, hi' with
    | 0, _ => exact ha2 _ _ _ _ _ h1 (hi 0 (by simp))
    | 1, _ => exact (ha1 _ _ _ _ _ h2 (hi 1 (by simp))).mono (KLe.refl _) hF2
end Go.Fw
namespace Go.Proofs.Ytebflkgpbbjhnaa
open Go.Fw Go
set_option linter.unusedVariables false
set_option linter.unusedSimpArgs false

def prE (n most : Nat) (l : List Int) (i : Nat) : Ed :=
  ⟨pickV l (4 * (i : Int) + 1) n, ((pickV l (4 * (i : Int) + 1) n + 1 + pickV l (4 * (i : Int) + 2) (n - 1)) % n : Nat), (pickV l (4 * (i : Int) + 3) (2 * most + 1) : Int) - most, (1 + pickV l (4 * (i : Int) + 4) 9 : Nat)⟩
def prF (n most : Nat) (l : List Int) (i : Nat) : Fx :=
  ⟨pickV l (3 * (i : Int) + 2) n, (pickV l (3 * (i : Int) + 5) (2 * most + 1) : Int) - most, (1 + pickV l (3 * (i : Int) + 4) 7 : Nat)⟩
def prN (n : Nat) (l : List Int) : Nat := if 1 < n then pickV l 0 12 else 0
def prM (n : Nat) (l : List Int) : Nat := if 0 < n then pickV l 1 5 else 0
def prES (n most : Nat) (l : List Int) : List Ed := fnL (prN n l) (prE n most l)
def prFS (n most : Nat) (l : List Int) : List Fx := fnL (prM n l) (prF n most l)
set_option maxHeartbeats 4000000 in
set_option maxRecDepth 8000 in
theorem problem_s (n most : Nat) (hn : n ≤ 10) (hm : most ≤ 65535) (l : List Int) (hl : ∀ n ∈ l, -9223372036854775808 ≤ n ∧ n ≤ 9223372036854775807) (hll : l.length ≤ maxLen) (H : AH) :
    ACall Try.prog 12 [.int .i64 n, .cs (iS .i64 l) l.length, .int .i64 most] H (fun y H' => ∃ r1 r2 v1 v2, H r1 = none ∧ H r2 = none ∧ r1 ≠ r2 ∧ y = .tup [.sl r1 v1 4 0 (prN n l) none, .sl r2 v2 3 0 (prM n l) none] ∧ H' = (H.set r1 (.row (edL (prES n most l)) v1)).set r2 (.row (fxL (prFS n most l)) v2)) := by
  have hll2 : l.length ≤ 9223372036854775807 := by unfold maxLen at hll; omega
  have hp := fun i (hi : -9223372036854775808 ≤ i ∧ i ≤ 9223372036854775807) m hm1 hm2 H => pick_f l hl hll2 i hi m hm1 hm2 H
  have p0 := pickV_lt (l := l) (i := 0) (m := 12) (by decide)
  have p1 := pickV_lt (l := l) (i := 1) (m := 5) (by decide)
  have h0 : ∀ H, ACall Try.prog 25 [.cs (iS .i64 l) l.length, .int .i64 0, .int .i64 12] H (fun y H' => y = .int .i64 (pickV l 0 12) ∧ H' = H) := fun H => hp 0 (by decide) 12 (by decide) (by decide) H
  have h1 : ∀ H, ACall Try.prog 25 [.cs (iS .i64 l) l.length, .int .i64 1, .int .i64 5] H (fun y H' => y = .int .i64 (pickV l 1 5) ∧ H' = H) := fun H => hp 1 (by decide) 5 (by decide) (by decide) H
  have hN : prN n l = if 1 < n then pickV l 0 12 else 0 := rfl
  have hM : prM n l = if 0 < n then pickV l 1 5 else 0 := rfl
  generalize pickV l 0 12 = q0 at *
  generalize pickV l 1 5 = q1 at *
  have hNl : prN n l ≤ 12 := by rw [hN]; split <;> omega
  have hMl : prM n l ≤ 5 := by rw [hM]; split <;> omega
  refine ACall_of tt_ok (dok _) Try.func12 rfl (by decide) rfl ?_
  (iterate 3 ((repeat' ((conv => whnf); first | left | refine OpsA.cons ?_ | refine OpsA.nil ?_ | refine AWq.seq ?_ | refine AWq.region ?_ | refine AWq.cond ?_ | refine AWq.block ?_ | refine AWq.skip ?_ | refine AWq.ret ?_ | refine AWq.exit ?_ | refine AWq.loop ?_ | (refine Both.mk ?_ ?_ <;> intro hc <;> (first | exact Bool.noConfusion hc | (exfalso; omega) | skip)) | (intro c hc; (try (simp only [AH.none_iff] at hc; repeat (have hn := hc.1; replace hc := hc.2))); (first | (have hc2 := Eq.trans hc (by with_reducible assumption); clear hc; subst hc2) | (refine i64_k hc ?_ ?_ ?_ ; omega; omega; (clear hc; intro hc; subst hc)) | skip)) | (apply Exists.intro; apply And.intro; (first | (focus (repeat (first | (with_reducible assumption) | (with_reducible exact AH.set_same _ _ _) | ((first | refine AH.get_ne ?_ ?_); (first | (with_reducible assumption) | exact Ne.symm (by with_reducible assumption))))); done))) | (apply And.intro; (first | rfl | (with_reducible assumption) | omega)))) <;> (try (conv => whnf)); refine Then.mk ?_))
  refine AWq.in ?_
  refine AWp_nilrow1 8 4 rfl rfl fun r1 hr1 => ?_
  refine AWp_nilrow1 9 3 rfl rfl fun r2 hr2 => ?_
  obtain ⟨hne, hr2⟩ := AH.none_set hr2
  refine AWp.of tt_ok (dok _) rfl ?_
  (repeat' ((conv => whnf); first | refine Then.mk ?_ | left | refine OpsA.cons ?_ | refine OpsA.nil ?_ | refine AWq.seq ?_ | refine AWq.region ?_ | refine AWq.cond ?_ | refine AWq.block ?_ | refine AWq.skip ?_ | refine AWq.ret ?_ | refine AWq.exit ?_ | refine AWq.loop ?_ | (refine Both.mk ?_ ?_ <;> intro hc <;> (first | exact Bool.noConfusion hc | (exfalso; omega) | skip)) | (intro c hc; (try (simp only [AH.none_iff] at hc; repeat (have hn := hc.1; replace hc := hc.2))); (first | (have hc2 := Eq.trans hc (by with_reducible assumption); clear hc; subst hc2) | (refine i64_k hc ?_ ?_ ?_ ; omega; omega; (clear hc; intro hc; subst hc)) | skip)) | (apply Exists.intro; apply And.intro; (first | (focus (repeat (first | (with_reducible assumption) | (with_reducible exact AH.set_same _ _ _) | ((first | refine AH.get_ne ?_ ?_); (first | (with_reducible assumption) | exact Ne.symm (by with_reducible assumption))))); done))) | (apply And.intro; (first | rfl | (with_reducible assumption) | omega)) | (refine ACall.to (h0 _) ?_) | (refine ACall.to (h1 _) ?_))) <;> (try (conv => whnf))
  refine AWp_loop (σ := Nat) (8 :: 11 :: 12 :: 13 :: 18 :: 19 :: 20 :: 21 :: 22 :: 23 :: 24 :: 25 :: 26 :: 27 :: 28 :: 29 :: 30 :: 31 :: 32 :: 33 :: 34 :: 35 :: 36 :: 37 :: 38 :: 39 :: 40 :: 41 :: 42 :: 43 :: 44 :: 45 :: 46 :: 47 :: 48 :: 49 :: 50 :: 51 :: 52 :: 53 :: 54 :: 55 :: 56 :: 57 :: 58 :: 59 :: 60 :: 61 :: 62 :: 63 :: 64 :: 65 :: 66 :: []) (fun i => [(11, .int .i64 i), (8, .sl r1 i 4 0 i none)]) (fun i => (H.set r1 (.row (edL (fnL i (prE n most l))) i)).set r2 (.row [] 0)) (fun i => i ≤ prN n l) (fun i => prN n l - i) 0 rfl (Nat.zero_le _) ⟨rfl, rfl, trivial⟩ (HLe.refl _) ?_
  intro i hi
  refine AWp.of tt_ok (dok _) rfl ?_
  dsimp only at hi ⊢
  have hfi : (edL (fnL i (prE n most l))).length = i * 4 := by rw [edL_len, fnL_len]
  have hg1 : ((H.set r1 (.row (edL (fnL i (prE n most l))) i)).set r2 (.row [] 0)) r1 = some (.row (edL (fnL i (prE n most l))) i) := by (focus (repeat (first | (with_reducible assumption) | (with_reducible exact AH.set_same _ _ _) | ((first | refine AH.get_ne ?_ ?_); (first | (with_reducible assumption) | exact Ne.symm (by with_reducible assumption))))); done)
  by_cases hilt : i < prN n l
  · have h1n : 1 < n := by rw [hN] at hilt; split at hilt <;> omega
    rw [if_pos h1n] at hN
    have pA := hp (4 * (i : Int) + 1) (by omega) n (by omega) (by omega)
    have pB := hp (4 * (i : Int) + 2) (by omega) (n - 1) (by omega) (by omega)
    have pD := hp (4 * (i : Int) + 3) (by omega) (2 * most + 1) (by omega) (by omega)
    have pW := hp (4 * (i : Int) + 4) (by omega) 9 (by omega) (by omega)
    have lA := pickV_lt (l := l) (i := 4 * (i : Int) + 1) (m := n) (by omega)
    have lB := pickV_lt (l := l) (i := 4 * (i : Int) + 2) (m := n - 1) (by omega)
    have lD := pickV_lt (l := l) (i := 4 * (i : Int) + 3) (m := 2 * most + 1) (by omega)
    have lW := pickV_lt (l := l) (i := 4 * (i : Int) + 4) (m := 9) (by omega)
    have hst : edL (fnL (i + 1) (prE n most l)) = edL (fnL i (prE n most l)) ++ edA (prE n most l i) := by rw [fnL_snoc]; exact (fL_snoc edA _ _).symm
    have hpe : edA (prE n most l i) = [.int .i64 (pickV l (4 * (i : Int) + 1) n), .int .i64 ((pickV l (4 * (i : Int) + 1) n + 1 + pickV l (4 * (i : Int) + 2) (n - 1)) % n : Nat), .int .i64 ((pickV l (4 * (i : Int) + 3) (2 * most + 1) : Int) - most), .int .i64 (1 + pickV l (4 * (i : Int) + 4) 9 : Nat)] := rfl
    rw [hpe] at hst
    have c1 : ((n - 1 : Nat) : Int) = (n : Int) - 1 := by omega
    have c2 : ((2 * most + 1 : Nat) : Int) = 2 * (most : Int) + 1 := by omega
    rw [c1] at pB
    rw [c2] at pD
    generalize pickV l (4 * (i : Int) + 1) n = a at *
    generalize pickV l (4 * (i : Int) + 2) (n - 1) = b at *
    generalize pickV l (4 * (i : Int) + 3) (2 * most + 1) = d at *
    generalize pickV l (4 * (i : Int) + 4) 9 = w at *
    have em : ((a : Int) + 1 + b).tmod n = ((a + 1 + b) % n : Nat) := by rw [Int.tmod_eq_emod_of_nonneg (by omega), Int.natCast_emod]; rfl
    have ew : 1 + (w : Int) = ((1 + w : Nat) : Int) := by omega
    rw [← ew, ← em] at hst
    have pW : ∀ H, ACall Try.prog 25 [.cs (iS .i64 l) l.length, .int .i64 (4 * (i : Int) + 4), .int .i64 9] H (fun y H' => y = .int .i64 w ∧ H' = H) := pW
    generalize edL (fnL i (prE n most l)) = R1 at *
    generalize hR2 : edL (fnL (i + 1) (prE n most l)) = R2 at *
    (repeat' ((conv => whnf); first | refine Then.mk ?_ | left | refine OpsA.cons ?_ | refine OpsA.nil ?_ | refine AWq.seq ?_ | refine AWq.region ?_ | refine AWq.cond ?_ | refine AWq.block ?_ | refine AWq.skip ?_ | refine AWq.ret ?_ | refine AWq.exit ?_ | refine AWq.loop ?_ | (refine Both.mk ?_ ?_ <;> intro hc <;> (first | exact Bool.noConfusion hc | (exfalso; omega) | skip)) | (intro c hc; (try (simp only [AH.none_iff] at hc; repeat (have hn := hc.1; replace hc := hc.2))); (first | (have hc2 := Eq.trans hc (by with_reducible assumption); clear hc; subst hc2) | (refine i64_k hc ?_ ?_ ?_ ; omega; omega; (clear hc; intro hc; subst hc)) | skip)) | (apply Exists.intro; apply And.intro; (first | (focus (repeat (first | (with_reducible assumption) | (with_reducible exact AH.set_same _ _ _) | ((first | refine AH.get_ne ?_ ?_); (first | (with_reducible assumption) | exact Ne.symm (by with_reducible assumption))))); done))) | (apply And.intro; (first | rfl | (with_reducible assumption) | omega)) | (refine ACall.to (pA _) ?_) | (refine ACall.to (pB _) ?_) | (refine ACall.to (pD _) ?_) | (refine ACall.to (pW _) ?_))) <;> (try (conv => whnf))
    refine ⟨i + 1, hilt, by omega, ⟨congrArg (AV.int .i64) (by omega), rfl, trivial⟩, HLe.of_eq ?_⟩
    rw [hR2, hst]
    exact (AH.set_back _ (Ne.symm hne) _ _ _).symm
  · have hie : i = prN n l := by omega
    have hex : q0 ≤ i ∨ n ≤ 1 := by rw [hie, hN]; split <;> omega
    rw [hie]
    obtain ⟨E, hE⟩ : ∃ E, E = edL (prES n most l) := ⟨_, rfl⟩
    have hEe : edL (fnL (prN n l) (prE n most l)) = E := hE.symm
    rw [hEe]
    rw [← hE]
    generalize hK : prN n l = K at *
    subst hie
    clear hfi hg1 hEe
    (repeat' ((conv => whnf); first | refine Then.mk ?_ | left | refine OpsA.cons ?_ | refine OpsA.nil ?_ | refine AWq.seq ?_ | refine AWq.region ?_ | refine AWq.cond ?_ | refine AWq.block ?_ | refine AWq.skip ?_ | refine AWq.ret ?_ | refine AWq.exit ?_ | refine AWq.loop ?_ | (refine Both.mk ?_ ?_ <;> intro hc <;> (first | exact Bool.noConfusion hc | (exfalso; omega) | skip)) | (intro c hc; (try (simp only [AH.none_iff] at hc; repeat (have hn := hc.1; replace hc := hc.2))); (first | (have hc2 := Eq.trans hc (by with_reducible assumption); clear hc; subst hc2) | (refine i64_k hc ?_ ?_ ?_ ; omega; omega; (clear hc; intro hc; subst hc)) | skip)) | (apply Exists.intro; apply And.intro; (first | (focus (repeat (first | (with_reducible assumption) | (with_reducible exact AH.set_same _ _ _) | ((first | refine AH.get_ne ?_ ?_); (first | (with_reducible assumption) | exact Ne.symm (by with_reducible assumption))))); done))) | (apply And.intro; (first | rfl | (with_reducible assumption) | omega)) | (refine ACall.to (h0 _) ?_) | (refine ACall.to (h1 _) ?_))) <;> (try (conv => whnf))
    all_goals
      refine AWp_loop (σ := Nat) (9 :: 15 :: 69 :: 70 :: 71 :: 72 :: 73 :: 74 :: 75 :: 76 :: 77 :: 78 :: 79 :: 80 :: 81 :: 82 :: 83 :: 84 :: 85 :: 86 :: 87 :: 88 :: 89 :: 90 :: 91 :: 92 :: 93 :: 94 :: 95 :: 96 :: 97 :: 98 :: 99 :: 100 :: 101 :: 102 :: 103 :: []) (fun j => [(15, .int .i64 j), (9, .sl r2 j 3 0 j none)]) (fun j => (H.set r1 (.row E i)).set r2 (.row (fxL (fnL j (prF n most l))) j)) (fun j => j ≤ prM n l) (fun j => prM n l - j) 0 rfl (Nat.zero_le _) ⟨rfl, rfl, trivial⟩ (HLe.refl _) ?_
      intro j hj
      refine AWp.of tt_ok (dok _) rfl ?_
      dsimp only at hj ⊢
      have hfj : (fxL (fnL j (prF n most l))).length = j * 3 := by rw [fxL_len, fnL_len]
      have hg2 : ((H.set r1 (.row E i)).set r2 (.row (fxL (fnL j (prF n most l))) j)) r2 = some (.row (fxL (fnL j (prF n most l))) j) := AH.set_same _ _ _
      by_cases hjlt : j < prM n l
      · have h1n : 0 < n := by rw [hM] at hjlt; split at hjlt <;> omega
        rw [if_pos h1n] at hM
        have pA := hp (3 * (j : Int) + 2) (by omega) n (by omega) (by omega)
        have pD := hp (3 * (j : Int) + 5) (by omega) (2 * most + 1) (by omega) (by omega)
        have pW := hp (3 * (j : Int) + 4) (by omega) 7 (by omega) (by omega)
        have lA := pickV_lt (l := l) (i := 3 * (j : Int) + 2) (m := n) (by omega)
        have lD := pickV_lt (l := l) (i := 3 * (j : Int) + 5) (m := 2 * most + 1) (by omega)
        have lW := pickV_lt (l := l) (i := 3 * (j : Int) + 4) (m := 7) (by omega)
        have hst : fxL (fnL (j + 1) (prF n most l)) = fxL (fnL j (prF n most l)) ++ fxA (prF n most l j) := by rw [fnL_snoc]; exact (fL_snoc fxA _ _).symm
        have hpe : fxA (prF n most l j) = [.int .i64 (pickV l (3 * (j : Int) + 2) n), .int .i64 ((pickV l (3 * (j : Int) + 5) (2 * most + 1) : Int) - most), .int .i64 (1 + pickV l (3 * (j : Int) + 4) 7 : Nat)] := rfl
        rw [hpe] at hst
        have c2 : ((2 * most + 1 : Nat) : Int) = 2 * (most : Int) + 1 := by omega
        rw [c2] at pD
        generalize pickV l (3 * (j : Int) + 2) n = a at *
        generalize pickV l (3 * (j : Int) + 5) (2 * most + 1) = d at *
        generalize pickV l (3 * (j : Int) + 4) 7 = w at *
        have ew : 1 + (w : Int) = ((1 + w : Nat) : Int) := by omega
        rw [← ew] at hst
        have pW : ∀ H, ACall Try.prog 25 [.cs (iS .i64 l) l.length, .int .i64 (3 * (j : Int) + 4), .int .i64 7] H (fun y H' => y = .int .i64 w ∧ H' = H) := pW
        generalize fxL (fnL j (prF n most l)) = R1 at *
        generalize hR2 : fxL (fnL (j + 1) (prF n most l)) = R2 at *
        (repeat' ((conv => whnf); first | refine Then.mk ?_ | left | refine OpsA.cons ?_ | refine OpsA.nil ?_ | refine AWq.seq ?_ | refine AWq.region ?_ | refine AWq.cond ?_ | refine AWq.block ?_ | refine AWq.skip ?_ | refine AWq.ret ?_ | refine AWq.exit ?_ | refine AWq.loop ?_ | (refine Both.mk ?_ ?_ <;> intro hc <;> (first | exact Bool.noConfusion hc | (exfalso; omega) | skip)) | (intro c hc; (try (simp only [AH.none_iff] at hc; repeat (have hn := hc.1; replace hc := hc.2))); (first | (have hc2 := Eq.trans hc (by with_reducible assumption); clear hc; subst hc2) | (refine i64_k hc ?_ ?_ ?_ ; omega; omega; (clear hc; intro hc; subst hc)) | skip)) | (apply Exists.intro; apply And.intro; (first | (focus (repeat (first | (with_reducible assumption) | (with_reducible exact AH.set_same _ _ _) | ((first | refine AH.get_ne ?_ ?_); (first | (with_reducible assumption) | exact Ne.symm (by with_reducible assumption))))); done))) | (apply And.intro; (first | rfl | (with_reducible assumption) | omega)) | (refine ACall.to (pA _) ?_) | (refine ACall.to (pD _) ?_) | (refine ACall.to (pW _) ?_))) <;> (try (conv => whnf))
        refine ⟨j + 1, hjlt, by omega, ⟨congrArg (AV.int .i64) (by omega), rfl, trivial⟩, HLe.of_eq ?_⟩
        rw [hR2, hst]
        exact (AH.set_set _ _ _ _).symm
      · have hje : j = prM n l := by omega
        have hex2 : q1 ≤ j ∨ n ≤ 0 := by rw [hje, hM]; split <;> omega
        (repeat' ((conv => whnf); first | refine Then.mk ?_ | left | refine OpsA.cons ?_ | refine OpsA.nil ?_ | refine AWq.seq ?_ | refine AWq.region ?_ | refine AWq.cond ?_ | refine AWq.block ?_ | refine AWq.skip ?_ | refine AWq.ret ?_ | refine AWq.exit ?_ | refine AWq.loop ?_ | (refine Both.mk ?_ ?_ <;> intro hc <;> (first | exact Bool.noConfusion hc | (exfalso; omega) | skip)) | (intro c hc; (try (simp only [AH.none_iff] at hc; repeat (have hn := hc.1; replace hc := hc.2))); (first | (have hc2 := Eq.trans hc (by with_reducible assumption); clear hc; subst hc2) | (refine i64_k hc ?_ ?_ ?_ ; omega; omega; (clear hc; intro hc; subst hc)) | skip)) | (apply Exists.intro; apply And.intro; (first | (focus (repeat (first | (with_reducible assumption) | (with_reducible exact AH.set_same _ _ _) | ((first | refine AH.get_ne ?_ ?_); (first | (with_reducible assumption) | exact Ne.symm (by with_reducible assumption))))); done))) | (apply And.intro; (first | rfl | (with_reducible assumption) | omega)))) <;> (try (conv => whnf))
        all_goals
          refine ⟨r1, r2, i, j, hr1, hr2, Ne.symm hne, ?_, ?_⟩
          · rw [← hje]
          · rw [hje]; rfl
theorem problem_c (n most : Nat) (hn : n ≤ 10) (hm : most ≤ 65535) (l : List Int) (hl : ∀ n ∈ l, -9223372036854775808 ≤ n ∧ n ≤ 9223372036854775807) (hll : l.length ≤ maxLen) (H : AH) :
    ACall Try.prog 12 [.int .i64 n, .cs (iS .i64 l) l.length, .int .i64 most] H (fun y H' => y = .tup [.cs (edL (prES n most l)) (prES n most l).length, .cs (fxL (prFS n most l)) (prFS n most l).length] ∧ H' = H) := by
  refine ACall.cold2 (e1 := 4) (e2 := 3) (by simp) (by simp) ?_
  have h1 : (prES n most l).length = prN n l := fnL_len _ _
  have h2 : (prFS n most l).length = prM n l := fnL_len _ _
  rw [h1, h2]
  exact problem_s n most hn hm l hl hll H
end Go.Proofs.Ytebflkgpbbjhnaa
/- The walks of balance: Check. -/
namespace Go.Proofs.Ytebflkgpbbjhnaa
open Go.Fw Go
set_option linter.unusedVariables false
set_option linter.unusedSimpArgs false

set_option maxRecDepth 8000 in
theorem grow_c (n : Nat) (hn : n ≤ 1000000) (H : AH) : ACall Try.prog 72 [.nils, .int .i64 n] H (fun y H' => ∃ r, H r = none ∧ ∃ v, y = .sl r v 1 0 0 none ∧ H' = H.set r (.row [] v)) := by
  refine ACall.warmN (es := 1) (n := 0) (cells := []) rfl ?_
  by_cases h : n = 0
  · subst h
    refine ACall_of tt_ok (dok _) Try.func72 rfl (by decide) rfl ?_
    (repeat' ((conv => whnf); first | refine Then.mk ?_ | refine OpsA.cons ?_ | refine OpsA.nil ?_ | refine AWq.seq ?_ | refine AWq.region ?_ | refine AWq.cond ?_ | refine AWq.skip ?_ | refine AWq.ret ?_ | (refine Both.mk ?_ ?_ <;> intro hc <;> (first | exact Bool.noConfusion hc | exact absurd hc (by assumption) | (exfalso; omega) | skip)) | (intro c hc; (try (simp only [AH.none_iff] at hc; repeat (have hn := hc.1; replace hc := hc.2))); (first | (refine i64_k hc ?_ ?_ ?_ ; omega; omega; (clear hc; intro hc; subst hc)) | skip)) | (apply And.intro; (first | rfl | (with_reducible assumption) | omega)))) <;> (try (conv => whnf))
    exact .inl ⟨rfl, rfl, rfl⟩
  · refine ACall_of tt_ok (dok _) Try.func72 rfl (by decide) rfl ?_
    (repeat' ((conv => whnf); first | refine Then.mk ?_ | refine OpsA.cons ?_ | refine OpsA.nil ?_ | refine AWq.seq ?_ | refine AWq.region ?_ | refine AWq.cond ?_ | refine AWq.skip ?_ | refine AWq.ret ?_ | (refine Both.mk ?_ ?_ <;> intro hc <;> (first | exact Bool.noConfusion hc | exact absurd hc (by assumption) | (exfalso; omega) | skip)) | (intro c hc; (try (simp only [AH.none_iff] at hc; repeat (have hn := hc.1; replace hc := hc.2))); (first | (refine i64_k hc ?_ ?_ ?_ ; omega; omega; (clear hc; intro hc; subst hc)) | skip)) | (apply And.intro; (first | rfl | (with_reducible assumption) | omega)))) <;> (try (conv => whnf))
    exact .inr ⟨c, by assumption, 0, rfl, rfl⟩
set_option maxRecDepth 8000 in
theorem concat_c (a b : List Int) (ha : a.length ≤ 100000) (hb : b.length ≤ 100000) (H : AH) :
    ACall Try.prog 45 [.cs [.cs (iS .i64 a) a.length, .cs (iS .i64 b) b.length] 2] H (fun y H' => y = .cs (iS .i64 (a ++ b)) (a ++ b).length ∧ H' = H) := by
  refine ACall.cold (es := 1) (by simp) ?_
  have hgr := fun H => grow_c (a.length + b.length) (by omega) H
  have hla := iS_length .i64 a
  have hlb := iS_length .i64 b
  refine ACall_of tt_ok (dok _) Try.func45 rfl (by decide) rfl ?_
  (repeat' ((conv => whnf); first | refine Then.mk ?_ | refine OpsA.cons ?_ | refine OpsA.nil ?_ | refine AWq.seq ?_ | refine AWq.region ?_ | refine AWq.cond ?_ | refine AWq.block ?_ | refine AWq.skip ?_ | refine AWq.ret ?_ | refine AWq.exit ?_ | refine AWq.loop ?_ | (refine Both.mk ?_ ?_ <;> intro hc <;> (first | exact Bool.noConfusion hc | exact absurd hc (by assumption) | (exfalso; omega) | skip)) | (intro c hc; (try (simp only [AH.none_iff] at hc; repeat (have hn := hc.1; replace hc := hc.2))); (first | (refine i64_k hc ?_ ?_ ?_ ; omega; omega; (clear hc; intro hc; subst hc)) | skip)) | (apply Exists.intro; apply And.intro; (first | (focus (repeat (first | (with_reducible assumption) | (with_reducible exact AH.set_same _ _ _))); done))) | (apply Exists.intro; apply And.intro; first | (with_reducible assumption) | ((try simp only [List.getElem?_drop, Nat.mul_one, Nat.add_zero, Nat.zero_add]); first | (with_reducible assumption) | rfl)) | (apply And.intro; (first | rfl | (with_reducible assumption) | exact Nat.le_of_ble_eq_true rfl | omega | (simp <;> omega) | (focus (repeat' (first | (with_reducible assumption) | exact one_iS _ _ | rfl)); done))))) <;> (try (conv => whnf))
  refine AWp_loop (σ := Nat × Nat) (3 :: 5 :: 11 :: 12 :: 13 :: 14 :: 15 :: 16 :: 17 :: 18 :: 19 :: 20 :: 21 :: 22 :: []) (fun s => [(11, .int .i64 s.1), (3, .int .i64 s.2)]) (fun s => H) (fun s => s.1 ≤ 2 ∧ s.2 = (if 0 < s.1 then a.length else 0) + (if 1 < s.1 then b.length else 0)) (fun s => 2 - s.1) (0, 0) rfl ⟨Nat.zero_le _, rfl⟩ ⟨rfl, rfl, trivial⟩ (HLe.refl _) ?_
  rintro ⟨i, s⟩ ⟨hi, hs⟩
  dsimp only at hi hs ⊢
  refine AWp.of tt_ok (dok _) rfl ?_
  rcases (show i = 0 ∨ i = 1 ∨ i = 2 by omega) with rfl | rfl | rfl
  · have hs : s = 0 := by simpa using hs
    subst hs
    (repeat' ((conv => whnf); first | refine Then.mk ?_ | refine OpsA.cons ?_ | refine OpsA.nil ?_ | refine AWq.seq ?_ | refine AWq.region ?_ | refine AWq.cond ?_ | refine AWq.block ?_ | refine AWq.skip ?_ | refine AWq.ret ?_ | refine AWq.exit ?_ | refine AWq.loop ?_ | (refine Both.mk ?_ ?_ <;> intro hc <;> (first | exact Bool.noConfusion hc | exact absurd hc (by assumption) | (exfalso; omega) | skip)) | (intro c hc; (try (simp only [AH.none_iff] at hc; repeat (have hn := hc.1; replace hc := hc.2))); (first | (refine i64_k hc ?_ ?_ ?_ ; omega; omega; (clear hc; intro hc; subst hc)) | skip)) | (apply Exists.intro; apply And.intro; (first | (focus (repeat (first | (with_reducible assumption) | (with_reducible exact AH.set_same _ _ _))); done))) | (apply Exists.intro; apply And.intro; first | (with_reducible assumption) | ((try simp only [List.getElem?_drop, Nat.mul_one, Nat.add_zero, Nat.zero_add]); first | (with_reducible assumption) | rfl)) | (apply And.intro; (first | rfl | (with_reducible assumption) | exact Nat.le_of_ble_eq_true rfl | omega | (simp <;> omega) | (focus (repeat' (first | (with_reducible assumption) | exact one_iS _ _ | rfl)); done))))) <;> (try (conv => whnf))
    exact ⟨(1, a.length), ⟨by show 1 ≤ 2; decide, by simp⟩, by show 2 - 1 < 2 - 0; decide, ⟨rfl, congrArg (AV.int .i64) (by dsimp only; omega), trivial⟩, HLe.refl _⟩
  · have hs : s = a.length := by simpa using hs
    (repeat' ((conv => whnf); first | refine Then.mk ?_ | refine OpsA.cons ?_ | refine OpsA.nil ?_ | refine AWq.seq ?_ | refine AWq.region ?_ | refine AWq.cond ?_ | refine AWq.block ?_ | refine AWq.skip ?_ | refine AWq.ret ?_ | refine AWq.exit ?_ | refine AWq.loop ?_ | (refine Both.mk ?_ ?_ <;> intro hc <;> (first | exact Bool.noConfusion hc | exact absurd hc (by assumption) | (exfalso; omega) | skip)) | (intro c hc; (try (simp only [AH.none_iff] at hc; repeat (have hn := hc.1; replace hc := hc.2))); (first | (refine i64_k hc ?_ ?_ ?_ ; omega; omega; (clear hc; intro hc; subst hc)) | skip)) | (apply Exists.intro; apply And.intro; (first | (focus (repeat (first | (with_reducible assumption) | (with_reducible exact AH.set_same _ _ _))); done))) | (apply Exists.intro; apply And.intro; first | (with_reducible assumption) | ((try simp only [List.getElem?_drop, Nat.mul_one, Nat.add_zero, Nat.zero_add]); first | (with_reducible assumption) | rfl)) | (apply And.intro; (first | rfl | (with_reducible assumption) | exact Nat.le_of_ble_eq_true rfl | omega | (simp <;> omega) | (focus (repeat' (first | (with_reducible assumption) | exact one_iS _ _ | rfl)); done))))) <;> (try (conv => whnf))
    exact ⟨(2, a.length + b.length), ⟨by show 2 ≤ 2; decide, by simp⟩, by show 2 - 2 < 2 - 1; decide, ⟨rfl, congrArg (AV.int .i64) (by dsimp only; omega), trivial⟩, HLe.refl _⟩
  · have hs : s = a.length + b.length := by simpa using hs
    subst hs
    (repeat' ((conv => whnf); first | refine Then.mk ?_ | refine OpsA.cons ?_ | refine OpsA.nil ?_ | refine AWq.seq ?_ | refine AWq.region ?_ | refine AWq.cond ?_ | refine AWq.block ?_ | refine AWq.skip ?_ | refine AWq.ret ?_ | refine AWq.exit ?_ | refine AWq.loop ?_ | (refine Both.mk ?_ ?_ <;> intro hc <;> (first | exact Bool.noConfusion hc | exact absurd hc (by assumption) | (exfalso; omega) | skip)) | (intro c hc; (try (simp only [AH.none_iff] at hc; repeat (have hn := hc.1; replace hc := hc.2))); (first | (refine i64_k hc ?_ ?_ ?_ ; omega; omega; (clear hc; intro hc; subst hc)) | skip)) | (apply Exists.intro; apply And.intro; (first | (focus (repeat (first | (with_reducible assumption) | (with_reducible exact AH.set_same _ _ _))); done))) | (apply Exists.intro; apply And.intro; first | (with_reducible assumption) | ((try simp only [List.getElem?_drop, Nat.mul_one, Nat.add_zero, Nat.zero_add]); first | (with_reducible assumption) | rfl)) | (apply And.intro; (first | rfl | (with_reducible assumption) | exact Nat.le_of_ble_eq_true rfl | omega | (simp <;> omega) | (focus (repeat' (first | (with_reducible assumption) | exact one_iS _ _ | rfl)); done))))) <;> (try (conv => whnf))
    refine (hgr _).mono ?_
    rintro y H' ⟨r, hr, v, rfl, rfl⟩
    (repeat' ((conv => whnf); first | refine Then.mk ?_ | refine OpsA.cons ?_ | refine OpsA.nil ?_ | refine AWq.seq ?_ | refine AWq.region ?_ | refine AWq.cond ?_ | refine AWq.block ?_ | refine AWq.skip ?_ | refine AWq.ret ?_ | refine AWq.exit ?_ | refine AWq.loop ?_ | (refine Both.mk ?_ ?_ <;> intro hc <;> (first | exact Bool.noConfusion hc | exact absurd hc (by assumption) | (exfalso; omega) | skip)) | (intro c hc; (try (simp only [AH.none_iff] at hc; repeat (have hn := hc.1; replace hc := hc.2))); (first | (refine i64_k hc ?_ ?_ ?_ ; omega; omega; (clear hc; intro hc; subst hc)) | skip)) | (apply Exists.intro; apply And.intro; (first | (focus (repeat (first | (with_reducible assumption) | (with_reducible exact AH.set_same _ _ _))); done))) | (apply Exists.intro; apply And.intro; first | (with_reducible assumption) | ((try simp only [List.getElem?_drop, Nat.mul_one, Nat.add_zero, Nat.zero_add]); first | (with_reducible assumption) | rfl)) | (apply And.intro; (first | rfl | (with_reducible assumption) | exact Nat.le_of_ble_eq_true rfl | omega | (simp <;> omega) | (focus (repeat' (first | (with_reducible assumption) | exact one_iS _ _ | rfl)); done))))) <;> (try (conv => whnf))
    refine AWp_loop (σ := Nat × List Int) (6 :: 8 :: 27 :: 28 :: 29 :: 30 :: 31 :: 32 :: 33 :: 34 :: []) (fun s => [(27, .int .i64 s.1), (6, .sl r (v + s.1) 1 0 s.2.length none)]) (fun s => H.set r (.row (iS .i64 s.2) (v + s.1))) (fun s => s.1 ≤ 2 ∧ s.2 = (if 0 < s.1 then a else []) ++ if 1 < s.1 then b else []) (fun s => 2 - s.1) (0, []) rfl ⟨Nat.zero_le _, rfl⟩ ⟨rfl, rfl, trivial⟩ (HLe.refl _) ?_
    rintro ⟨i, s⟩ ⟨hi, hs⟩
    dsimp only at hi hs ⊢
    refine AWp.of tt_ok (dok _) rfl ?_
    rcases (show i = 0 ∨ i = 1 ∨ i = 2 by omega) with rfl | rfl | rfl
    · have hs : s = [] := by simpa using hs
      subst hs
      (repeat' ((conv => whnf); first | refine Then.mk ?_ | refine OpsA.cons ?_ | refine OpsA.nil ?_ | refine AWq.seq ?_ | refine AWq.region ?_ | refine AWq.cond ?_ | refine AWq.block ?_ | refine AWq.skip ?_ | refine AWq.ret ?_ | refine AWq.exit ?_ | refine AWq.loop ?_ | (refine Both.mk ?_ ?_ <;> intro hc <;> (first | exact Bool.noConfusion hc | exact absurd hc (by assumption) | (exfalso; omega) | skip)) | (intro c hc; (try (simp only [AH.none_iff] at hc; repeat (have hn := hc.1; replace hc := hc.2))); (first | (refine i64_k hc ?_ ?_ ?_ ; omega; omega; (clear hc; intro hc; subst hc)) | skip)) | (apply Exists.intro; apply And.intro; (first | (focus (repeat (first | (with_reducible assumption) | (with_reducible exact AH.set_same _ _ _))); done))) | (apply Exists.intro; apply And.intro; first | (with_reducible assumption) | ((try simp only [List.getElem?_drop, Nat.mul_one, Nat.add_zero, Nat.zero_add]); first | (with_reducible assumption) | rfl)) | (apply And.intro; (first | rfl | (with_reducible assumption) | exact Nat.le_of_ble_eq_true rfl | omega | (simp <;> omega) | (focus (repeat' (first | (with_reducible assumption) | exact one_iS _ _ | rfl)); done))))) <;> (try (conv => whnf))
      refine ⟨(1, a), ⟨by show 1 ≤ 2; decide, by simp⟩, by show 2 - 1 < 2 - 0; decide, ⟨rfl, ?_, trivial⟩, ?_⟩
      · show AV.sl r (v + 0 + 1) 1 0 (0 + a.length) none = .sl r (v + 1) 1 0 a.length none
        rw [Nat.zero_add]
      · exact HLe.of_eq (AH.set_set _ _ _ _).symm
    · have hs : a = s := by simpa using hs.symm
      subst hs
      (repeat' ((conv => whnf); first | refine Then.mk ?_ | refine OpsA.cons ?_ | refine OpsA.nil ?_ | refine AWq.seq ?_ | refine AWq.region ?_ | refine AWq.cond ?_ | refine AWq.block ?_ | refine AWq.skip ?_ | refine AWq.ret ?_ | refine AWq.exit ?_ | refine AWq.loop ?_ | (refine Both.mk ?_ ?_ <;> intro hc <;> (first | exact Bool.noConfusion hc | exact absurd hc (by assumption) | (exfalso; omega) | skip)) | (intro c hc; (try (simp only [AH.none_iff] at hc; repeat (have hn := hc.1; replace hc := hc.2))); (first | (refine i64_k hc ?_ ?_ ?_ ; omega; omega; (clear hc; intro hc; subst hc)) | skip)) | (apply Exists.intro; apply And.intro; (first | (focus (repeat (first | (with_reducible assumption) | (with_reducible exact AH.set_same _ _ _))); done))) | (apply Exists.intro; apply And.intro; first | (with_reducible assumption) | ((try simp only [List.getElem?_drop, Nat.mul_one, Nat.add_zero, Nat.zero_add]); first | (with_reducible assumption) | rfl)) | (apply And.intro; (first | rfl | (with_reducible assumption) | exact Nat.le_of_ble_eq_true rfl | omega | (simp <;> omega) | (focus (repeat' (first | (with_reducible assumption) | exact one_iS _ _ | rfl)); done))))) <;> (try (conv => whnf))
      refine ⟨(2, a ++ b), ⟨by show 2 ≤ 2; decide, by simp⟩, by show 2 - 2 < 2 - 1; decide, ⟨rfl, ?_, trivial⟩, ?_⟩
      · show AV.sl r (v + 1 + 1) 1 0 (a.length + b.length) none = .sl r (v + 2) 1 0 (a ++ b).length none
        rw [List.length_append]
      · dsimp only
        rw [← iS_append]
        exact HLe.of_eq (AH.set_set _ _ _ _).symm
    · have hs : s = a ++ b := by simpa using hs
      subst hs
      (repeat' ((conv => whnf); first | refine Then.mk ?_ | refine OpsA.cons ?_ | refine OpsA.nil ?_ | refine AWq.seq ?_ | refine AWq.region ?_ | refine AWq.cond ?_ | refine AWq.block ?_ | refine AWq.skip ?_ | refine AWq.ret ?_ | refine AWq.exit ?_ | refine AWq.loop ?_ | (refine Both.mk ?_ ?_ <;> intro hc <;> (first | exact Bool.noConfusion hc | exact absurd hc (by assumption) | (exfalso; omega) | skip)) | (intro c hc; (try (simp only [AH.none_iff] at hc; repeat (have hn := hc.1; replace hc := hc.2))); (first | (refine i64_k hc ?_ ?_ ?_ ; omega; omega; (clear hc; intro hc; subst hc)) | skip)) | (apply Exists.intro; apply And.intro; (first | (focus (repeat (first | (with_reducible assumption) | (with_reducible exact AH.set_same _ _ _))); done))) | (apply Exists.intro; apply And.intro; first | (with_reducible assumption) | ((try simp only [List.getElem?_drop, Nat.mul_one, Nat.add_zero, Nat.zero_add]); first | (with_reducible assumption) | rfl)) | (apply And.intro; (first | rfl | (with_reducible assumption) | exact Nat.le_of_ble_eq_true rfl | omega | (simp <;> omega) | (focus (repeat' (first | (with_reducible assumption) | exact one_iS _ _ | rfl)); done))))) <;> (try (conv => whnf))

/-- The flows are set. -/
def setFl : List Ac → List Int → List Ac
  | [], _ => []
  | x :: A, [] => x :: A
  | x :: A, f :: L => ⟨x.a, x.b, x.d, x.w, f⟩ :: setFl A L
theorem setFl_nil : ∀ A, setFl A [] = A
  | [] => rfl
  | x :: A => rfl
theorem setFl_len : ∀ A L, (setFl A L).length = A.length
  | [], _ => rfl
  | x :: A, [] => rfl
  | x :: A, f :: L => by simp [setFl, setFl_len A L]
theorem setFl_get : ∀ (A : List Ac) (L : List Int) (i : Nat), L.length ≤ i → (setFl A L)[i]? = A[i]?
  | [], _, _, _ => rfl
  | x :: A, [], _, _ => rfl
  | x :: A, f :: L, 0, h => by simp at h
  | x :: A, f :: L, i + 1, h => by simp only [setFl, List.getElem?_cons_succ]; exact setFl_get A L i (by simpa using h)
theorem setFl_snoc : ∀ (A : List Ac) (L : List Int) (x : Ac) (f : Int), A[L.length]? = some x → setFl A (L ++ [f]) = (setFl A L).set L.length ⟨x.a, x.b, x.d, x.w, f⟩
  | [], L, x, f, h => by simp at h
  | y :: A, [], x, f, h => by simp at h; subst h; simp [setFl, setFl_nil]
  | y :: A, g :: L, x, f, h => by
    simp only [List.cons_append, setFl, List.length_cons, List.set_cons_succ]
    rw [setFl_snoc A L x f (by simpa using h)]
/-- What the flows are worth. -/
def valF : List Ac → List Int → Int
  | x :: A, f :: L => -(f * x.d) + valF A L
  | _, _ => 0
theorem valF_snoc : ∀ (A : List Ac) (L : List Int) (x : Ac) (f : Int), A[L.length]? = some x → valF A (L ++ [f]) = valF A L - f * x.d
  | [], L, x, f, h => by simp at h
  | y :: A, [], x, f, h => by simp at h; subst h; cases A <;> simp [valF]
  | y :: A, g :: L, x, f, h => by
    simp only [List.cons_append, valF]
    rw [valF_snoc A L x f (by simpa using h)]
    omega
def inW (x : Ac) (f : Int) : Prop := -x.w ≤ f ∧ f ≤ x.w
instance (x : Ac) (f : Int) : Decidable (inW x f) := by unfold inW; exact inferInstance
def allW (A : List Ac) (L : List Int) : Prop := ∀ i x, A[i]? = some x → i < L.length → inW x (L.getD i 0)
theorem valF_bd : ∀ (A : List Ac) (L : List Int), (∀ x ∈ A, (-65535 ≤ x.d ∧ x.d ≤ 65535) ∧ x.w ≤ 65536) → allW A L → -(4294967296 * (L.length : Int)) ≤ valF A L ∧ valF A L ≤ 4294967296 * (L.length : Int)
  | [], L, _, _ => by simp only [valF]; omega
  | x :: A, [], _, _ => by simp [valF]
  | x :: A, f :: L, h, hw => by
    have ih := valF_bd A L (fun y hy => h y (by simp [hy])) (fun i y hy hi => by
      have := hw (i + 1) y (by simpa using hy) (by simpa using hi)
      simpa using this)
    have h1 := hw 0 x rfl (by simp)
    have h2 := h x (by simp)
    have h1 : -x.w ≤ f ∧ f ≤ x.w := h1
    have key : -4294967296 ≤ f * x.d ∧ f * x.d ≤ 4294967296 := by
      have a1 : (65536 - f) * (65535 - x.d) ≥ 0 := Int.mul_nonneg (by omega) (by omega)
      have a2 : (65536 + f) * (65535 + x.d) ≥ 0 := Int.mul_nonneg (by omega) (by omega)
      have a3 : (65536 - f) * (65535 + x.d) ≥ 0 := Int.mul_nonneg (by omega) (by omega)
      have a4 : (65536 + f) * (65535 - x.d) ≥ 0 := Int.mul_nonneg (by omega) (by omega)
      simp only [Int.sub_mul, Int.add_mul, Int.mul_sub, Int.mul_add] at a1 a2 a3 a4
      omega
    simp only [valF, List.length_cons]
    omega
end Go.Proofs.Ytebflkgpbbjhnaa
/- The walk of balance: Check. -/
namespace Go.Proofs.Ytebflkgpbbjhnaa
open Go.Fw Go
set_option linter.unusedVariables false
set_option linter.unusedSimpArgs false

/-- What Check accepts. -/
structure ChkP (n : Nat) (es : List Ed) (fs : List Fx) (O E F : List Int) (c : Int) : Prop where
  l1 : O.length = n
  l2 : E.length = es.length
  l3 : F.length = fs.length
  al : allW (net0 n es fs) (E ++ F)
  co : costR es fs O = (c, 0)
  va : valF (net0 n es fs) (E ++ F) = c
  ne : ∀ v, v < n → netN (setFl (net0 n es fs) (E ++ F)) v = 0
theorem allW_snoc {A : List Ac} {L : List Int} {x : Ac} {f : Int} (hx : A[L.length]? = some x) (h : allW A L) (hf : inW x f) : allW A (L ++ [f]) := by
  intro i y hy hi
  rw [List.length_append] at hi
  simp at hi
  by_cases e : i = L.length
  · subst e
    rw [hx] at hy; cases hy
    simpa using hf
  · rw [List.getD_eq_getElem?_getD, List.getElem?_append_left (by omega), ← List.getD_eq_getElem?_getD]
    exact h i y hy (by omega)
theorem getD_app {L : List Int} {i : Nat} (h : i < L.length) : L.take (i + 1) = L.take i ++ [L.getD i 0] := by
  rw [List.take_add_one, List.getElem?_eq_getElem h, List.getD_eq_getElem?_getD, List.getElem?_eq_getElem h]; rfl
theorem setFl_ok {n : Nat} : ∀ {A : List Ac} {L : List Int}, (∀ x ∈ A, AcOk n x) → allW A L → ∀ x ∈ setFl A L, AcOk n x
  | [], L, h, _ => by simp [setFl]
  | x :: A, [], h, _ => h
  | x :: A, f :: L, h, hw => by
    intro y hy
    simp only [setFl, List.mem_cons] at hy
    rcases hy with rfl | hy
    · obtain ⟨xa, xb, d1, d2, w1, w2, f1, f2⟩ := h x (by simp)
      have h1 : inW x f := hw 0 x rfl (by simp)
      exact ⟨xa, xb, d1, d2, w1, w2, h1.1, h1.2⟩
    · refine setFl_ok (A := A) (L := L) (fun z hz => h z (by simp [hz])) (fun i z hz hi => ?_) y hy
      have := hw (i + 1) z (by simpa using hz) (by simpa using hi)
      simpa using this
set_option maxRecDepth 8000 in
theorem check_bad (n : Int) (es : List Ed) (fs : List Fx) (he : es.length ≤ 1000000000) (hf : fs.length ≤ 1000000000) (hv : validV n es fs ≠ 0) (x1 x2 x3 x4 : AV) (H : AH) :
    ACall Try.prog 22 [.int .i64 n, .cs (edL es) es.length, .cs (fxL fs) fs.length, .agg [x1, x2, x3, x4]] H (fun y H' => y = .int .i64 (validV n es fs) ∧ H' = H) := by
  have hv1 := fun H => valid_c n es fs he hf H
  refine ACall.back ?_
  generalize validV n es fs = e at *
  refine ACall_of tt_ok (dok _) Try.func22 rfl (by decide) rfl ?_
  (repeat' ((conv => whnf); first | refine Then.mk ?_ | refine OpsA.cons ?_ | refine OpsA.nil ?_ | refine AWq.seq ?_ | refine AWq.region ?_ | refine AWq.cond ?_ | refine AWq.ret ?_ | (refine Both.mk ?_ ?_ <;> intro hc <;> (first | exact Bool.noConfusion hc | exact absurd (by assumption) hc | skip)) | (intro c hc; (try (simp only [AH.none_iff] at hc; repeat (have hn := hc.1; replace hc := hc.2))); (first | skip)) | (apply And.intro; (first | rfl)) | (refine ACall.to (hv1 _) ?_))) <;> (try (conv => whnf))
  exact HLe.fresh _ (by assumption)
set_option maxHeartbeats 4000000 in
set_option maxRecDepth 8000 in
theorem check_c (n : Nat) (es : List Ed) (fs : List Fx) (hv : validV n es fs = 0) (O E F : List Int) (c : Int) (hO : O.length ≤ 1000000) (hE' : E.length ≤ 1000000) (hF' : F.length ≤ 1000000) (e : Int) (he1 : ChkP n es fs O E F c → e = 0) (he2 : ¬ ChkP n es fs O E F c → e = 17) (H : AH) :
    ACall Try.prog 22 [.int .i64 n, .cs (edL es) es.length, .cs (fxL fs) fs.length, .agg [.cs (iS .i64 O) O.length, .cs (iS .i64 E) E.length, .cs (iS .i64 F) F.length, .int .i64 c]] H (fun y H' => y = .int .i64 e ∧ H' = H) := by
  obtain ⟨⟨_, hn64⟩, ⟨he, hf⟩, hE, hF⟩ := validV_ok hv
  have hv1 := fun H => valid_c n es fs (by omega) (by omega) H
  rw [hv] at hv1
  refine ACall.back ?_
  have hJ0 := net0_ok hE hF
  have hlen0 : (net0 n es fs).length = es.length + fs.length := by unfold net0; simp
  by_cases hl : O.length = n ∧ E.length = es.length ∧ F.length = fs.length
  · obtain ⟨l1, l2, l3⟩ := hl
    have hcc := fun H => concat_c E F (by omega) (by omega) H
    obtain ⟨L, hL⟩ : ∃ L, L = E ++ F := ⟨_, rfl⟩
    have hLl : L.length = es.length + fs.length := by rw [hL, List.length_append]; omega
    rw [← hL] at hcc
    have hil := iS_length .i64 L
    obtain ⟨R, hR⟩ : ∃ R, R = iS .i64 L := ⟨_, rfl⟩
    rw [← hR] at hcc hil
    refine ACall_of tt_ok (dok _) Try.func22 rfl (by decide) rfl ?_
    (repeat' ((conv => whnf); first | left | refine OpsA.cons ?_ | refine OpsA.nil ?_ | refine AWq.seq ?_ | refine AWq.region ?_ | refine AWq.cond ?_ | refine AWq.block ?_ | refine AWq.skip ?_ | refine AWq.ret ?_ | refine AWq.exit ?_ | refine AWq.loop ?_ | (refine Both.mk ?_ ?_ <;> intro hc <;> (first | exact Bool.noConfusion hc | exact absurd (by with_reducible rfl) hc | (exfalso; omega) | skip)) | (intro c hc; (try (simp only [AH.none_iff] at hc; repeat (have hn := hc.1; replace hc := hc.2))); (first | (refine i64_k hc ?_ ?_ ?_ ; omega; omega; (clear hc; intro hc; subst hc)) | skip)) | (apply Exists.intro; apply And.intro; (first | (focus (repeat (first | (with_reducible assumption) | (with_reducible exact AH.set_same _ _ _))); done))) | (apply Exists.intro; apply And.intro; first | (with_reducible assumption) | ((try simp only [List.getElem?_drop, Nat.mul_one, Nat.add_zero, Nat.zero_add]); first | (with_reducible assumption) | rfl)) | (apply And.intro; (first | rfl | (with_reducible assumption) | omega | (simp <;> omega))))) <;> (try (conv => whnf))
    (obtain ⟨c7, hq_⟩ : ∃ c7, c7 = c := ⟨_, rfl⟩); subst hq_
    have hc7 : H c7 = none := hc
    refine Then.mk ?_
    (repeat' ((conv => whnf); first | refine Then.mk ?_ | left | refine OpsA.cons ?_ | refine OpsA.nil ?_ | refine AWq.seq ?_ | refine AWq.region ?_ | refine AWq.cond ?_ | refine AWq.block ?_ | refine AWq.skip ?_ | refine AWq.ret ?_ | refine AWq.exit ?_ | refine AWq.loop ?_ | (refine Both.mk ?_ ?_ <;> intro hc <;> (first | exact Bool.noConfusion hc | exact absurd (by with_reducible rfl) hc | (exfalso; omega) | skip)) | (intro c hc; (try (simp only [AH.none_iff] at hc; repeat (have hn := hc.1; replace hc := hc.2))); (first | (refine i64_k hc ?_ ?_ ?_ ; omega; omega; (clear hc; intro hc; subst hc)) | skip)) | (apply Exists.intro; apply And.intro; (first | (focus (repeat (first | (with_reducible assumption) | (with_reducible exact AH.set_same _ _ _))); done))) | (apply Exists.intro; apply And.intro; first | (with_reducible assumption) | ((try simp only [List.getElem?_drop, Nat.mul_one, Nat.add_zero, Nat.zero_add]); first | (with_reducible assumption) | rfl)) | (apply And.intro; (first | rfl | (with_reducible assumption) | omega | (simp <;> omega))) | (refine ACall.to (hv1 _) ?_))) <;> (try (conv => whnf))
    refine (start_c n (by omega) es fs he hf hE hF _).mono ?_
    rintro y H' ⟨g, ra, hg, hra, hgra, rfl, rfl⟩
    obtain ⟨A0, hA0⟩ : ∃ A0, A0 = net0 n es fs := ⟨_, rfl⟩
    rw [← hA0] at hJ0 hlen0 ⊢
    obtain ⟨S, hS⟩ : ∃ S, S = stH (H.set c7 (.row [.cs (iS .i64 O) O.length, .cs (iS .i64 E) E.length, .cs (iS .i64 F) F.length, .int .i64 c] 0)) n g ra A0 := ⟨_, rfl⟩
    have hSra : S ra = some (.row (acL A0) A0.length) := by rw [hS]; unfold stH; rw [AH.set_ne _ _ (Ne.symm hgra), AH.set_same]
    have hSg : S g = some (.row [.int .i64 n, .sl ra A0.length 5 0 A0.length none] 0) := by rw [hS]; unfold stH; rw [AH.set_same]
    have ng7 := (AH.none_set hg).1
    have na7 := (AH.none_set hra).1
    have hSc : S c7 = some (.row [.cs (iS .i64 O) O.length, .cs (iS .i64 E) E.length, .cs (iS .i64 F) F.length, .int .i64 c] 0) := by rw [hS]; unfold stH; rw [AH.set_ne _ _ (Ne.symm ng7), AH.set_ne _ _ (Ne.symm na7), AH.set_same]
    have hHS : HLe H S := by
      rw [hS]; unfold stH
      exact HLe.set_of _ _ (HLe.set_of _ _ (HLe.fresh _ hc7) (AH.none_set hra).2) (AH.none_set hg).2
    have hHra : H ra = none := (AH.none_set hra).2
    (repeat' ((conv => whnf); first | left | refine OpsA.cons ?_ | refine OpsA.nil ?_ | refine AWq.seq ?_ | refine AWq.region ?_ | refine AWq.cond ?_ | refine AWq.block ?_ | refine AWq.skip ?_ | refine AWq.ret ?_ | refine AWq.exit ?_ | refine AWq.loop ?_ | (refine Both.mk ?_ ?_ <;> intro hc <;> (first | exact Bool.noConfusion hc | exact absurd (by with_reducible rfl) hc | (exfalso; omega) | skip)) | (intro c hc; (try (simp only [AH.none_iff] at hc; repeat (have hn := hc.1; replace hc := hc.2))); (first | (refine i64_k hc ?_ ?_ ?_ ; omega; omega; (clear hc; intro hc; subst hc)) | skip)) | (apply Exists.intro; apply And.intro; (first | (focus (repeat (first | (with_reducible assumption) | (with_reducible exact AH.set_same _ _ _))); done))) | (apply Exists.intro; apply And.intro; first | (with_reducible assumption) | ((try simp only [List.getElem?_drop, Nat.mul_one, Nat.add_zero, Nat.zero_add]); first | (with_reducible assumption) | rfl)) | (apply And.intro; (first | rfl | (with_reducible assumption) | omega | (simp <;> omega))))) <;> (try (conv => whnf))
    refine Then.mk (AWq.in ?_)
    refine AWp_less S (HLe.of_eq hS) ?_
    refine AWp.of tt_ok (dok _) rfl ?_
    (repeat' ((conv => whnf); first | refine Then.mk ?_ | left | refine OpsA.cons ?_ | refine OpsA.nil ?_ | refine AWq.seq ?_ | refine AWq.region ?_ | refine AWq.cond ?_ | refine AWq.block ?_ | refine AWq.skip ?_ | refine AWq.ret ?_ | refine AWq.exit ?_ | refine AWq.loop ?_ | (refine Both.mk ?_ ?_ <;> intro hc <;> (first | exact Bool.noConfusion hc | exact absurd (by with_reducible rfl) hc | (exfalso; omega) | skip)) | (intro c hc; (try (simp only [AH.none_iff] at hc; repeat (have hn := hc.1; replace hc := hc.2))); (first | (refine i64_k hc ?_ ?_ ?_ ; omega; omega; (clear hc; intro hc; subst hc)) | skip)) | (apply Exists.intro; apply And.intro; (first | (focus (repeat (first | (with_reducible assumption) | (with_reducible exact AH.set_same _ _ _))); done))) | (apply Exists.intro; apply And.intro; first | (with_reducible assumption) | ((try simp only [List.getElem?_drop, Nat.mul_one, Nat.add_zero, Nat.zero_add]); first | (with_reducible assumption) | rfl)) | (apply And.intro; (first | rfl | (with_reducible assumption) | omega | (simp <;> omega))) | (refine ACall.to (hcc _) ?_))) <;> (try (conv => whnf))
    refine AWp_loop (σ := Nat) (8 :: 11 :: 12 :: 13 :: 14 :: 56 :: 57 :: 58 :: 59 :: 60 :: 61 :: 62 :: 63 :: 64 :: 65 :: 66 :: 67 :: 68 :: 69 :: 70 :: 71 :: 72 :: 73 :: 74 :: 75 :: 76 :: 77 :: 78 :: 79 :: 80 :: 81 :: 82 :: 83 :: 84 :: 85 :: 86 :: 87 :: []) (fun i => [(56, .int .i64 i), (11, .int .i64 (valF A0 (L.take i)))]) (fun i => S.set ra (.row (acL (setFl A0 (L.take i))) A0.length)) (fun i => i ≤ L.length ∧ allW A0 (L.take i)) (fun i => L.length - i) 0 rfl ⟨Nat.zero_le _, fun j x _ hj => by simp at hj⟩ ⟨rfl, congrArg (AV.int .i64) (by cases A0 <;> rfl), trivial⟩ (HLe.of_eq (by rw [List.take_zero, setFl_nil]; exact AH.set_id hSra)) ?_
    rintro i ⟨hi, hall⟩
    refine AWp.of tt_ok (dok _) rfl ?_
    dsimp only at hi ⊢
    have hA0s : ∀ x ∈ A0, (-65535 ≤ x.d ∧ x.d ≤ 65535) ∧ x.w ≤ 65536 := fun x hx => by
      obtain ⟨xa, xb, d1, d2, w1, w2, f1, f2⟩ := hJ0.ok x hx
      exact ⟨⟨d1, d2⟩, w2⟩
    have hvb := valF_bd A0 (L.take i) hA0s hall
    have htl : ((L.take i).length : Int) ≤ 16384 := by rw [List.length_take]; omega
    by_cases hil2 : i < L.length
    · obtain ⟨x, hx⟩ : ∃ x, A0[i]? = some x := ⟨_, List.getElem?_eq_getElem (by omega)⟩
      obtain ⟨xa, xb, d1, d2, w1, w2, f1, f2⟩ := hJ0.ok x (List.mem_of_getElem? hx)
      have htli : (L.take i).length = i := by rw [List.length_take]; omega
      have hx2 : (setFl A0 (L.take i))[i]? = some x := by rw [setFl_get _ _ _ (by omega)]; exact hx
      have gf : R[(i : Int).toNat]? = some (.int .i64 (L.getD i 0)) := by rw [hR]; exact iS_get hil2
      have htk := getD_app hil2
      have hsn := setFl_snoc A0 (L.take i) x (L.getD i 0) (by rw [htli]; exact hx)
      have hvn := valF_snoc A0 (L.take i) x (L.getD i 0) (by rw [htli]; exact hx)
      have hwn : inW x (L.getD i 0) → allW A0 (L.take i ++ [L.getD i 0]) := allW_snoc (by rw [htli]; exact hx) hall
      rw [htli] at hsn
      rw [← htk] at hsn hvn hwn
      have hg0 : (S.set ra (.row (acL (setFl A0 (L.take i))) A0.length)) g = some (.row [.int .i64 n, .sl ra A0.length 5 0 A0.length none] 0) := by rw [AH.set_ne _ _ hgra]; exact hSg
      have hcl := acL_len (setFl A0 (L.take i))
      rw [setFl_len] at hcl
      have hsl := setFl_len A0 (L.take i)
      have gw : (acL (setFl A0 (L.take i)))[(i : Int).toNat * 5 + 3]? = some (.int .i64 x.w) := acL_get hx2 3 (by decide)
      have gd : (wrA (acL (setFl A0 (L.take i))) (0 + (i : Int).toNat * 5 + 4) [.int .i64 (L.getD i 0)])[(i : Int).toNat * 5 + 2]? = some (.int .i64 x.d) := by
        rw [acL_wrZ hx2]
        exact acL_get (i := i) (x := ⟨x.a, x.b, x.d, x.w, L.getD i 0⟩) (List.getElem?_set_self (by rw [setFl_len]; omega)) 2 (by decide)
      have hst : acL (setFl A0 (L.take (i + 1))) = wrA (acL (setFl A0 (L.take i))) (0 + (i : Int).toNat * 5 + 4) [.int .i64 (L.getD i 0)] := by rw [acL_wrZ hx2, hsn]
      have hno : ¬ inW x (L.getD i 0) → ¬ ChkP n es fs O E F c := fun h k => h (by
        have := k.al i x (by rw [← hA0]; exact hx) (by rw [← hL]; exact hil2)
        rw [hL]; exact this)
      generalize L.getD i 0 = f at *
      generalize setFl A0 (L.take i) = A1 at *
      generalize valF A0 (L.take i) = vv at *
      by_cases hin : -x.w ≤ f ∧ f ≤ x.w
      · have key : -4294967296 ≤ f * x.d ∧ f * x.d ≤ 4294967296 := by
          have a1 : (65536 - f) * (65535 - x.d) ≥ 0 := Int.mul_nonneg (by omega) (by omega)
          have a2 : (65536 + f) * (65535 + x.d) ≥ 0 := Int.mul_nonneg (by omega) (by omega)
          have a3 : (65536 - f) * (65535 + x.d) ≥ 0 := Int.mul_nonneg (by omega) (by omega)
          have a4 : (65536 + f) * (65535 - x.d) ≥ 0 := Int.mul_nonneg (by omega) (by omega)
          simp only [Int.sub_mul, Int.add_mul, Int.mul_sub, Int.mul_add] at a1 a2 a3 a4
          omega
        have hwi := fun H => within1_c x.w (by omega) f true (decide_eq_true hin) H
        (iterate 4 ((repeat' ((conv => whnf); first | left | refine OpsA.cons ?_ | refine OpsA.nil ?_ | refine AWq.seq ?_ | refine AWq.region ?_ | refine AWq.cond ?_ | refine AWq.block ?_ | refine AWq.skip ?_ | refine AWq.ret ?_ | refine AWq.exit ?_ | refine AWq.loop ?_ | (refine Both.mk ?_ ?_ <;> intro hc <;> (first | exact Bool.noConfusion hc | exact absurd (by with_reducible rfl) hc | (exfalso; omega) | skip)) | (intro c hc; (try (simp only [AH.none_iff] at hc; repeat (have hn := hc.1; replace hc := hc.2))); (first | (refine i64_k hc ?_ ?_ ?_ ; omega; omega; (clear hc; intro hc; subst hc)) | skip)) | (apply Exists.intro; apply And.intro; (first | (focus (repeat (first | (with_reducible assumption) | (with_reducible exact AH.set_same _ _ _))); done))) | (apply Exists.intro; apply And.intro; first | (with_reducible assumption) | ((try simp only [List.getElem?_drop, Nat.mul_one, Nat.add_zero, Nat.zero_add]); first | (with_reducible assumption) | rfl)) | (apply And.intro; (first | rfl | (with_reducible assumption) | omega | (simp <;> omega))))) <;> (try (conv => whnf)); refine Then.mk ?_))
        (repeat' ((conv => whnf); first | left | refine OpsA.cons ?_ | refine OpsA.nil ?_ | refine AWq.seq ?_ | refine AWq.region ?_ | refine AWq.cond ?_ | refine AWq.block ?_ | refine AWq.skip ?_ | refine AWq.ret ?_ | refine AWq.exit ?_ | refine AWq.loop ?_ | (refine Both.mk ?_ ?_ <;> intro hc <;> (first | exact Bool.noConfusion hc | exact absurd (by with_reducible rfl) hc | (exfalso; omega) | skip)) | (intro c hc; (try (simp only [AH.none_iff] at hc; repeat (have hn := hc.1; replace hc := hc.2))); (first | (refine i64_k hc ?_ ?_ ?_ ; omega; omega; (clear hc; intro hc; subst hc)) | skip)) | (apply Exists.intro; apply And.intro; (first | (focus (repeat (first | (with_reducible assumption) | (with_reducible exact AH.set_same _ _ _))); done))) | (apply Exists.intro; apply And.intro; first | (with_reducible assumption) | ((try simp only [List.getElem?_drop, Nat.mul_one, Nat.add_zero, Nat.zero_add]); first | (with_reducible assumption) | rfl)) | (apply And.intro; (first | rfl | (with_reducible assumption) | omega | (simp <;> omega))) | (refine ACall.to (hwi _) ?_))) <;> (try (conv => whnf))
        refine Then.mk ?_
        (iterate 1 ((repeat' ((conv => whnf); first | left | refine OpsA.cons ?_ | refine OpsA.nil ?_ | refine AWq.seq ?_ | refine AWq.region ?_ | refine AWq.cond ?_ | refine AWq.block ?_ | refine AWq.skip ?_ | refine AWq.ret ?_ | refine AWq.exit ?_ | refine AWq.loop ?_ | (refine Both.mk ?_ ?_ <;> intro hc <;> (first | exact Bool.noConfusion hc | exact absurd (by with_reducible rfl) hc | (exfalso; omega) | skip)) | (intro c hc; (try (simp only [AH.none_iff] at hc; repeat (have hn := hc.1; replace hc := hc.2))); (first | (refine i64_k hc ?_ ?_ ?_ ; omega; omega; (clear hc; intro hc; subst hc)) | skip)) | (apply Exists.intro; apply And.intro; (first | (focus (repeat (first | (with_reducible assumption) | (with_reducible exact AH.set_same _ _ _))); done))) | (apply Exists.intro; apply And.intro; first | (with_reducible assumption) | ((try simp only [List.getElem?_drop, Nat.mul_one, Nat.add_zero, Nat.zero_add]); first | (with_reducible assumption) | rfl)) | (apply And.intro; (first | rfl | (with_reducible assumption) | omega | (simp <;> omega))))) <;> (try (conv => whnf)); refine Then.mk ?_))
        (repeat' ((conv => whnf); first | left | refine OpsA.cons ?_ | refine OpsA.nil ?_ | refine AWq.seq ?_ | refine AWq.region ?_ | refine AWq.cond ?_ | refine AWq.block ?_ | refine AWq.skip ?_ | refine AWq.ret ?_ | refine AWq.exit ?_ | refine AWq.loop ?_ | (refine Both.mk ?_ ?_ <;> intro hc <;> (first | exact Bool.noConfusion hc | exact absurd (by with_reducible rfl) hc | (exfalso; omega) | skip)) | (intro c hc; (try (simp only [AH.none_iff] at hc; repeat (have hn := hc.1; replace hc := hc.2))); (first | (refine i64_k hc ?_ ?_ ?_ ; omega; omega; (clear hc; intro hc; subst hc)) | skip)) | (apply Exists.intro; apply And.intro; (first | (focus (repeat (first | (with_reducible assumption) | (with_reducible exact AH.set_same _ _ _))); done))) | (apply Exists.intro; apply And.intro; first | (with_reducible assumption) | ((try simp only [List.getElem?_drop, Nat.mul_one, Nat.add_zero, Nat.zero_add]); first | (with_reducible assumption) | rfl)) | (apply And.intro; (first | rfl | (with_reducible assumption) | omega | (simp <;> omega))))) <;> (try (conv => whnf))
        refine Then.mk (AWq.in ?_)
        have hA2l : (acL (setFl A0 (L.take (i + 1)))).length = A0.length * 5 := by rw [acL_len, setFl_len]
        rw [← hst] at gd
        refine AWp_less (S.set ra (.row (acL (setFl A0 (L.take (i + 1)))) A0.length)) (HLe.of_eq (by rw [hst]; exact (AH.set_set _ _ _ _).symm)) ?_
        refine AWp.of tt_ok (dok _) rfl ?_
        generalize hA2 : acL (setFl A0 (L.take (i + 1))) = R2 at *
        (repeat' ((conv => whnf); first | refine Then.mk ?_ | left | refine OpsA.cons ?_ | refine OpsA.nil ?_ | refine AWq.seq ?_ | refine AWq.region ?_ | refine AWq.cond ?_ | refine AWq.block ?_ | refine AWq.skip ?_ | refine AWq.ret ?_ | refine AWq.exit ?_ | refine AWq.loop ?_ | (refine Both.mk ?_ ?_ <;> intro hc <;> (first | exact Bool.noConfusion hc | exact absurd (by with_reducible rfl) hc | (exfalso; omega) | skip)) | (intro c hc; (try (simp only [AH.none_iff] at hc; repeat (have hn := hc.1; replace hc := hc.2))); (first | (refine i64_k hc ?_ ?_ ?_ ; omega; omega; (clear hc; intro hc; subst hc)) | skip)) | (apply Exists.intro; apply And.intro; (first | (focus (repeat (first | (with_reducible assumption) | (with_reducible exact AH.set_same _ _ _))); done))) | (apply Exists.intro; apply And.intro; first | (with_reducible assumption) | ((try simp only [List.getElem?_drop, Nat.mul_one, Nat.add_zero, Nat.zero_add]); first | (with_reducible assumption) | rfl)) | (apply And.intro; (first | rfl | (with_reducible assumption) | omega | (simp <;> omega))))) <;> (try (conv => whnf))
        refine ⟨i + 1, ⟨hil2, hwn hin⟩, by omega, ⟨congrArg (AV.int .i64) (by omega), congrArg (AV.int .i64) (by rw [hvn]), trivial⟩, HLe.of_eq ?_⟩
        rw [hA2]
      · have hwi := fun H => within1_c x.w (by omega) f false (decide_eq_false hin) H
        have hen := he2 (hno hin)
        subst hen
        (repeat' ((conv => whnf); first | refine Then.mk ?_ | left | refine OpsA.cons ?_ | refine OpsA.nil ?_ | refine AWq.seq ?_ | refine AWq.region ?_ | refine AWq.cond ?_ | refine AWq.block ?_ | refine AWq.skip ?_ | refine AWq.ret ?_ | refine AWq.exit ?_ | refine AWq.loop ?_ | (refine Both.mk ?_ ?_ <;> intro hc <;> (first | exact Bool.noConfusion hc | exact absurd (by with_reducible rfl) hc | (exfalso; omega) | skip)) | (intro c hc; (try (simp only [AH.none_iff] at hc; repeat (have hn := hc.1; replace hc := hc.2))); (first | (refine i64_k hc ?_ ?_ ?_ ; omega; omega; (clear hc; intro hc; subst hc)) | skip)) | (apply Exists.intro; apply And.intro; (first | (focus (repeat (first | (with_reducible assumption) | (with_reducible exact AH.set_same _ _ _))); done))) | (apply Exists.intro; apply And.intro; first | (with_reducible assumption) | ((try simp only [List.getElem?_drop, Nat.mul_one, Nat.add_zero, Nat.zero_add]); first | (with_reducible assumption) | rfl)) | (apply And.intro; (first | rfl | (with_reducible assumption) | omega | (simp <;> omega))) | (refine ACall.to (hwi _) ?_))) <;> (try (conv => whnf))
        exact HLe.set_of _ _ hHS hHra
    · have hie : i = L.length := by omega
      rw [hie, List.take_of_length_le (Nat.le_refl _)] at hall
      have hte : L.take i = L := List.take_of_length_le (by omega)
      rw [hte] at hvb ⊢
      obtain ⟨A, hA⟩ : ∃ A, A = setFl A0 L := ⟨_, rfl⟩
      have hAok : ∀ x ∈ A, AcOk n x := by rw [hA]; exact setFl_ok hJ0.ok hall
      have hAl : A.length = A0.length := by rw [hA, setFl_len]
      rw [← hA]
      obtain ⟨vv, hvv⟩ : ∃ vv, vv = valF A0 L := ⟨_, rfl⟩
      rw [← hvv] at hvb ⊢
      have hk7 : (S.set ra (.row (acL A) A0.length)) c7 = some (.row [.cs (iS .i64 O) O.length, .cs (iS .i64 E) E.length, .cs (iS .i64 F) F.length, .int .i64 c] 0) := by rw [AH.set_ne _ _ (Ne.symm na7)]; exact hSc
      have hNet : NetAt (S.set ra (.row (acL A) A0.length)) n A g 0 ra A0.length none := ⟨by rw [AH.set_ne _ _ hgra, hAl]; exact hSg, AH.set_same _ _ _, hgra⟩
      have hnet := net_c n (by omega) A hAok (by omega) _ g 0 ra A0.length none hNet
      have hHG : HLe H (S.set ra (.row (acL A) A0.length)) := HLe.set_of _ _ hHS hHra
      obtain ⟨G, hG⟩ : ∃ G, G = S.set ra (.row (acL A) A0.length) := ⟨_, rfl⟩
      rw [← hG] at hk7 hnet hHG ⊢
      have hcost := fun H => cost_c es fs O (by omega) (by omega) (by omega) H
      have hcon := fun H => contains0_c (fun x => decide (x ≠ 0)) 48 (fnL n (netN A)) (by simp; omega) H (fun x _ => chk1_c x H)
      have htn : dL n (netN A) = List.take ((n : Int).toNat * 1) (dL (n + 1) (netN A)) := by
        rw [Int.toNat_natCast, Nat.mul_one]
        unfold dL iS
        rw [← List.map_take]
        congr 1
        unfold fnL
        rw [← List.map_take, List.take_range]
        congr 2; omega
      rw [fnL_len] at hcon
      have hcon : ∀ H, ACall Try.prog 47 [.cs (List.take ((n : Int).toNat * 1) (dL (n + 1) (netN A))) (n : Int).toNat, .fn (.func 48) [] []] H (fun y H' => y = .bool ((fnL n (netN A)).any fun x => decide (x ≠ 0)) ∧ H' = H) := fun H => by
        rw [← htn]; exact hcon H
      have hdl := dL_len (n + 1) (netN A)
      have hany : ((fnL n (netN A)).any fun x => decide (x ≠ 0)) = false ↔ ∀ v, v < n → netN A v = 0 := by
        rw [List.any_eq_false]
        constructor
        · intro h v hv
          have := h (netN A v) (List.mem_map.2 ⟨v, by simpa using hv, rfl⟩)
          simpa using this
        · intro h x hx
          obtain ⟨v, hv, rfl⟩ := List.mem_map.1 hx
          simpa using h v (by simpa using hv)
      have hP : ChkP n es fs O E F c ↔ (costR es fs O).2 = 0 ∧ (costR es fs O).1 = c ∧ vv = c ∧ ((fnL n (netN A)).any fun x => decide (x ≠ 0)) = false := by
        rw [hany]
        constructor
        · intro k
          refine ⟨by rw [k.co], by rw [k.co], ?_, ?_⟩
          · rw [hvv, hL, hA0]; exact k.va
          · rw [hA, hL, hA0]; exact k.ne
        · rintro ⟨k1, k2, k3, k4⟩
          refine ⟨l1, l2, l3, ?_, Prod.ext k2 k1, ?_, ?_⟩
          · rw [← hL, ← hA0]; exact hall
          · rw [← hL, ← hA0, ← hvv]; exact k3
          · rw [← hL, ← hA0, ← hA]; exact k4
      generalize ((fnL n (netN A)).any fun x => decide (x ≠ 0)) = bb at *
      generalize costR es fs O = cr at *
      obtain ⟨cr1, cr2⟩ := cr
      dsimp only at hP hcost
      by_cases hgood : cr2 = 0 ∧ cr1 = c ∧ vv = c ∧ bb = false
      · have hen := he1 (hP.2 hgood)
        obtain ⟨rfl, rfl, rfl, rfl⟩ := hgood
        subst hen
        (repeat' ((conv => whnf); first | refine Then.mk ?_ | left | refine OpsA.cons ?_ | refine OpsA.nil ?_ | refine AWq.seq ?_ | refine AWq.region ?_ | refine AWq.cond ?_ | refine AWq.block ?_ | refine AWq.skip ?_ | refine AWq.ret ?_ | refine AWq.exit ?_ | refine AWq.loop ?_ | (refine Both.mk ?_ ?_ <;> intro hc <;> (first | exact Bool.noConfusion hc | exact absurd (by with_reducible rfl) hc | (exfalso; omega) | skip)) | (intro c hc; (try (simp only [AH.none_iff] at hc; repeat (have hn := hc.1; replace hc := hc.2))); (first | (refine i64_k hc ?_ ?_ ?_ ; omega; omega; (clear hc; intro hc; subst hc)) | skip)) | (apply Exists.intro; apply And.intro; (first | (focus (repeat (first | (with_reducible assumption) | (with_reducible exact AH.set_same _ _ _))); done))) | (apply Exists.intro; apply And.intro; first | (with_reducible assumption) | ((try simp only [List.getElem?_drop, Nat.mul_one, Nat.add_zero, Nat.zero_add]); first | (with_reducible assumption) | rfl)) | (apply And.intro; (first | rfl | (with_reducible assumption) | omega | (simp <;> omega))) | (refine ACall.to (hcost _) ?_) | (refine ACall.to (hnet) ?_) | (refine ACall.to (hcon _) ?_))) <;> (try (conv => whnf))
        all_goals exact hHG
      · have hen := he2 (fun k => hgood (hP.1 k))
        subst hen
        cases bb with
        | true =>
          (repeat' ((conv => whnf); first | refine Then.mk ?_ | left | refine OpsA.cons ?_ | refine OpsA.nil ?_ | refine AWq.seq ?_ | refine AWq.region ?_ | refine AWq.cond ?_ | refine AWq.block ?_ | refine AWq.skip ?_ | refine AWq.ret ?_ | refine AWq.exit ?_ | refine AWq.loop ?_ | (refine Both.mk ?_ ?_ <;> intro hc <;> (first | exact Bool.noConfusion hc | exact absurd (by with_reducible rfl) hc | (exfalso; omega) | skip)) | (intro c hc; (try (simp only [AH.none_iff] at hc; repeat (have hn := hc.1; replace hc := hc.2))); (first | (refine i64_k hc ?_ ?_ ?_ ; omega; omega; (clear hc; intro hc; subst hc)) | skip)) | (apply Exists.intro; apply And.intro; (first | (focus (repeat (first | (with_reducible assumption) | (with_reducible exact AH.set_same _ _ _))); done))) | (apply Exists.intro; apply And.intro; first | (with_reducible assumption) | ((try simp only [List.getElem?_drop, Nat.mul_one, Nat.add_zero, Nat.zero_add]); first | (with_reducible assumption) | rfl)) | (apply And.intro; (first | rfl | (with_reducible assumption) | omega | (simp <;> omega))) | (refine ACall.to (hcost _) ?_) | (refine ACall.to (hnet) ?_) | (refine ACall.to (hcon _) ?_))) <;> (try (conv => whnf))
          all_goals exact hHG
        | false =>
          have hg2 : ¬ (cr2 = 0 ∧ cr1 = c ∧ vv = c) := fun k => hgood ⟨k.1, k.2.1, k.2.2, rfl⟩
          (repeat' ((conv => whnf); first | refine Then.mk ?_ | left | refine OpsA.cons ?_ | refine OpsA.nil ?_ | refine AWq.seq ?_ | refine AWq.region ?_ | refine AWq.cond ?_ | refine AWq.block ?_ | refine AWq.skip ?_ | refine AWq.ret ?_ | refine AWq.exit ?_ | refine AWq.loop ?_ | (refine Both.mk ?_ ?_ <;> intro hc <;> (first | exact Bool.noConfusion hc | exact absurd (by with_reducible rfl) hc | (exfalso; omega) | skip)) | (intro c hc; (try (simp only [AH.none_iff] at hc; repeat (have hn := hc.1; replace hc := hc.2))); (first | (refine i64_k hc ?_ ?_ ?_ ; omega; omega; (clear hc; intro hc; subst hc)) | skip)) | (apply Exists.intro; apply And.intro; (first | (focus (repeat (first | (with_reducible assumption) | (with_reducible exact AH.set_same _ _ _))); done))) | (apply Exists.intro; apply And.intro; first | (with_reducible assumption) | ((try simp only [List.getElem?_drop, Nat.mul_one, Nat.add_zero, Nat.zero_add]); first | (with_reducible assumption) | rfl)) | (apply And.intro; (first | rfl | (with_reducible assumption) | omega | (simp <;> omega))) | (refine ACall.to (hcost _) ?_) | (refine ACall.to (hnet) ?_) | (refine ACall.to (hcon _) ?_))) <;> (try (conv => whnf))
          all_goals exact hHG
  · have hen := he2 (fun k => hl ⟨k.l1, k.l2, k.l3⟩)
    subst hen
    refine ACall_of tt_ok (dok _) Try.func22 rfl (by decide) rfl ?_
    (repeat' ((conv => whnf); first | refine Then.mk ?_ | left | refine OpsA.cons ?_ | refine OpsA.nil ?_ | refine AWq.seq ?_ | refine AWq.region ?_ | refine AWq.cond ?_ | refine AWq.block ?_ | refine AWq.skip ?_ | refine AWq.ret ?_ | refine AWq.exit ?_ | refine AWq.loop ?_ | (refine Both.mk ?_ ?_ <;> intro hc <;> (first | exact Bool.noConfusion hc | exact absurd (by with_reducible rfl) hc | (exfalso; omega) | skip)) | (intro c hc; (try (simp only [AH.none_iff] at hc; repeat (have hn := hc.1; replace hc := hc.2))); (first | (refine i64_k hc ?_ ?_ ?_ ; omega; omega; (clear hc; intro hc; subst hc)) | skip)) | (apply Exists.intro; apply And.intro; (first | (focus (repeat (first | (with_reducible assumption) | (with_reducible exact AH.set_same _ _ _))); done))) | (apply Exists.intro; apply And.intro; first | (with_reducible assumption) | ((try simp only [List.getElem?_drop, Nat.mul_one, Nat.add_zero, Nat.zero_add]); first | (with_reducible assumption) | rfl)) | (apply And.intro; (first | rfl | (with_reducible assumption) | omega | (simp <;> omega))) | (refine ACall.to (hv1 _) ?_))) <;> (try (conv => whnf))
    all_goals exact HLe.fresh _ (by assumption)
end Go.Proofs.Ytebflkgpbbjhnaa
/- The plain law of balance: Solve's answer is the best one. -/
namespace Go.Proofs.Ytebflkgpbbjhnaa
open Go.Fw Go
set_option linter.unusedVariables false
set_option linter.unusedSimpArgs false

theorem Alk.cons {x : Ac} {A B : List Ac} (h : Alk (x :: A) B) : ∃ g B', B = addF x g :: B' ∧ Alk A B' := by
  obtain ⟨g, hg⟩ := (h 0).1 x rfl
  cases B with
  | nil => simp at hg
  | cons y B =>
    simp at hg
    subst hg
    refine ⟨g, B, rfl, fun i => ⟨fun z hz => ?_, fun hn => ?_⟩⟩
    · have := (h (i + 1)).1 z (by simpa using hz)
      simpa using this
    · have := (h (i + 1)).2 (by simpa using hn)
      simpa using this
theorem Alk.sum {g : Ac → Int} (hg : ∀ x z, g (addF x z) = g x) : ∀ {A B : List Ac}, Alk A B → (B.map g).sum = (A.map g).sum
  | [], B, h => by
    have := h.len
    have : B = [] := List.eq_nil_of_length_eq_zero (by simpa using this)
    rw [this]
  | x :: A, B, h => by
    obtain ⟨z, B', rfl, h'⟩ := h.cons
    rw [List.map_cons, List.sum_cons, List.map_cons, List.sum_cons, hg, Alk.sum hg h']
/-- Offsets with 0 for the further node. -/
def nul (n : Nat) (q : Nat → Int) : Nat → Int := fun v => if v = n then 0 else q v
theorem cost_net {n : Nat} {es : List Ed} {fs : List Fx} (hE : ∀ x ∈ es, vE n x) (hF : ∀ x ∈ fs, vF n x) (q : Nat → Int) : costA (nul n q) (net0 n es fs) = costP es fs q := by
  unfold costA costP net0
  rw [List.map_append, List.sum_append, List.map_map, List.map_map]
  congr 1
  · refine congrArg List.sum (List.map_congr_left fun x hx => ?_)
    obtain ⟨v1, v2, v3, v4, v5⟩ := hE x hx
    show x.w * absI (nul n q x.a.toNat - nul n q x.b.toNat - x.d) = costE q x
    unfold nul costE
    rw [if_neg (by omega), if_neg (by omega)]
  · refine congrArg List.sum (List.map_congr_left fun x hx => ?_)
    obtain ⟨v1, v4, v5⟩ := hF x hx
    show x.w * absI (nul n q x.a.toNat - nul n q n - x.v) = costF q x
    unfold nul costF
    rw [if_neg (by omega), if_pos rfl, Int.sub_zero]
theorem cost_alk {n : Nat} {es : List Ed} {fs : List Fx} (hE : ∀ x ∈ es, vE n x) (hF : ∀ x ∈ fs, vF n x) {A : List Ac} (h : Alk (net0 n es fs) A) (q : Nat → Int) : costA (nul n q) A = costP es fs q := by
  rw [← cost_net hE hF]
  exact h.sum fun x z => rfl

theorem Sv.bs {n : Nat} {es : List Ed} {fs : List Fx} {A : List Ac} {d o : Nat → Int} (h : Sv n es fs A d o) {v : Nat} (hv : v ≤ n) : 0 ≤ bsN n o v ∧ bsN n o v ≤ n := by
  have h1 := h.bi.lo v hv
  have h2 := h.bi.up v hv
  unfold bsN; split <;> omega
theorem Sv.at {n : Nat} {es : List Ed} {fs : List Fx} {A : List Ac} {d o : Nat → Int} (h : Sv n es fs A d o) {v : Nat} (hv : v < n) : ofL (fnL n (offS n d o)) v = d v - d (bsN n o v).toNat := by
  unfold ofL
  rw [List.getD_eq_getElem?_getD, fnL_get _ hv]; rfl
theorem Sv.off {n : Nat} {es : List Ed} {fs : List Fx} {A : List Ac} {d o : Nat → Int} (h : Sv n es fs A d o) {x : Ac} (hx : x ∈ A) : off (nul n (ofL (fnL n (offS n d o)))) x = off d x := by
  obtain ⟨xa, xb, _, _, _, _, _, _⟩ := h.ok x hx
  have key : ∀ v, v ≤ n → nul n (ofL (fnL n (offS n d o))) v = d v - d (bsN n o v).toNat := fun v hv => by
    unfold nul
    by_cases e : v = n
    · rw [if_pos e, e]
      have : bsN n o n = n := by unfold bsN; rw [h.bi.last]; rfl
      rw [this, Int.toNat_natCast]; omega
    · rw [if_neg e]; exact h.at (by omega)
  have hb : bsN n o x.a = bsN n o x.b := by unfold bsN; rw [h.eq x hx]
  unfold Proofs.Ytebflkgpbbjhnaa.off
  rw [key _ xa, key _ xb, hb]; omega
theorem Sv.bd {n : Nat} {es : List Ed} {fs : List Fx} {A : List Ac} {d o : Nat → Int} (h : Sv n es fs A d o) {v : Nat} (hn : n ≤ 64) (hv : v < n) : -4259840 ≤ ofL (fnL n (offS n d o)) v ∧ ofL (fnL n (offS n d o)) v ≤ 4259840 := by
  rw [h.at hv]
  obtain ⟨b1, b2⟩ := h.bs (v := v) (by omega)
  have l1 := h.lo v (by omega)
  have u1 := h.up v (by omega)
  have l2 := h.lo (bsN n o v).toNat (by omega)
  have u2 := h.up (bsN n o v).toNat (by omega)
  omega
theorem Sv.range {n : Nat} {es : List Ed} {fs : List Fx} {A : List Ac} {d o : Nat → Int} (h : Sv n es fs A d o) (hn : n ≤ 64) : ∀ x ∈ fnL n (offS n d o), -1073741824 ≤ x ∧ x ≤ 1073741824 := by
  intro x hx
  obtain ⟨v, hv, rfl⟩ := List.mem_map.1 hx
  have hv : v < n := by simpa using hv
  have h1 := h.bd hn hv
  have h2 := h.at hv
  have : offS n d o v = d v - d (bsN n o v).toNat := rfl
  omega
/-- Its cost is what its flows are worth. -/
theorem Sv.cost {n : Nat} {es : List Ed} {fs : List Fx} {A : List Ac} {d o : Nat → Int} (h : Sv n es fs A d o) (hE : ∀ x ∈ es, vE n x) (hF : ∀ x ∈ fs, vF n x) : costP es fs (ofL (fnL n (offS n d o))) = valA A := by
  rw [← cost_alk hE hF h.alk, equal h.ok (o := d) (fun v hv => by rw [h.net v hv, Int.mul_zero]) h.fe]
  unfold costA
  exact congrArg List.sum (List.map_congr_left fun x hx => by rw [h.off hx])
/-- No other offsets cost less. -/
theorem Sv.min {n : Nat} {es : List Ed} {fs : List Fx} {A : List Ac} {d o : Nat → Int} (h : Sv n es fs A d o) (hE : ∀ x ∈ es, vE n x) (hF : ∀ x ∈ fs, vF n x) (q : Nat → Int) : costP es fs (ofL (fnL n (offS n d o))) ≤ costP es fs q := by
  rw [h.cost hE hF, ← cost_alk hE hF h.alk]
  exact weak h.ok fun v hv => by rw [h.net v hv, Int.mul_zero]
theorem Sv.costR {n : Nat} {es : List Ed} {fs : List Fx} {A : List Ac} {d o : Nat → Int} (h : Sv n es fs A d o) (hE : ∀ x ∈ es, vE n x) (hF : ∀ x ∈ fs, vF n x) (hv : validV n es fs = 0) : Proofs.Ytebflkgpbbjhnaa.costR es fs (fnL n (offS n d o)) = (costP es fs (ofL (fnL n (offS n d o))), 0) := by
  obtain ⟨⟨_, hn⟩, _, _, _⟩ := validV_ok hv
  unfold Proofs.Ytebflkgpbbjhnaa.costR
  rw [fnL_len, hv, if_neg (by simp), if_pos (h.range (by omega))]
theorem Sv.flows {n : Nat} {es : List Ed} {fs : List Fx} {A : List Ac} {d o : Nat → Int} (h : Sv n es fs A d o) (hE : ∀ x ∈ es, vE n x) (hF : ∀ x ∈ fs, vF n x) : setFl (net0 n es fs) (flE es A ++ flF es A) = A ∧ allW (net0 n es fs) (flE es A ++ flF es A) ∧ valF (net0 n es fs) (flE es A ++ flF es A) = valA A ∧ (flE es A).length = es.length ∧ (flF es A).length = fs.length := by
  have hl := h.alk.len
  have hl0 : (net0 n es fs).length = es.length + fs.length := by unfold net0; simp
  have hEF : flE es A ++ flF es A = A.map (·.f) := by
    unfold flE flF; rw [← List.map_append, List.take_append_drop]
  rw [hEF]
  have gen : ∀ {A0 A : List Ac}, Alk A0 A → (∀ x ∈ A, -x.w ≤ x.f ∧ x.f ≤ x.w) → setFl A0 (A.map (·.f)) = A ∧ allW A0 (A.map (·.f)) ∧ valF A0 (A.map (·.f)) = valA A := by
    intro A0
    induction A0 with
    | nil =>
      intro A hal _
      have : A = [] := List.eq_nil_of_length_eq_zero (by simpa using hal.len)
      subst this
      exact ⟨rfl, fun i x hx => by simp at hx, rfl⟩
    | cons x A0 ih =>
      intro A hal hw
      obtain ⟨z, B, rfl, h'⟩ := hal.cons
      obtain ⟨i1, i2, i3⟩ := ih h' fun y hy => hw y (by simp [hy])
      have hw0 := hw _ (List.mem_cons_self ..)
      refine ⟨?_, fun i y hy hi => ?_, ?_⟩
      · simp only [List.map_cons, setFl, i1]; rfl
      · cases i with
        | zero => simp at hy; subst hy; exact hw0
        | succ i =>
          have := i2 i y (by simpa using hy) (by simpa using hi)
          simpa using this
      · simp only [List.map_cons, valF, i3]; rfl
  obtain ⟨g1, g2, g3⟩ := gen h.alk fun x hx => ⟨(h.ok x hx).f1, (h.ok x hx).f2⟩
  refine ⟨g1, g2, g3, ?_, ?_⟩
  · unfold flE; rw [List.length_map, List.length_take]; omega
  · unfold flF; rw [List.length_map, List.length_drop]; omega
theorem Sv.chk {n : Nat} {es : List Ed} {fs : List Fx} {A : List Ac} {d o : Nat → Int} (h : Sv n es fs A d o) (hE : ∀ x ∈ es, vE n x) (hF : ∀ x ∈ fs, vF n x) (hv : validV n es fs = 0) : ChkP n es fs (fnL n (offS n d o)) (flE es A) (flF es A) (Proofs.Ytebflkgpbbjhnaa.costR es fs (fnL n (offS n d o))).1 := by
  obtain ⟨f1, f2, f3, f4, f5⟩ := h.flows hE hF
  have hc := h.costR hE hF hv
  refine ⟨fnL_len _ _, f4, f5, f2, by rw [hc], ?_, fun v hv => ?_⟩
  · rw [hc, f3, h.cost hE hF]
  · rw [f1]; exact h.net v (by omega)
end Go.Proofs.Ytebflkgpbbjhnaa
/- The walks of balance: Solve's answer is accepted; the example. -/
namespace Go.Proofs.Ytebflkgpbbjhnaa
open Go.Fw Go
set_option linter.unusedVariables false
set_option linter.unusedSimpArgs false

theorem check_solved {n : Nat} {es : List Ed} {fs : List Fx} {A : List Ac} {d o : Nat → Int} (h : Sv n es fs A d o) (hv : validV n es fs = 0) (H : AH) :
    ACall Try.prog 22 [.int .i64 n, .cs (edL es) es.length, .cs (fxL fs) fs.length, .agg [.cs (iS .i64 (fnL n (offS n d o))) n, .cs (iS .i64 (flE es A)) es.length, .cs (iS .i64 (flF es A)) fs.length, .int .i64 (costR es fs (fnL n (offS n d o))).1]] H (fun y H' => y = .int .i64 0 ∧ H' = H) := by
  obtain ⟨⟨_, hn⟩, ⟨he, hf⟩, hE, hF⟩ := validV_ok hv
  obtain ⟨_, _, _, f4, f5⟩ := h.flows hE hF
  have hc := check_c n es fs hv (fnL n (offS n d o)) (flE es A) (flF es A) (costR es fs (fnL n (offS n d o))).1 (by rw [fnL_len]; omega) (by omega) (by omega) 0 (fun _ => rfl) (fun k => absurd (h.chk hE hF hv) k) H
  rw [fnL_len, f4, f5] at hc
  exact hc
set_option maxRecDepth 8000 in
theorem lives17_c (H : AH) : ACall Try.prog 19 [] H (fun y H' => y = .bool true ∧ H' = H) := by
  obtain ⟨es, hes⟩ : ∃ es : List Ed, es = [⟨0, 1, 5, 2⟩] := ⟨_, rfl⟩
  obtain ⟨fs, hfs⟩ : ∃ fs : List Fx, fs = [⟨0, 0, 1⟩, ⟨1, 3, 1⟩] := ⟨_, rfl⟩
  have hv : validV (2 : Nat) es fs = 0 := by rw [hes, hfs]; decide
  obtain ⟨_, _, hE, hF⟩ := validV_ok hv
  have hsolve := fun H => solve_c 2 es fs hv H
  have c1 := fun H => cost_c es fs [0, -5] (by rw [hes]; decide) (by rw [hfs]; decide) (by decide) H
  have c2 := fun H => cost_c es fs [8, 3] (by rw [hes]; decide) (by rw [hfs]; decide) (by decide) H
  have e1 : costR es fs [0, -5] = (8, 0) := by rw [hes, hfs]; decide
  have e2 : costR es fs [8, 3] = (8, 0) := by rw [hes, hfs]; decide
  rw [e1] at c1
  rw [e2] at c2
  have p1 : costP es fs (ofL [0, -5]) = 8 := by rw [hes, hfs]; decide
  have hlow : ∀ q : Nat → Int, 8 ≤ costP es fs q := fun q => by
    rw [hes, hfs]
    unfold costP
    simp only [List.map_cons, List.map_nil, List.sum_cons, List.sum_nil, costE, costF]
    show 8 ≤ 2 * absI (q 0 - q 1 - 5) + 0 + (1 * absI (q 0 - 0) + (1 * absI (q 1 - 3) + 0))
    unfold absI
    split <;> split <;> split <;> omega
  have hchk := fun A d o (h : Sv 2 es fs A d o) H => check_solved h hv H
  have hR : edL es = [.int .i64 0, .int .i64 1, .int .i64 5, .int .i64 2] := by rw [hes]; rfl
  have hR2 : fxL fs = [.int .i64 0, .int .i64 0, .int .i64 1, .int .i64 1, .int .i64 3, .int .i64 1] := by rw [hfs]; rfl
  have l1 : es.length = 1 := by rw [hes]; rfl
  have l2 : fs.length = 2 := by rw [hfs]; rfl
  rw [l1, l2, hR, hR2] at hsolve c1 c2 hchk
  refine ACall.back ?_
  refine ACall_of tt_ok (dok _) Try.func19 rfl (by decide) rfl ?_
  (repeat' ((conv => whnf); first | refine Then.mk ?_ | left | refine OpsA.cons ?_ | refine OpsA.nil ?_ | refine AWq.seq ?_ | refine AWq.region ?_ | refine AWq.ret ?_ | (refine Both.mk ?_ ?_ <;> intro hc <;> (first | exact absurd (by with_reducible rfl) hc | skip)) | (intro c hc; (try (simp only [AH.none_iff] at hc; repeat (have hn := hc.1; replace hc := hc.2))); (first | skip)) | (apply Exists.intro; apply And.intro; (first | (focus (repeat (first | (with_reducible assumption) | (with_reducible exact AH.set_same _ _ _))); done))) | (apply Exists.intro; apply And.intro; first | (with_reducible assumption) | ((try simp only [List.getElem?_drop, Nat.mul_one, Nat.add_zero, Nat.zero_add]); first | (with_reducible assumption) | rfl)) | (apply And.intro; (first | rfl | (with_reducible assumption) | exact Nat.le_of_ble_eq_true rfl)))) <;> (try (conv => whnf))
  refine ACall.mono (hsolve _) ?_
  rintro y H' ⟨A, d, o, hSv, rfl, rfl⟩
  have hk := fun H => hchk A d o hSv H
  have hm1 := hSv.min hE hF (ofL [0, -5])
  have hm2 := hlow (ofL (fnL 2 (offS 2 d o)))
  have hcr := hSv.costR hE hF hv
  have hco : (costR es fs (fnL 2 (offS 2 d o))).1 = 8 := by rw [hcr]; show costP es fs _ = 8; omega
  unfold solV
  rw [hco, l1, l2]
  rw [hco] at hk
  (repeat' ((conv => whnf); first | refine Then.mk ?_ | left | refine OpsA.cons ?_ | refine OpsA.nil ?_ | refine AWq.seq ?_ | refine AWq.region ?_ | refine AWq.ret ?_ | (refine Both.mk ?_ ?_ <;> intro hc <;> (first | exact absurd (by with_reducible rfl) hc | skip)) | (intro c hc; (try (simp only [AH.none_iff] at hc; repeat (have hn := hc.1; replace hc := hc.2))); (first | skip)) | (apply Exists.intro; apply And.intro; (first | (focus (repeat (first | (with_reducible assumption) | (with_reducible exact AH.set_same _ _ _))); done))) | (apply Exists.intro; apply And.intro; first | (with_reducible assumption) | ((try simp only [List.getElem?_drop, Nat.mul_one, Nat.add_zero, Nat.zero_add]); first | (with_reducible assumption) | rfl)) | (apply And.intro; (first | rfl | (with_reducible assumption) | exact Nat.le_of_ble_eq_true rfl)) | (refine ACall.to (c1 _) ?_) | (refine ACall.to (c2 _) ?_) | (refine ACall.to (hk _) ?_))) <;> (try (conv => whnf))
  (first | ((repeat' (first | (with_reducible exact HLe.refl _) | (with_reducible assumption) | refine HLe.set_of _ _ ?_ ?_)); done))
end Go.Proofs.Ytebflkgpbbjhnaa
/- The walks of balance: real, plain. -/
namespace Go.Proofs.Ytebflkgpbbjhnaa
open Go.Fw Go
set_option linter.unusedVariables false
set_option linter.unusedSimpArgs false

theorem edL_get {l : List Ed} {i : Nat} {x : Ed} (h : l[i]? = some x) (j : Nat) (hj : j < 4) : (edL l)[i * 4 + j]? = (edA x)[j]? := fL_get edA_len h hj
theorem fxL_get {l : List Fx} {i : Nat} {x : Fx} (h : l[i]? = some x) (j : Nat) (hj : j < 3) : (fxL l)[i * 3 + j]? = (fxA x)[j]? := fL_get fxA_len h hj
set_option maxHeartbeats 4000000 in
set_option maxRecDepth 8000 in
theorem real_s (es : List Ed) (fs : List Fx) (he : es.length ≤ 1000000) (hf : fs.length ≤ 1000000) (H : AH) :
    ACall Try.prog 13 [.cs (edL es) es.length, .cs (fxL fs) fs.length] H (fun y H' => ∃ r1 r2 v1 v2, H r1 = none ∧ H r2 = none ∧ r1 ≠ r2 ∧ y = .tup [.sl r1 v1 4 0 es.length none, .sl r2 v2 3 0 fs.length none] ∧ H' = (H.set r1 (.row (edL es) v1)).set r2 (.row (fxL fs) v2)) := by
  have hel := edL_len es
  have hfl := fxL_len fs
  refine ACall_of tt_ok (dok _) Try.func13 rfl (by decide) rfl ?_
  (iterate 3 ((repeat' ((conv => whnf); first | left | refine OpsA.cons ?_ | refine OpsA.nil ?_ | refine AWq.seq ?_ | refine AWq.region ?_ | refine AWq.cond ?_ | refine AWq.block ?_ | refine AWq.skip ?_ | refine AWq.ret ?_ | refine AWq.exit ?_ | refine AWq.loop ?_ | refine DrawA.consD ?_ | refine DrawA.nil ?_ | refine AWq.draw (by decide +kernel) ?_ | (refine Both.mk ?_ ?_ <;> intro hc <;> (first | exact Bool.noConfusion hc | (exfalso; omega) | skip)) | (intro c hc; (try (simp only [AH.none_iff] at hc; repeat (have hn := hc.1; replace hc := hc.2))); (first | (refine i64_k hc ?_ ?_ ?_ ; omega; omega; (clear hc; intro hc; subst hc)) | skip)) | (apply Exists.intro; apply And.intro; (first | (focus (repeat (first | (with_reducible assumption) | (with_reducible exact AH.set_same _ _ _) | ((first | refine AH.get_ne ?_ ?_); (first | (with_reducible assumption) | exact Ne.symm (by with_reducible assumption))))); done))) | (apply Exists.intro; apply And.intro; first | (with_reducible assumption) | ((try simp only [List.getElem?_drop, Nat.mul_one, Nat.add_zero, Nat.zero_add]); first | (with_reducible assumption) | rfl)) | (apply And.intro; (first | rfl | (with_reducible assumption) | exact Nat.le_of_ble_eq_true rfl | omega | (simp <;> omega))))) <;> (try (conv => whnf)); refine Then.mk ?_))
  refine AWq.in ?_
  refine AWp_nilrow1 6 4 rfl rfl fun r1 hr1 => ?_
  refine AWp_nilrow1 7 3 rfl rfl fun r2 hr2 => ?_
  obtain ⟨hne, hr2⟩ := AH.none_set hr2
  refine AWp.of tt_ok (dok _) rfl ?_
  (repeat' ((conv => whnf); first | refine Then.mk ?_ | left | refine OpsA.cons ?_ | refine OpsA.nil ?_ | refine AWq.seq ?_ | refine AWq.region ?_ | refine AWq.cond ?_ | refine AWq.block ?_ | refine AWq.skip ?_ | refine AWq.ret ?_ | refine AWq.exit ?_ | refine AWq.loop ?_ | refine DrawA.consD ?_ | refine DrawA.nil ?_ | refine AWq.draw (by decide +kernel) ?_ | (refine Both.mk ?_ ?_ <;> intro hc <;> (first | exact Bool.noConfusion hc | (exfalso; omega) | skip)) | (intro c hc; (try (simp only [AH.none_iff] at hc; repeat (have hn := hc.1; replace hc := hc.2))); (first | (refine i64_k hc ?_ ?_ ?_ ; omega; omega; (clear hc; intro hc; subst hc)) | skip)) | (apply Exists.intro; apply And.intro; (first | (focus (repeat (first | (with_reducible assumption) | (with_reducible exact AH.set_same _ _ _) | ((first | refine AH.get_ne ?_ ?_); (first | (with_reducible assumption) | exact Ne.symm (by with_reducible assumption))))); done))) | (apply Exists.intro; apply And.intro; first | (with_reducible assumption) | ((try simp only [List.getElem?_drop, Nat.mul_one, Nat.add_zero, Nat.zero_add]); first | (with_reducible assumption) | rfl)) | (apply And.intro; (first | rfl | (with_reducible assumption) | exact Nat.le_of_ble_eq_true rfl | omega | (simp <;> omega))))) <;> (try (conv => whnf))
  refine AWp_loop (σ := Nat) (6 :: 8 :: 10 :: 11 :: 12 :: 13 :: 14 :: 15 :: 16 :: 17 :: 18 :: 19 :: 20 :: 21 :: 22 :: 23 :: 24 :: 25 :: 26 :: 27 :: 28 :: 29 :: 30 :: 31 :: 32 :: 33 :: 34 :: 35 :: 36 :: 37 :: 38 :: 39 :: []) (fun i => [(8, .int .i64 i), (6, .sl r1 i 4 0 i none)]) (fun i => (H.set r1 (.row (edL (es.take i)) i)).set r2 (.row [] 0)) (fun i => i ≤ es.length) (fun i => es.length - i) 0 rfl (Nat.zero_le _) ⟨rfl, rfl, trivial⟩ (HLe.refl _) ?_
  intro i hi
  refine AWp.of tt_ok (dok _) rfl ?_
  dsimp only at hi ⊢
  have hfi : (edL (es.take i)).length = i * 4 := by rw [edL_len, List.length_take, Nat.min_eq_left hi]
  have hg1 : ((H.set r1 (.row (edL (es.take i)) i)).set r2 (.row [] 0)) r1 = some (.row (edL (es.take i)) i) := by (focus (repeat (first | (with_reducible assumption) | (with_reducible exact AH.set_same _ _ _) | ((first | refine AH.get_ne ?_ ?_); (first | (with_reducible assumption) | exact Ne.symm (by with_reducible assumption))))); done)
  by_cases hilt : i < es.length
  · obtain ⟨x, hx⟩ : ∃ x, es[i]? = some x := ⟨_, List.getElem?_eq_getElem hilt⟩
    have g0 : (edL es)[(i : Int).toNat * 4]? = some (.int .i64 x.a) := edL_get hx 0 (by decide)
    have g1 : (edL es)[(i : Int).toNat * 4 + 1]? = some (.int .i64 x.b) := edL_get hx 1 (by decide)
    have g2 : (edL es)[(i : Int).toNat * 4 + 2]? = some (.int .i64 x.d) := edL_get hx 2 (by decide)
    have g3 : (edL es)[(i : Int).toNat * 4 + 3]? = some (.int .i64 x.w) := edL_get hx 3 (by decide)
    have hst : edL (es.take (i + 1)) = edL (es.take i) ++ [.int .i64 x.a, .int .i64 x.b, .int .i64 x.d, .int .i64 x.w] := by rw [take_snoc hx]; exact (fL_snoc edA _ _).symm
    generalize edL (es.take i) = R1 at *
    generalize hR2 : edL (es.take (i + 1)) = R2 at *
    (repeat' ((conv => whnf); first | refine Then.mk ?_ | left | refine OpsA.cons ?_ | refine OpsA.nil ?_ | refine AWq.seq ?_ | refine AWq.region ?_ | refine AWq.cond ?_ | refine AWq.block ?_ | refine AWq.skip ?_ | refine AWq.ret ?_ | refine AWq.exit ?_ | refine AWq.loop ?_ | refine DrawA.consD ?_ | refine DrawA.nil ?_ | refine AWq.draw (by decide +kernel) ?_ | (refine Both.mk ?_ ?_ <;> intro hc <;> (first | exact Bool.noConfusion hc | (exfalso; omega) | skip)) | (intro c hc; (try (simp only [AH.none_iff] at hc; repeat (have hn := hc.1; replace hc := hc.2))); (first | (refine i64_k hc ?_ ?_ ?_ ; omega; omega; (clear hc; intro hc; subst hc)) | skip)) | (apply Exists.intro; apply And.intro; (first | (focus (repeat (first | (with_reducible assumption) | (with_reducible exact AH.set_same _ _ _) | ((first | refine AH.get_ne ?_ ?_); (first | (with_reducible assumption) | exact Ne.symm (by with_reducible assumption))))); done))) | (apply Exists.intro; apply And.intro; first | (with_reducible assumption) | ((try simp only [List.getElem?_drop, Nat.mul_one, Nat.add_zero, Nat.zero_add]); first | (with_reducible assumption) | rfl)) | (apply And.intro; (first | rfl | (with_reducible assumption) | exact Nat.le_of_ble_eq_true rfl | omega | (simp <;> omega))))) <;> (try (conv => whnf))
    refine ⟨i + 1, hilt, by omega, ⟨congrArg (AV.int .i64) (by omega), rfl, trivial⟩, HLe.of_eq ?_⟩
    rw [hR2, hst]
    exact (AH.set_back _ (Ne.symm hne) _ _ _).symm
  · have hie : i = es.length := by omega
    have hte : es.take i = es := List.take_of_length_le (by omega)
    rw [hte]
    clear hfi hg1 hte
    (repeat' ((conv => whnf); first | refine Then.mk ?_ | left | refine OpsA.cons ?_ | refine OpsA.nil ?_ | refine AWq.seq ?_ | refine AWq.region ?_ | refine AWq.cond ?_ | refine AWq.block ?_ | refine AWq.skip ?_ | refine AWq.ret ?_ | refine AWq.exit ?_ | refine AWq.loop ?_ | refine DrawA.consD ?_ | refine DrawA.nil ?_ | refine AWq.draw (by decide +kernel) ?_ | (refine Both.mk ?_ ?_ <;> intro hc <;> (first | exact Bool.noConfusion hc | (exfalso; omega) | skip)) | (intro c hc; (try (simp only [AH.none_iff] at hc; repeat (have hn := hc.1; replace hc := hc.2))); (first | (refine i64_k hc ?_ ?_ ?_ ; omega; omega; (clear hc; intro hc; subst hc)) | skip)) | (apply Exists.intro; apply And.intro; (first | (focus (repeat (first | (with_reducible assumption) | (with_reducible exact AH.set_same _ _ _) | ((first | refine AH.get_ne ?_ ?_); (first | (with_reducible assumption) | exact Ne.symm (by with_reducible assumption))))); done))) | (apply Exists.intro; apply And.intro; first | (with_reducible assumption) | ((try simp only [List.getElem?_drop, Nat.mul_one, Nat.add_zero, Nat.zero_add]); first | (with_reducible assumption) | rfl)) | (apply And.intro; (first | rfl | (with_reducible assumption) | exact Nat.le_of_ble_eq_true rfl | omega | (simp <;> omega))))) <;> (try (conv => whnf))
    refine AWp_loop (σ := Nat) (7 :: 9 :: 40 :: 41 :: 42 :: 43 :: 44 :: 45 :: 46 :: 47 :: 48 :: 49 :: 50 :: 51 :: 52 :: 53 :: 54 :: 55 :: 56 :: 57 :: 58 :: 59 :: 60 :: 61 :: 62 :: 63 :: 64 :: []) (fun j => [(9, .int .i64 j), (7, .sl r2 j 3 0 j none)]) (fun j => (H.set r1 (.row (edL es) i)).set r2 (.row (fxL (fs.take j)) j)) (fun j => j ≤ fs.length) (fun j => fs.length - j) 0 rfl (Nat.zero_le _) ⟨rfl, rfl, trivial⟩ (HLe.refl _) ?_
    intro j hj
    refine AWp.of tt_ok (dok _) rfl ?_
    dsimp only at hj ⊢
    have hfj : (fxL (fs.take j)).length = j * 3 := by rw [fxL_len, List.length_take, Nat.min_eq_left hj]
    have hg2 : ((H.set r1 (.row (edL es) i)).set r2 (.row (fxL (fs.take j)) j)) r2 = some (.row (fxL (fs.take j)) j) := AH.set_same _ _ _
    by_cases hjlt : j < fs.length
    · obtain ⟨x, hx⟩ : ∃ x, fs[j]? = some x := ⟨_, List.getElem?_eq_getElem hjlt⟩
      have g0 : (fxL fs)[(j : Int).toNat * 3]? = some (.int .i64 x.a) := fxL_get hx 0 (by decide)
      have g1 : (fxL fs)[(j : Int).toNat * 3 + 1]? = some (.int .i64 x.v) := fxL_get hx 1 (by decide)
      have g2 : (fxL fs)[(j : Int).toNat * 3 + 2]? = some (.int .i64 x.w) := fxL_get hx 2 (by decide)
      have hst : fxL (fs.take (j + 1)) = fxL (fs.take j) ++ [.int .i64 x.a, .int .i64 x.v, .int .i64 x.w] := by rw [take_snoc hx]; exact (fL_snoc fxA _ _).symm
      generalize fxL (fs.take j) = R1 at *
      generalize hR2 : fxL (fs.take (j + 1)) = R2 at *
      (repeat' ((conv => whnf); first | refine Then.mk ?_ | left | refine OpsA.cons ?_ | refine OpsA.nil ?_ | refine AWq.seq ?_ | refine AWq.region ?_ | refine AWq.cond ?_ | refine AWq.block ?_ | refine AWq.skip ?_ | refine AWq.ret ?_ | refine AWq.exit ?_ | refine AWq.loop ?_ | refine DrawA.consD ?_ | refine DrawA.nil ?_ | refine AWq.draw (by decide +kernel) ?_ | (refine Both.mk ?_ ?_ <;> intro hc <;> (first | exact Bool.noConfusion hc | (exfalso; omega) | skip)) | (intro c hc; (try (simp only [AH.none_iff] at hc; repeat (have hn := hc.1; replace hc := hc.2))); (first | (refine i64_k hc ?_ ?_ ?_ ; omega; omega; (clear hc; intro hc; subst hc)) | skip)) | (apply Exists.intro; apply And.intro; (first | (focus (repeat (first | (with_reducible assumption) | (with_reducible exact AH.set_same _ _ _) | ((first | refine AH.get_ne ?_ ?_); (first | (with_reducible assumption) | exact Ne.symm (by with_reducible assumption))))); done))) | (apply Exists.intro; apply And.intro; first | (with_reducible assumption) | ((try simp only [List.getElem?_drop, Nat.mul_one, Nat.add_zero, Nat.zero_add]); first | (with_reducible assumption) | rfl)) | (apply And.intro; (first | rfl | (with_reducible assumption) | exact Nat.le_of_ble_eq_true rfl | omega | (simp <;> omega))))) <;> (try (conv => whnf))
      refine ⟨j + 1, hjlt, by omega, ⟨congrArg (AV.int .i64) (by omega), rfl, trivial⟩, HLe.of_eq ?_⟩
      rw [hR2, hst]
      exact (AH.set_set _ _ _ _).symm
    · have hje : j = fs.length := by omega
      (repeat' ((conv => whnf); first | refine Then.mk ?_ | left | refine OpsA.cons ?_ | refine OpsA.nil ?_ | refine AWq.seq ?_ | refine AWq.region ?_ | refine AWq.cond ?_ | refine AWq.block ?_ | refine AWq.skip ?_ | refine AWq.ret ?_ | refine AWq.exit ?_ | refine AWq.loop ?_ | refine DrawA.consD ?_ | refine DrawA.nil ?_ | refine AWq.draw (by decide +kernel) ?_ | (refine Both.mk ?_ ?_ <;> intro hc <;> (first | exact Bool.noConfusion hc | (exfalso; omega) | skip)) | (intro c hc; (try (simp only [AH.none_iff] at hc; repeat (have hn := hc.1; replace hc := hc.2))); (first | (refine i64_k hc ?_ ?_ ?_ ; omega; omega; (clear hc; intro hc; subst hc)) | skip)) | (apply Exists.intro; apply And.intro; (first | (focus (repeat (first | (with_reducible assumption) | (with_reducible exact AH.set_same _ _ _) | ((first | refine AH.get_ne ?_ ?_); (first | (with_reducible assumption) | exact Ne.symm (by with_reducible assumption))))); done))) | (apply Exists.intro; apply And.intro; first | (with_reducible assumption) | ((try simp only [List.getElem?_drop, Nat.mul_one, Nat.add_zero, Nat.zero_add]); first | (with_reducible assumption) | rfl)) | (apply And.intro; (first | rfl | (with_reducible assumption) | exact Nat.le_of_ble_eq_true rfl | omega | (simp <;> omega))))) <;> (try (conv => whnf))
      refine ⟨r1, r2, i, j, hr1, hr2, Ne.symm hne, ?_, ?_⟩
      · rw [← hje, ← hie]
      · rw [show fs.take j = fs from List.take_of_length_le (by omega)]
theorem real_c (es : List Ed) (fs : List Fx) (he : es.length ≤ 1000000) (hf : fs.length ≤ 1000000) (H : AH) :
    ACall Try.prog 13 [.cs (edL es) es.length, .cs (fxL fs) fs.length] H (fun y H' => y = .tup [.cs (edL es) es.length, .cs (fxL fs) fs.length] ∧ H' = H) :=
  ACall.cold2 (e1 := 4) (e2 := 3) (by simp) (by simp) (real_s es fs he hf H)
set_option maxRecDepth 8000 in
theorem plain_c (l1 l2 l3 : List AV) (n1 n2 n3 : Nat) (c : Int) (H : AH) :
    ACall Try.prog 16 [.agg [.cs l1 n1, .cs l2 n2, .cs l3 n3, .int .i64 c]] H (fun y H' => y = .agg [.cs l1 n1, .cs l2 n2, .cs l3 n3, .int .i64 c] ∧ H' = H) := by
  refine ACall.back ?_
  refine ACall_of tt_ok (dok _) Try.func16 rfl (by decide) rfl ?_
  (repeat' ((conv => whnf); first | refine Then.mk ?_ | left | refine OpsA.cons ?_ | refine OpsA.nil ?_ | refine AWq.seq ?_ | refine AWq.region ?_ | refine AWq.ret ?_ | (intro c hc; (try (simp only [AH.none_iff] at hc; repeat (have hn := hc.1; replace hc := hc.2))); (first | skip)) | (apply Exists.intro; apply And.intro; (first | (focus (repeat (first | (with_reducible assumption) | (with_reducible exact AH.set_same _ _ _) | ((first | refine AH.get_ne ?_ ?_); (first | (with_reducible assumption) | exact Ne.symm (by with_reducible assumption))))); done))) | (apply Exists.intro; apply And.intro; first | (with_reducible assumption) | ((try simp only [List.getElem?_drop, Nat.mul_one, Nat.add_zero, Nat.zero_add]); first | (with_reducible assumption) | rfl)) | (apply And.intro; (first | rfl | (with_reducible assumption) | exact Nat.le_of_ble_eq_true rfl)))) <;> (try (conv => whnf))
  (first | ((repeat' (first | (with_reducible exact HLe.refl _) | (with_reducible assumption) | refine HLe.set_of _ _ ?_ ?_)); done))
theorem fxL_wrZ {l : List Fx} {i : Nat} {x b : Fx} (h : l[i]? = some x) {j : Nat} {a : AV} (hj : j < 3) (hb : fxA b = (fxA x).set j a) : wrA (fxL l) (0 + (i : Int).toNat * 3 + j) [a] = fxL (l.set i b) := by
  rw [show 0 + (i : Int).toNat * 3 + j = i * 3 + j by omega]; exact fL_wr1 fxA_len h hj hb
theorem edL_wrZ {l : List Ed} {i : Nat} {x b : Ed} (h : l[i]? = some x) {j : Nat} {a : AV} (hj : j < 4) (hb : edA b = (edA x).set j a) : wrA (edL l) (0 + (i : Int).toNat * 4 + j) [a] = edL (l.set i b) := by
  rw [show 0 + (i : Int).toNat * 4 + j = i * 4 + j by omega]; exact fL_wr1 edA_len h hj hb
/-- Two rows. -/
def twoH (H : AH) (r1 u1 r2 u2 : Nat) (es : List Ed) (fs : List Fx) : AH := (H.set r1 (.row (edL es) u1)).set r2 (.row (fxL fs) u2)
end Go.Proofs.Ytebflkgpbbjhnaa
/- The walks of balance's reference: flows, Check. -/
namespace Go.Proofs.Ytebflkgpbbjhnaa
open Go.Fw Go
set_option linter.unusedVariables false
set_option linter.unusedSimpArgs false

structure FlowOk (n : Nat) (es : List Ed) (fs : List Fx) (E F : List Int) : Prop where
  l2 : E.length = es.length
  l3 : F.length = fs.length
  al : allW (net0 n es fs) (E ++ F)
  ne : ∀ v, v < n → netN (setFl (net0 n es fs) (E ++ F)) v = 0
theorem setFl_app : ∀ (A : List Ac) (L : List Int) (x : Ac) (f : Int), A.length = L.length → setFl (A ++ [x]) (L ++ [f]) = setFl A L ++ [⟨x.a, x.b, x.d, x.w, f⟩]
  | [], [], x, f, _ => rfl
  | [], _ :: _, x, f, h => by simp at h
  | _ :: _, [], x, f, h => by simp at h
  | y :: A, g :: L, x, f, h => by
    simp only [List.cons_append, setFl]
    rw [setFl_app A L x f (by simpa using h)]
theorem setFl_tk {A : List Ac} {L : List Int} {i : Nat} {x : Ac} (hx : A[i]? = some x) (hi : i < L.length) : setFl (A.take (i + 1)) (L.take (i + 1)) = setFl (A.take i) (L.take i) ++ [⟨x.a, x.b, x.d, x.w, L.getD i 0⟩] := by
  rw [take_snoc hx, getD_app hi]
  have : i < A.length := (List.getElem?_eq_some_iff.1 hx).1
  exact setFl_app _ _ _ _ (by rw [List.length_take, List.length_take]; omega)
theorem allW_tk {A : List Ac} {L : List Int} {i : Nat} (h : allW A (L.take i)) : allW (A.take i) (L.take i) := by
  intro j x hx hj
  rw [List.length_take] at hj
  refine h j x ?_ (by rw [List.length_take]; omega)
  rw [List.getElem?_take_of_lt (by omega)] at hx
  exact hx
set_option maxHeartbeats 4000000 in
set_option maxRecDepth 8000 in
theorem flows_c (n : Nat) (es : List Ed) (fs : List Fx) (hv : validV n es fs = 0) (E F : List Int) (hE' : E.length ≤ 1000000) (hF' : F.length ≤ 1000000) (H : AH) :
    ACall Try.prog 43 [.int .i64 n, .cs (edL es) es.length, .cs (fxL fs) fs.length, .cs (iS .i64 E) E.length, .cs (iS .i64 F) F.length] H (fun y H' => ∃ (v : Int) (b : Bool), (b = true ↔ FlowOk n es fs E F) ∧ (b = true → v = valF (net0 n es fs) (E ++ F)) ∧ y = .tup [.int .i64 v, .bool b] ∧ H' = H) := by
  obtain ⟨⟨_, hn64⟩, ⟨he, hf⟩, hE, hF⟩ := validV_ok hv
  have hJ0 := net0_ok hE hF
  have hlen0 : (net0 n es fs).length = es.length + fs.length := by unfold net0; simp
  refine ACall.told ?_
  by_cases hl : E.length = es.length ∧ F.length = fs.length
  · obtain ⟨l2, l3⟩ := hl
    obtain ⟨L, hL⟩ : ∃ L, L = E ++ F := ⟨_, rfl⟩
    have hLl : L.length = es.length + fs.length := by rw [hL, List.length_append]; omega
    rw [← hL]
    have hEL : ∀ i, i < es.length → L.getD i 0 = E.getD i 0 := fun i hi => by
      rw [hL, List.getD_eq_getElem?_getD, List.getElem?_append_left (by omega), ← List.getD_eq_getElem?_getD]
    have hFL : ∀ j, j < fs.length → L.getD (es.length + j) 0 = F.getD j 0 := fun j hj => by
      rw [hL, List.getD_eq_getElem?_getD, List.getElem?_append_right (by omega), ← List.getD_eq_getElem?_getD, l2, Nat.add_sub_cancel_left]
    have hAE : ∀ i x, es[i]? = some x → (net0 n es fs)[i]? = some (edAc x) := fun i x hx => by
      unfold net0
      have : i < es.length := (List.getElem?_eq_some_iff.1 hx).1
      rw [List.getElem?_append_left (by rw [List.length_map]; omega), List.getElem?_map, hx]; rfl
    have hAF : ∀ j x, fs[j]? = some x → (net0 n es fs)[es.length + j]? = some (fxAc n x) := fun j x hx => by
      unfold net0
      rw [List.getElem?_append_right (by rw [List.length_map]; omega), List.length_map, Nat.add_sub_cancel_left, List.getElem?_map, hx]; rfl
    have hFO : FlowOk n es fs E F ↔ allW (net0 n es fs) L ∧ ∀ v, v < n → netN (setFl (net0 n es fs) L) v = 0 := by
      rw [hL]
      exact ⟨fun k => ⟨k.al, k.ne⟩, fun k => ⟨l2, l3, k.1, k.2⟩⟩
    have hno : ∀ i x, (net0 n es fs)[i]? = some x → i < L.length → ¬ inW x (L.getD i 0) → ¬ FlowOk n es fs E F := fun i x hx hi hw k => hw ((hFO.1 k).1 i x hx hi)
    have hAd : ∀ x ∈ net0 n es fs, (-65535 ≤ x.d ∧ x.d ≤ 65535) ∧ x.w ≤ 65536 := fun x hx => by
      obtain ⟨xa, xb, d1, d2, w1, w2, f1, f2⟩ := hJ0.ok x hx
      exact ⟨⟨d1, d2⟩, w2⟩
    generalize hA0 : net0 n es fs = A0 at *
    obtain ⟨RE, hRE⟩ : ∃ R, R = iS .i64 E := ⟨_, rfl⟩
    obtain ⟨RF, hRF⟩ : ∃ R, R = iS .i64 F := ⟨_, rfl⟩
    have hRel : RE.length = E.length := by rw [hRE]; simp
    have hRfl : RF.length = F.length := by rw [hRF]; simp
    have hel := edL_len es
    have hfl := fxL_len fs
    rw [← hRE, ← hRF]
    refine ACall_of tt_ok (dok _) Try.func43 rfl (by decide) rfl ?_
    (repeat' ((conv => whnf); first | refine Then.mk ?_ | refine OpsA.cons ?_ | refine OpsA.nil ?_ | refine AWq.seq ?_ | refine AWq.region ?_ | refine AWq.cond ?_ | refine AWq.block ?_ | refine AWq.skip ?_ | refine AWq.ret ?_ | refine AWq.exit ?_ | refine AWq.loop ?_ | refine DrawA.consD ?_ | refine DrawA.nil ?_ | refine AWq.draw (by decide +kernel) ?_ | (refine Both.mk ?_ ?_ <;> intro hc <;> (first | exact Bool.noConfusion hc | exact absurd (by assumption) hc | (exfalso; omega) | skip)) | (intro c hc; (try (simp only [AH.none_iff] at hc; repeat (have hn := hc.1; replace hc := hc.2))); (first | (refine i64_k hc ?_ ?_ ?_ ; omega; omega; (clear hc; intro hc; subst hc)) | skip)) | (apply Exists.intro; apply And.intro; (first | (focus (repeat (first | (with_reducible assumption) | (with_reducible exact AH.set_same _ _ _))); done))) | (apply Exists.intro; apply And.intro; first | (with_reducible assumption) | ((try simp only [List.getElem?_drop, Nat.mul_one, Nat.add_zero, Nat.zero_add]); first | (with_reducible assumption) | rfl)) | (apply And.intro; (first | rfl | (with_reducible assumption) | exact Nat.le_of_ble_eq_true rfl | omega | (simp <;> omega))))) <;> (try (conv => whnf))
    (obtain ⟨r, hq_⟩ : ∃ r, r = c := ⟨_, rfl⟩); subst hq_
    have hr : H r = none := hc
    refine AWp_loop (σ := Nat) (10 :: 11 :: 13 :: 14 :: 15 :: 33 :: 34 :: 35 :: 36 :: 37 :: 38 :: 39 :: 40 :: 41 :: 42 :: 43 :: 44 :: 45 :: 46 :: 47 :: 48 :: 49 :: 50 :: 51 :: 52 :: 53 :: 54 :: 55 :: 56 :: 57 :: 58 :: 59 :: 60 :: 61 :: 62 :: 63 :: 64 :: 65 :: 66 :: 67 :: 68 :: 69 :: 70 :: 71 :: 72 :: 73 :: 74 :: 75 :: 76 :: 77 :: 78 :: 79 :: 80 :: 81 :: 82 :: 83 :: 84 :: 85 :: 86 :: 87 :: 88 :: 89 :: 90 :: 91 :: 92 :: 93 :: 94 :: 95 :: 96 :: 97 :: 98 :: 99 :: 100 :: 101 :: 102 :: []) (fun i => [(14, .int .i64 i), (13, .int .i64 (valF A0 (L.take i)))]) (fun i => H.set r (.row (dL n (netN (setFl (A0.take i) (L.take i)))) 0)) (fun i => i ≤ es.length ∧ allW A0 (L.take i)) (fun i => es.length - i) 0 rfl ⟨Nat.zero_le _, fun j x _ hj => by simp at hj⟩ ⟨rfl, congrArg (AV.int .i64) (by cases A0 <;> rfl), trivial⟩ ?_ ?_
    · refine HLe.of_eq (congrArg (fun l => H.set r (.row l 0)) ?_)
      rw [Int.toNat_natCast, dL_zero]; rfl
    rintro i ⟨hi, hall⟩
    refine AWp.of tt_ok (dok _) rfl ?_
    dsimp only at hi ⊢
    by_cases hilt : i < es.length
    · obtain ⟨x, hx⟩ : ∃ x, es[i]? = some x := ⟨_, List.getElem?_eq_getElem hilt⟩
      obtain ⟨v1, v2, v3, v4, v5⟩ := hE x (List.mem_of_getElem? hx)
      have hxA := hAE i x hx
      have g0 : (edL es)[(i : Int).toNat * 4]? = some (.int .i64 x.a) := edL_get hx 0 (by decide)
      have g1 : (edL es)[(i : Int).toNat * 4 + 1]? = some (.int .i64 x.b) := edL_get hx 1 (by decide)
      have g2 : (edL es)[(i : Int).toNat * 4 + 2]? = some (.int .i64 x.d) := edL_get hx 2 (by decide)
      have g3 : (edL es)[(i : Int).toNat * 4 + 3]? = some (.int .i64 x.w) := edL_get hx 3 (by decide)
      have gf : RE[(i : Int).toNat]? = some (.int .i64 (L.getD i 0)) := by rw [hRE, hEL i hilt]; exact iS_get (by omega)
      have hbd := netN_bd (setFl_ok (A := A0.take i) (L := L.take i) (fun y hy => hJ0.ok y (List.mem_of_mem_take hy)) (allW_tk hall))
      have hle : ((setFl (A0.take i) (L.take i)).length : Int) ≤ 16384 := by rw [setFl_len, List.length_take]; omega
      have hvb := valF_bd A0 (L.take i) hAd hall
      have htl : ((L.take i).length : Int) ≤ 16384 := by rw [List.length_take]; omega
      have htli : (L.take i).length = i := by rw [List.length_take]; omega
      have hvn := valF_snoc A0 (L.take i) (edAc x) (L.getD i 0) (by rw [htli]; exact hxA)
      have hwn : inW (edAc x) (L.getD i 0) → allW A0 (L.take i ++ [L.getD i 0]) := allW_snoc (by rw [htli]; exact hxA) hall
      rw [← getD_app (by omega)] at hvn hwn
      have hnx : ∀ v, netN (setFl (A0.take (i + 1)) (L.take (i + 1))) v = netN (setFl (A0.take i) (L.take i)) v + ((if x.a.toNat = v then L.getD i 0 else 0) - (if x.b.toNat = v then L.getD i 0 else 0)) := fun v => by
        rw [setFl_tk hxA (by omega), netN_snoc]; rfl
      have hnoi := hno i (edAc x) hxA (by omega)
      generalize L.getD i 0 = f at *
      generalize valF A0 (L.take i) = vv at *
      generalize hN1 : netN (setFl (A0.take (i + 1)) (L.take (i + 1))) = N1 at *
      generalize netN (setFl (A0.take i) (L.take i)) = N at *
      have hinI : inW (edAc x) f ↔ (-x.w ≤ f ∧ f ≤ x.w) := Iff.rfl
      by_cases hin : -x.w ≤ f ∧ f ≤ x.w
      · have hw := fun H => rwithin_c f x.w (by omega) true (decide_eq_true hin) H
        have key : -4294967296 ≤ f * x.d ∧ f * x.d ≤ 4294967296 := by
          have a1 : (65536 - f) * (65535 - x.d) ≥ 0 := Int.mul_nonneg (by omega) (by omega)
          have a2 : (65536 + f) * (65535 + x.d) ≥ 0 := Int.mul_nonneg (by omega) (by omega)
          have a3 : (65536 - f) * (65535 + x.d) ≥ 0 := Int.mul_nonneg (by omega) (by omega)
          have a4 : (65536 + f) * (65535 - x.d) ≥ 0 := Int.mul_nonneg (by omega) (by omega)
          simp only [Int.sub_mul, Int.add_mul, Int.mul_sub, Int.mul_add] at a1 a2 a3 a4
          omega
        have hnm : x.a.toNat ≠ x.b.toNat := by omega
        have b1 := hbd x.a.toNat
        have b2 := hbd x.b.toNat
        have gA : (dL n N)[x.a.toNat]? = some (.int .i64 (N x.a.toNat)) := dL_get N (by omega)
        have gB : (dL n (putD N x.a.toNat (N x.a.toNat + f)))[x.b.toNat]? = some (.int .i64 (N x.b.toNat)) := by
          rw [dL_get _ (by omega)]; unfold putD; rw [if_neg (Ne.symm hnm)]
        have hw1 : wrA (dL n N) (0 + x.a.toNat * 1) [.int .i64 (N x.a.toNat + f)] = dL n (putD N x.a.toNat (N x.a.toNat + f)) := by
          rw [Nat.zero_add, Nat.mul_one]; exact dL_wr N (by omega) _
        have hw2 : wrA (dL n (putD N x.a.toNat (N x.a.toNat + f))) (0 + x.b.toNat * 1) [.int .i64 (N x.b.toNat - f)] = dL n N1 := by
          rw [Nat.zero_add, Nat.mul_one, dL_wr _ (by omega)]
          refine dL_congr fun v hv => ?_
          rw [hnx v]
          unfold putD
          by_cases e1 : v = x.b.toNat
          · rw [if_pos e1, if_neg (by omega), if_pos e1.symm, e1]; omega
          · rw [if_neg e1, if_neg (Ne.symm e1)]
            by_cases e2 : v = x.a.toNat
            · rw [if_pos e2, if_pos e2.symm, e2]; omega
            · rw [if_neg e2, if_neg (Ne.symm e2)]; omega
        have hd1 := dL_len n N
        have hd2 := dL_len n (putD N x.a.toNat (N x.a.toNat + f))
        (iterate 2 ((repeat' ((conv => whnf); first | refine OpsA.cons ?_ | refine OpsA.nil ?_ | refine AWq.seq ?_ | refine AWq.region ?_ | refine AWq.cond ?_ | refine AWq.block ?_ | refine AWq.skip ?_ | refine AWq.ret ?_ | refine AWq.exit ?_ | refine AWq.loop ?_ | refine DrawA.consD ?_ | refine DrawA.nil ?_ | refine AWq.draw (by decide +kernel) ?_ | (refine Both.mk ?_ ?_ <;> intro hc <;> (first | exact Bool.noConfusion hc | exact absurd (by assumption) hc | (exfalso; omega) | skip)) | (intro c hc; (try (simp only [AH.none_iff] at hc; repeat (have hn := hc.1; replace hc := hc.2))); (first | (refine i64_k hc ?_ ?_ ?_ ; omega; omega; (clear hc; intro hc; subst hc)) | skip)) | (apply Exists.intro; apply And.intro; (first | (focus (repeat (first | (with_reducible assumption) | (with_reducible exact AH.set_same _ _ _))); done))) | (apply Exists.intro; apply And.intro; first | (with_reducible assumption) | ((try simp only [List.getElem?_drop, Nat.mul_one, Nat.add_zero, Nat.zero_add]); first | (with_reducible assumption) | rfl)) | (apply And.intro; (first | rfl | (with_reducible assumption) | exact Nat.le_of_ble_eq_true rfl | omega | (simp <;> omega))))) <;> (try (conv => whnf)); refine Then.mk ?_))
        (repeat' ((conv => whnf); first | refine OpsA.cons ?_ | refine OpsA.nil ?_ | refine AWq.seq ?_ | refine AWq.region ?_ | refine AWq.cond ?_ | refine AWq.block ?_ | refine AWq.skip ?_ | refine AWq.ret ?_ | refine AWq.exit ?_ | refine AWq.loop ?_ | refine DrawA.consD ?_ | refine DrawA.nil ?_ | refine AWq.draw (by decide +kernel) ?_ | (apply Exists.intro; apply And.intro; exact hw _) | (refine Both.mk ?_ ?_ <;> intro hc <;> (first | exact Bool.noConfusion hc | exact absurd (by assumption) hc | (exfalso; omega) | skip)) | (intro c hc; (try (simp only [AH.none_iff] at hc; repeat (have hn := hc.1; replace hc := hc.2))); (first | (refine i64_k hc ?_ ?_ ?_ ; omega; omega; (clear hc; intro hc; subst hc)) | skip)) | (apply Exists.intro; apply And.intro; (first | (focus (repeat (first | (with_reducible assumption) | (with_reducible exact AH.set_same _ _ _))); done))) | (apply Exists.intro; apply And.intro; first | (with_reducible assumption) | ((try simp only [List.getElem?_drop, Nat.mul_one, Nat.add_zero, Nat.zero_add]); first | (with_reducible assumption) | rfl)) | (apply And.intro; (first | rfl | (with_reducible assumption) | exact Nat.le_of_ble_eq_true rfl | omega | (simp <;> omega))))) <;> (try (conv => whnf))
        refine Then.mk ?_
        (iterate 2 ((repeat' ((conv => whnf); first | refine OpsA.cons ?_ | refine OpsA.nil ?_ | refine AWq.seq ?_ | refine AWq.region ?_ | refine AWq.cond ?_ | refine AWq.block ?_ | refine AWq.skip ?_ | refine AWq.ret ?_ | refine AWq.exit ?_ | refine AWq.loop ?_ | refine DrawA.consD ?_ | refine DrawA.nil ?_ | refine AWq.draw (by decide +kernel) ?_ | (refine Both.mk ?_ ?_ <;> intro hc <;> (first | exact Bool.noConfusion hc | exact absurd (by assumption) hc | (exfalso; omega) | skip)) | (intro c hc; (try (simp only [AH.none_iff] at hc; repeat (have hn := hc.1; replace hc := hc.2))); (first | (refine i64_k hc ?_ ?_ ?_ ; omega; omega; (clear hc; intro hc; subst hc)) | skip)) | (apply Exists.intro; apply And.intro; (first | (focus (repeat (first | (with_reducible assumption) | (with_reducible exact AH.set_same _ _ _))); done))) | (apply Exists.intro; apply And.intro; first | (with_reducible assumption) | ((try simp only [List.getElem?_drop, Nat.mul_one, Nat.add_zero, Nat.zero_add]); first | (with_reducible assumption) | rfl)) | (apply And.intro; (first | rfl | (with_reducible assumption) | exact Nat.le_of_ble_eq_true rfl | omega | (simp <;> omega))))) <;> (try (conv => whnf)); refine Then.mk ?_))
        (repeat' ((conv => whnf); first | refine OpsA.cons ?_ | refine OpsA.nil ?_ | refine AWq.seq ?_ | refine AWq.region ?_ | refine AWq.cond ?_ | refine AWq.block ?_ | refine AWq.skip ?_ | refine AWq.ret ?_ | refine AWq.exit ?_ | refine AWq.loop ?_ | refine DrawA.consD ?_ | refine DrawA.nil ?_ | refine AWq.draw (by decide +kernel) ?_ | (refine Both.mk ?_ ?_ <;> intro hc <;> (first | exact Bool.noConfusion hc | exact absurd (by assumption) hc | (exfalso; omega) | skip)) | (intro c hc; (try (simp only [AH.none_iff] at hc; repeat (have hn := hc.1; replace hc := hc.2))); (first | (refine i64_k hc ?_ ?_ ?_ ; omega; omega; (clear hc; intro hc; subst hc)) | skip)) | (apply Exists.intro; apply And.intro; (first | (focus (repeat (first | (with_reducible assumption) | (with_reducible exact AH.set_same _ _ _))); done))) | (apply Exists.intro; apply And.intro; first | (with_reducible assumption) | ((try simp only [List.getElem?_drop, Nat.mul_one, Nat.add_zero, Nat.zero_add]); first | (with_reducible assumption) | rfl)) | (apply And.intro; (first | rfl | (with_reducible assumption) | exact Nat.le_of_ble_eq_true rfl | omega | (simp <;> omega))))) <;> (try (conv => whnf))
        refine Then.mk (AWq.in ?_)
        refine AWp_less (H.set r (.row (dL n (putD N x.a.toNat (N x.a.toNat + f))) 0)) (HLe.of_eq (by rw [← hw1]; exact (AH.set_set _ _ _ _).symm)) ?_
        refine AWp.of tt_ok (dok _) rfl ?_
        (repeat' ((conv => whnf); first | refine OpsA.cons ?_ | refine OpsA.nil ?_ | refine AWq.seq ?_ | refine AWq.region ?_ | refine AWq.cond ?_ | refine AWq.block ?_ | refine AWq.skip ?_ | refine AWq.ret ?_ | refine AWq.exit ?_ | refine AWq.loop ?_ | refine DrawA.consD ?_ | refine DrawA.nil ?_ | refine AWq.draw (by decide +kernel) ?_ | (refine Both.mk ?_ ?_ <;> intro hc <;> (first | exact Bool.noConfusion hc | exact absurd (by assumption) hc | (exfalso; omega) | skip)) | (intro c hc; (try (simp only [AH.none_iff] at hc; repeat (have hn := hc.1; replace hc := hc.2))); (first | (refine i64_k hc ?_ ?_ ?_ ; omega; omega; (clear hc; intro hc; subst hc)) | skip)) | (apply Exists.intro; apply And.intro; (first | (focus (repeat (first | (with_reducible assumption) | (with_reducible exact AH.set_same _ _ _))); done))) | (apply Exists.intro; apply And.intro; first | (with_reducible assumption) | ((try simp only [List.getElem?_drop, Nat.mul_one, Nat.add_zero, Nat.zero_add]); first | (with_reducible assumption) | rfl)) | (apply And.intro; (first | rfl | (with_reducible assumption) | exact Nat.le_of_ble_eq_true rfl | omega | (simp <;> omega))))) <;> (try (conv => whnf))
        refine Then.mk (AWq.in ?_)
        refine AWp_less (H.set r (.row (dL n N1) 0)) (HLe.of_eq (by rw [← hw2]; exact (AH.set_set _ _ _ _).symm)) ?_
        refine AWp.of tt_ok (dok _) rfl ?_
        (repeat' ((conv => whnf); first | refine Then.mk ?_ | refine OpsA.cons ?_ | refine OpsA.nil ?_ | refine AWq.seq ?_ | refine AWq.region ?_ | refine AWq.cond ?_ | refine AWq.block ?_ | refine AWq.skip ?_ | refine AWq.ret ?_ | refine AWq.exit ?_ | refine AWq.loop ?_ | refine DrawA.consD ?_ | refine DrawA.nil ?_ | refine AWq.draw (by decide +kernel) ?_ | (refine Both.mk ?_ ?_ <;> intro hc <;> (first | exact Bool.noConfusion hc | exact absurd (by assumption) hc | (exfalso; omega) | skip)) | (intro c hc; (try (simp only [AH.none_iff] at hc; repeat (have hn := hc.1; replace hc := hc.2))); (first | (refine i64_k hc ?_ ?_ ?_ ; omega; omega; (clear hc; intro hc; subst hc)) | skip)) | (apply Exists.intro; apply And.intro; (first | (focus (repeat (first | (with_reducible assumption) | (with_reducible exact AH.set_same _ _ _))); done))) | (apply Exists.intro; apply And.intro; first | (with_reducible assumption) | ((try simp only [List.getElem?_drop, Nat.mul_one, Nat.add_zero, Nat.zero_add]); first | (with_reducible assumption) | rfl)) | (apply And.intro; (first | rfl | (with_reducible assumption) | exact Nat.le_of_ble_eq_true rfl | omega | (simp <;> omega))))) <;> (try (conv => whnf))
        refine ⟨i + 1, ⟨hilt, hwn (hinI.2 hin)⟩, by omega, ⟨congrArg (AV.int .i64) (by omega), congrArg (AV.int .i64) ?_, trivial⟩, HLe.of_eq ?_⟩
        · rw [hvn]; rfl
        · rw [hN1]
      · have hw := fun H => rwithin_c f x.w (by omega) false (decide_eq_false hin) H
        have hbad := hnoi (fun k => hin (hinI.1 k))
        (repeat' ((conv => whnf); first | refine Then.mk ?_ | refine OpsA.cons ?_ | refine OpsA.nil ?_ | refine AWq.seq ?_ | refine AWq.region ?_ | refine AWq.cond ?_ | refine AWq.block ?_ | refine AWq.skip ?_ | refine AWq.ret ?_ | refine AWq.exit ?_ | refine AWq.loop ?_ | refine DrawA.consD ?_ | refine DrawA.nil ?_ | refine AWq.draw (by decide +kernel) ?_ | (apply Exists.intro; apply And.intro; exact hw _) | (refine Both.mk ?_ ?_ <;> intro hc <;> (first | exact Bool.noConfusion hc | exact absurd (by assumption) hc | (exfalso; omega) | skip)) | (intro c hc; (try (simp only [AH.none_iff] at hc; repeat (have hn := hc.1; replace hc := hc.2))); (first | (refine i64_k hc ?_ ?_ ?_ ; omega; omega; (clear hc; intro hc; subst hc)) | skip)) | (apply Exists.intro; apply And.intro; (first | (focus (repeat (first | (with_reducible assumption) | (with_reducible exact AH.set_same _ _ _))); done))) | (apply Exists.intro; apply And.intro; first | (with_reducible assumption) | ((try simp only [List.getElem?_drop, Nat.mul_one, Nat.add_zero, Nat.zero_add]); first | (with_reducible assumption) | rfl)) | (apply And.intro; (first | rfl | (with_reducible assumption) | exact Nat.le_of_ble_eq_true rfl | omega | (simp <;> omega))))) <;> (try (conv => whnf))
        exact ⟨_, H, AVle.refl _, HLe.fresh _ hr, 0, false, ⟨fun h => Bool.noConfusion h, fun h => absurd h hbad⟩, fun h => Bool.noConfusion h, rfl, rfl⟩
    · have hie : i = es.length := by omega
      subst hie
      (repeat' ((conv => whnf); first | refine Then.mk ?_ | refine OpsA.cons ?_ | refine OpsA.nil ?_ | refine AWq.seq ?_ | refine AWq.region ?_ | refine AWq.cond ?_ | refine AWq.block ?_ | refine AWq.skip ?_ | refine AWq.ret ?_ | refine AWq.exit ?_ | refine AWq.loop ?_ | refine DrawA.consD ?_ | refine DrawA.nil ?_ | refine AWq.draw (by decide +kernel) ?_ | (refine Both.mk ?_ ?_ <;> intro hc <;> (first | exact Bool.noConfusion hc | exact absurd (by assumption) hc | (exfalso; omega) | skip)) | (intro c hc; (try (simp only [AH.none_iff] at hc; repeat (have hn := hc.1; replace hc := hc.2))); (first | (refine i64_k hc ?_ ?_ ?_ ; omega; omega; (clear hc; intro hc; subst hc)) | skip)) | (apply Exists.intro; apply And.intro; (first | (focus (repeat (first | (with_reducible assumption) | (with_reducible exact AH.set_same _ _ _))); done))) | (apply Exists.intro; apply And.intro; first | (with_reducible assumption) | ((try simp only [List.getElem?_drop, Nat.mul_one, Nat.add_zero, Nat.zero_add]); first | (with_reducible assumption) | rfl)) | (apply And.intro; (first | rfl | (with_reducible assumption) | exact Nat.le_of_ble_eq_true rfl | omega | (simp <;> omega))))) <;> (try (conv => whnf))
      refine AWp_loop (σ := Nat) (10 :: 11 :: 13 :: 16 :: 17 :: 103 :: 104 :: 105 :: 106 :: 107 :: 108 :: 109 :: 110 :: 111 :: 112 :: 113 :: 114 :: 115 :: 116 :: 117 :: 118 :: 119 :: 120 :: 121 :: 122 :: 123 :: 124 :: 125 :: 126 :: 127 :: 128 :: 129 :: 130 :: 131 :: 132 :: 133 :: 134 :: 135 :: 136 :: 137 :: 138 :: 139 :: 140 :: 141 :: 142 :: 143 :: 144 :: 145 :: 146 :: 147 :: 148 :: 149 :: 150 :: 151 :: 152 :: []) (fun j => [(16, .int .i64 j), (13, .int .i64 (valF A0 (L.take (es.length + j))))]) (fun j => H.set r (.row (dL n (netN (setFl (A0.take (es.length + j)) (L.take (es.length + j))))) 0)) (fun j => j ≤ fs.length ∧ allW A0 (L.take (es.length + j))) (fun j => fs.length - j) 0 rfl ⟨Nat.zero_le _, hall⟩ ⟨rfl, rfl, trivial⟩ (HLe.refl _) ?_
      rintro j ⟨hj, hall⟩
      refine AWp.of tt_ok (dok _) rfl ?_
      dsimp only at hj ⊢
      by_cases hjlt : j < fs.length
      · obtain ⟨x, hx⟩ : ∃ x, fs[j]? = some x := ⟨_, List.getElem?_eq_getElem hjlt⟩
        obtain ⟨v1, v4, v5⟩ := hF x (List.mem_of_getElem? hx)
        have hxA := hAF j x hx
        have g0 : (fxL fs)[(j : Int).toNat * 3]? = some (.int .i64 x.a) := fxL_get hx 0 (by decide)
        have g1 : (fxL fs)[(j : Int).toNat * 3 + 1]? = some (.int .i64 x.v) := fxL_get hx 1 (by decide)
        have g2 : (fxL fs)[(j : Int).toNat * 3 + 2]? = some (.int .i64 x.w) := fxL_get hx 2 (by decide)
        have gf : RF[(j : Int).toNat]? = some (.int .i64 (L.getD (es.length + j) 0)) := by rw [hRF, hFL j hjlt]; exact iS_get (by omega)
        have hbd := netN_bd (setFl_ok (A := A0.take (es.length + j)) (L := L.take (es.length + j)) (fun y hy => hJ0.ok y (List.mem_of_mem_take hy)) (allW_tk hall))
        have hle : ((setFl (A0.take (es.length + j)) (L.take (es.length + j))).length : Int) ≤ 16384 := by rw [setFl_len, List.length_take]; omega
        have hvb := valF_bd A0 (L.take (es.length + j)) hAd hall
        have htl : ((L.take (es.length + j)).length : Int) ≤ 16384 := by rw [List.length_take]; omega
        have htli : (L.take (es.length + j)).length = es.length + j := by rw [List.length_take]; omega
        have hvn := valF_snoc A0 (L.take (es.length + j)) (fxAc n x) (L.getD (es.length + j) 0) (by rw [htli]; exact hxA)
        have hwn : inW (fxAc n x) (L.getD (es.length + j) 0) → allW A0 (L.take (es.length + j) ++ [L.getD (es.length + j) 0]) := allW_snoc (by rw [htli]; exact hxA) hall
        rw [← getD_app (by omega)] at hvn hwn
        have hnx : ∀ v, netN (setFl (A0.take (es.length + j + 1)) (L.take (es.length + j + 1))) v = netN (setFl (A0.take (es.length + j)) (L.take (es.length + j))) v + ((if x.a.toNat = v then L.getD (es.length + j) 0 else 0) - (if n = v then L.getD (es.length + j) 0 else 0)) := fun v => by
          rw [setFl_tk hxA (by omega), netN_snoc]; rfl
        have hnoi := hno (es.length + j) (fxAc n x) hxA (by omega)
        generalize L.getD (es.length + j) 0 = f at *
        generalize valF A0 (L.take (es.length + j)) = vv at *
        generalize hN1 : netN (setFl (A0.take (es.length + j + 1)) (L.take (es.length + j + 1))) = N1 at *
        generalize netN (setFl (A0.take (es.length + j)) (L.take (es.length + j))) = N at *
        have hinI : inW (fxAc n x) f ↔ (-x.w ≤ f ∧ f ≤ x.w) := Iff.rfl
        by_cases hin : -x.w ≤ f ∧ f ≤ x.w
        · have hw := fun H => rwithin_c f x.w (by omega) true (decide_eq_true hin) H
          have key : -4294967296 ≤ f * x.v ∧ f * x.v ≤ 4294967296 := by
            have a1 : (65536 - f) * (65535 - x.v) ≥ 0 := Int.mul_nonneg (by omega) (by omega)
            have a2 : (65536 + f) * (65535 + x.v) ≥ 0 := Int.mul_nonneg (by omega) (by omega)
            have a3 : (65536 - f) * (65535 + x.v) ≥ 0 := Int.mul_nonneg (by omega) (by omega)
            have a4 : (65536 + f) * (65535 - x.v) ≥ 0 := Int.mul_nonneg (by omega) (by omega)
            simp only [Int.sub_mul, Int.add_mul, Int.mul_sub, Int.mul_add] at a1 a2 a3 a4
            omega
          have b1 := hbd x.a.toNat
          have gA : (dL n N)[x.a.toNat]? = some (.int .i64 (N x.a.toNat)) := dL_get N (by omega)
          have hw1 : wrA (dL n N) (0 + x.a.toNat * 1) [.int .i64 (N x.a.toNat + f)] = dL n N1 := by
            rw [Nat.zero_add, Nat.mul_one, dL_wr _ (by omega)]
            refine dL_congr fun v hv => ?_
            rw [hnx v]
            unfold putD
            by_cases e2 : v = x.a.toNat
            · rw [if_pos e2, if_pos e2.symm, if_neg (by omega), e2]; omega
            · rw [if_neg e2, if_neg (Ne.symm e2), if_neg (by omega)]; omega
          have hd1 := dL_len n N
          (iterate 2 ((repeat' ((conv => whnf); first | refine OpsA.cons ?_ | refine OpsA.nil ?_ | refine AWq.seq ?_ | refine AWq.region ?_ | refine AWq.cond ?_ | refine AWq.block ?_ | refine AWq.skip ?_ | refine AWq.ret ?_ | refine AWq.exit ?_ | refine AWq.loop ?_ | refine DrawA.consD ?_ | refine DrawA.nil ?_ | refine AWq.draw (by decide +kernel) ?_ | (refine Both.mk ?_ ?_ <;> intro hc <;> (first | exact Bool.noConfusion hc | exact absurd (by assumption) hc | (exfalso; omega) | skip)) | (intro c hc; (try (simp only [AH.none_iff] at hc; repeat (have hn := hc.1; replace hc := hc.2))); (first | (refine i64_k hc ?_ ?_ ?_ ; omega; omega; (clear hc; intro hc; subst hc)) | skip)) | (apply Exists.intro; apply And.intro; (first | (focus (repeat (first | (with_reducible assumption) | (with_reducible exact AH.set_same _ _ _))); done))) | (apply Exists.intro; apply And.intro; first | (with_reducible assumption) | ((try simp only [List.getElem?_drop, Nat.mul_one, Nat.add_zero, Nat.zero_add]); first | (with_reducible assumption) | rfl)) | (apply And.intro; (first | rfl | (with_reducible assumption) | exact Nat.le_of_ble_eq_true rfl | omega | (simp <;> omega))))) <;> (try (conv => whnf)); refine Then.mk ?_))
          (repeat' ((conv => whnf); first | refine OpsA.cons ?_ | refine OpsA.nil ?_ | refine AWq.seq ?_ | refine AWq.region ?_ | refine AWq.cond ?_ | refine AWq.block ?_ | refine AWq.skip ?_ | refine AWq.ret ?_ | refine AWq.exit ?_ | refine AWq.loop ?_ | refine DrawA.consD ?_ | refine DrawA.nil ?_ | refine AWq.draw (by decide +kernel) ?_ | (apply Exists.intro; apply And.intro; exact hw _) | (refine Both.mk ?_ ?_ <;> intro hc <;> (first | exact Bool.noConfusion hc | exact absurd (by assumption) hc | (exfalso; omega) | skip)) | (intro c hc; (try (simp only [AH.none_iff] at hc; repeat (have hn := hc.1; replace hc := hc.2))); (first | (refine i64_k hc ?_ ?_ ?_ ; omega; omega; (clear hc; intro hc; subst hc)) | skip)) | (apply Exists.intro; apply And.intro; (first | (focus (repeat (first | (with_reducible assumption) | (with_reducible exact AH.set_same _ _ _))); done))) | (apply Exists.intro; apply And.intro; first | (with_reducible assumption) | ((try simp only [List.getElem?_drop, Nat.mul_one, Nat.add_zero, Nat.zero_add]); first | (with_reducible assumption) | rfl)) | (apply And.intro; (first | rfl | (with_reducible assumption) | exact Nat.le_of_ble_eq_true rfl | omega | (simp <;> omega))))) <;> (try (conv => whnf))
          refine Then.mk ?_
          (iterate 2 ((repeat' ((conv => whnf); first | refine OpsA.cons ?_ | refine OpsA.nil ?_ | refine AWq.seq ?_ | refine AWq.region ?_ | refine AWq.cond ?_ | refine AWq.block ?_ | refine AWq.skip ?_ | refine AWq.ret ?_ | refine AWq.exit ?_ | refine AWq.loop ?_ | refine DrawA.consD ?_ | refine DrawA.nil ?_ | refine AWq.draw (by decide +kernel) ?_ | (refine Both.mk ?_ ?_ <;> intro hc <;> (first | exact Bool.noConfusion hc | exact absurd (by assumption) hc | (exfalso; omega) | skip)) | (intro c hc; (try (simp only [AH.none_iff] at hc; repeat (have hn := hc.1; replace hc := hc.2))); (first | (refine i64_k hc ?_ ?_ ?_ ; omega; omega; (clear hc; intro hc; subst hc)) | skip)) | (apply Exists.intro; apply And.intro; (first | (focus (repeat (first | (with_reducible assumption) | (with_reducible exact AH.set_same _ _ _))); done))) | (apply Exists.intro; apply And.intro; first | (with_reducible assumption) | ((try simp only [List.getElem?_drop, Nat.mul_one, Nat.add_zero, Nat.zero_add]); first | (with_reducible assumption) | rfl)) | (apply And.intro; (first | rfl | (with_reducible assumption) | exact Nat.le_of_ble_eq_true rfl | omega | (simp <;> omega))))) <;> (try (conv => whnf)); refine Then.mk ?_))
          (repeat' ((conv => whnf); first | refine OpsA.cons ?_ | refine OpsA.nil ?_ | refine AWq.seq ?_ | refine AWq.region ?_ | refine AWq.cond ?_ | refine AWq.block ?_ | refine AWq.skip ?_ | refine AWq.ret ?_ | refine AWq.exit ?_ | refine AWq.loop ?_ | refine DrawA.consD ?_ | refine DrawA.nil ?_ | refine AWq.draw (by decide +kernel) ?_ | (refine Both.mk ?_ ?_ <;> intro hc <;> (first | exact Bool.noConfusion hc | exact absurd (by assumption) hc | (exfalso; omega) | skip)) | (intro c hc; (try (simp only [AH.none_iff] at hc; repeat (have hn := hc.1; replace hc := hc.2))); (first | (refine i64_k hc ?_ ?_ ?_ ; omega; omega; (clear hc; intro hc; subst hc)) | skip)) | (apply Exists.intro; apply And.intro; (first | (focus (repeat (first | (with_reducible assumption) | (with_reducible exact AH.set_same _ _ _))); done))) | (apply Exists.intro; apply And.intro; first | (with_reducible assumption) | ((try simp only [List.getElem?_drop, Nat.mul_one, Nat.add_zero, Nat.zero_add]); first | (with_reducible assumption) | rfl)) | (apply And.intro; (first | rfl | (with_reducible assumption) | exact Nat.le_of_ble_eq_true rfl | omega | (simp <;> omega))))) <;> (try (conv => whnf))
          refine Then.mk (AWq.in ?_)
          refine AWp_less (H.set r (.row (dL n N1) 0)) (HLe.of_eq (by rw [← hw1]; exact (AH.set_set _ _ _ _).symm)) ?_
          refine AWp.of tt_ok (dok _) rfl ?_
          (repeat' ((conv => whnf); first | refine Then.mk ?_ | refine OpsA.cons ?_ | refine OpsA.nil ?_ | refine AWq.seq ?_ | refine AWq.region ?_ | refine AWq.cond ?_ | refine AWq.block ?_ | refine AWq.skip ?_ | refine AWq.ret ?_ | refine AWq.exit ?_ | refine AWq.loop ?_ | refine DrawA.consD ?_ | refine DrawA.nil ?_ | refine AWq.draw (by decide +kernel) ?_ | (refine Both.mk ?_ ?_ <;> intro hc <;> (first | exact Bool.noConfusion hc | exact absurd (by assumption) hc | (exfalso; omega) | skip)) | (intro c hc; (try (simp only [AH.none_iff] at hc; repeat (have hn := hc.1; replace hc := hc.2))); (first | (refine i64_k hc ?_ ?_ ?_ ; omega; omega; (clear hc; intro hc; subst hc)) | skip)) | (apply Exists.intro; apply And.intro; (first | (focus (repeat (first | (with_reducible assumption) | (with_reducible exact AH.set_same _ _ _))); done))) | (apply Exists.intro; apply And.intro; first | (with_reducible assumption) | ((try simp only [List.getElem?_drop, Nat.mul_one, Nat.add_zero, Nat.zero_add]); first | (with_reducible assumption) | rfl)) | (apply And.intro; (first | rfl | (with_reducible assumption) | exact Nat.le_of_ble_eq_true rfl | omega | (simp <;> omega))))) <;> (try (conv => whnf))
          refine ⟨j + 1, ⟨hjlt, hwn (hinI.2 hin)⟩, by omega, ⟨congrArg (AV.int .i64) (by omega), congrArg (AV.int .i64) ?_, trivial⟩, HLe.of_eq ?_⟩
          · exact hvn.symm
          · show H.set r (.row (dL n (netN (setFl (A0.take (es.length + j + 1)) (L.take (es.length + j + 1))))) 0) = _
            rw [hN1]
        · have hw := fun H => rwithin_c f x.w (by omega) false (decide_eq_false hin) H
          have hbad := hnoi (fun k => hin (hinI.1 k))
          (repeat' ((conv => whnf); first | refine Then.mk ?_ | refine OpsA.cons ?_ | refine OpsA.nil ?_ | refine AWq.seq ?_ | refine AWq.region ?_ | refine AWq.cond ?_ | refine AWq.block ?_ | refine AWq.skip ?_ | refine AWq.ret ?_ | refine AWq.exit ?_ | refine AWq.loop ?_ | refine DrawA.consD ?_ | refine DrawA.nil ?_ | refine AWq.draw (by decide +kernel) ?_ | (apply Exists.intro; apply And.intro; exact hw _) | (refine Both.mk ?_ ?_ <;> intro hc <;> (first | exact Bool.noConfusion hc | exact absurd (by assumption) hc | (exfalso; omega) | skip)) | (intro c hc; (try (simp only [AH.none_iff] at hc; repeat (have hn := hc.1; replace hc := hc.2))); (first | (refine i64_k hc ?_ ?_ ?_ ; omega; omega; (clear hc; intro hc; subst hc)) | skip)) | (apply Exists.intro; apply And.intro; (first | (focus (repeat (first | (with_reducible assumption) | (with_reducible exact AH.set_same _ _ _))); done))) | (apply Exists.intro; apply And.intro; first | (with_reducible assumption) | ((try simp only [List.getElem?_drop, Nat.mul_one, Nat.add_zero, Nat.zero_add]); first | (with_reducible assumption) | rfl)) | (apply And.intro; (first | rfl | (with_reducible assumption) | exact Nat.le_of_ble_eq_true rfl | omega | (simp <;> omega))))) <;> (try (conv => whnf))
          exact ⟨_, H, AVle.refl _, HLe.fresh _ hr, 0, false, ⟨fun h => Bool.noConfusion h, fun h => absurd h hbad⟩, fun h => Bool.noConfusion h, rfl, rfl⟩
      · have hje : es.length + j = L.length := by omega
        have htA : A0.take (es.length + j) = A0 := List.take_of_length_le (by omega)
        have htL : L.take (es.length + j) = L := List.take_of_length_le (by omega)
        rw [htL] at hall ⊢
        rw [htA]
        have hdl := dL_len n (netN (setFl A0 L))
        (repeat' ((conv => whnf); first | refine Then.mk ?_ | refine OpsA.cons ?_ | refine OpsA.nil ?_ | refine AWq.seq ?_ | refine AWq.region ?_ | refine AWq.cond ?_ | refine AWq.block ?_ | refine AWq.skip ?_ | refine AWq.ret ?_ | refine AWq.exit ?_ | refine AWq.loop ?_ | refine DrawA.consD ?_ | refine DrawA.nil ?_ | refine AWq.draw (by decide +kernel) ?_ | (refine Both.mk ?_ ?_ <;> intro hc <;> (first | exact Bool.noConfusion hc | exact absurd (by assumption) hc | (exfalso; omega) | skip)) | (intro c hc; (try (simp only [AH.none_iff] at hc; repeat (have hn := hc.1; replace hc := hc.2))); (first | (refine i64_k hc ?_ ?_ ?_ ; omega; omega; (clear hc; intro hc; subst hc)) | skip)) | (apply Exists.intro; apply And.intro; (first | (focus (repeat (first | (with_reducible assumption) | (with_reducible exact AH.set_same _ _ _))); done))) | (apply Exists.intro; apply And.intro; first | (with_reducible assumption) | ((try simp only [List.getElem?_drop, Nat.mul_one, Nat.add_zero, Nat.zero_add]); first | (with_reducible assumption) | rfl)) | (apply And.intro; (first | rfl | (with_reducible assumption) | exact Nat.le_of_ble_eq_true rfl | omega | (simp <;> omega))))) <;> (try (conv => whnf))
        refine AWp_loop (σ := Nat) (10 :: 11 :: 18 :: 153 :: 154 :: 155 :: 156 :: 157 :: 158 :: 159 :: 160 :: 161 :: 162 :: []) (fun k => [(18, .int .i64 k)]) (fun k => H.set r (.row (dL n (netN (setFl A0 L))) 0)) (fun k => k ≤ n ∧ ∀ v, v < k → netN (setFl A0 L) v = 0) (fun k => n - k) 0 rfl ⟨Nat.zero_le _, fun v hv => absurd hv (Nat.not_lt_zero v)⟩ ⟨rfl, trivial⟩ (HLe.refl _) ?_
        rintro k ⟨hk, hz⟩
        refine AWp.of tt_ok (dok _) rfl ?_
        dsimp only at hk ⊢
        by_cases hklt : k < n
        · have gk := dL_getZ (n := n) (netN (setFl A0 L)) hklt
          by_cases hz0 : netN (setFl A0 L) k = 0
          · (repeat' ((conv => whnf); first | refine Then.mk ?_ | refine OpsA.cons ?_ | refine OpsA.nil ?_ | refine AWq.seq ?_ | refine AWq.region ?_ | refine AWq.cond ?_ | refine AWq.block ?_ | refine AWq.skip ?_ | refine AWq.ret ?_ | refine AWq.exit ?_ | refine AWq.loop ?_ | refine DrawA.consD ?_ | refine DrawA.nil ?_ | refine AWq.draw (by decide +kernel) ?_ | (refine Both.mk ?_ ?_ <;> intro hc <;> (first | exact Bool.noConfusion hc | exact absurd (by assumption) hc | (exfalso; omega) | skip)) | (intro c hc; (try (simp only [AH.none_iff] at hc; repeat (have hn := hc.1; replace hc := hc.2))); (first | (refine i64_k hc ?_ ?_ ?_ ; omega; omega; (clear hc; intro hc; subst hc)) | skip)) | (apply Exists.intro; apply And.intro; (first | (focus (repeat (first | (with_reducible assumption) | (with_reducible exact AH.set_same _ _ _))); done))) | (apply Exists.intro; apply And.intro; first | (with_reducible assumption) | ((try simp only [List.getElem?_drop, Nat.mul_one, Nat.add_zero, Nat.zero_add]); first | (with_reducible assumption) | rfl)) | (apply And.intro; (first | rfl | (with_reducible assumption) | exact Nat.le_of_ble_eq_true rfl | omega | (simp <;> omega))))) <;> (try (conv => whnf))
            refine ⟨k + 1, ⟨hklt, fun v hv => ?_⟩, by omega, ⟨congrArg (AV.int .i64) (by omega), trivial⟩, HLe.refl _⟩
            by_cases e : v = k
            · rw [e]; exact hz0
            · exact hz v (by omega)
          · have hbad : ¬ FlowOk n es fs E F := fun q => hz0 ((hFO.1 q).2 k hklt)
            (repeat' ((conv => whnf); first | refine Then.mk ?_ | refine OpsA.cons ?_ | refine OpsA.nil ?_ | refine AWq.seq ?_ | refine AWq.region ?_ | refine AWq.cond ?_ | refine AWq.block ?_ | refine AWq.skip ?_ | refine AWq.ret ?_ | refine AWq.exit ?_ | refine AWq.loop ?_ | refine DrawA.consD ?_ | refine DrawA.nil ?_ | refine AWq.draw (by decide +kernel) ?_ | (refine Both.mk ?_ ?_ <;> intro hc <;> (first | exact Bool.noConfusion hc | exact absurd (by assumption) hc | (exfalso; omega) | skip)) | (intro c hc; (try (simp only [AH.none_iff] at hc; repeat (have hn := hc.1; replace hc := hc.2))); (first | (refine i64_k hc ?_ ?_ ?_ ; omega; omega; (clear hc; intro hc; subst hc)) | skip)) | (apply Exists.intro; apply And.intro; (first | (focus (repeat (first | (with_reducible assumption) | (with_reducible exact AH.set_same _ _ _))); done))) | (apply Exists.intro; apply And.intro; first | (with_reducible assumption) | ((try simp only [List.getElem?_drop, Nat.mul_one, Nat.add_zero, Nat.zero_add]); first | (with_reducible assumption) | rfl)) | (apply And.intro; (first | rfl | (with_reducible assumption) | exact Nat.le_of_ble_eq_true rfl | omega | (simp <;> omega))))) <;> (try (conv => whnf))
            exact ⟨_, H, AVle.refl _, HLe.fresh _ hr, 0, false, ⟨fun h => Bool.noConfusion h, fun h => absurd h hbad⟩, fun h => Bool.noConfusion h, rfl, rfl⟩
        · have hgood : FlowOk n es fs E F := hFO.2 ⟨hall, fun v hv => hz v (by omega)⟩
          (repeat' ((conv => whnf); first | refine Then.mk ?_ | refine OpsA.cons ?_ | refine OpsA.nil ?_ | refine AWq.seq ?_ | refine AWq.region ?_ | refine AWq.cond ?_ | refine AWq.block ?_ | refine AWq.skip ?_ | refine AWq.ret ?_ | refine AWq.exit ?_ | refine AWq.loop ?_ | refine DrawA.consD ?_ | refine DrawA.nil ?_ | refine AWq.draw (by decide +kernel) ?_ | (refine Both.mk ?_ ?_ <;> intro hc <;> (first | exact Bool.noConfusion hc | exact absurd (by assumption) hc | (exfalso; omega) | skip)) | (intro c hc; (try (simp only [AH.none_iff] at hc; repeat (have hn := hc.1; replace hc := hc.2))); (first | (refine i64_k hc ?_ ?_ ?_ ; omega; omega; (clear hc; intro hc; subst hc)) | skip)) | (apply Exists.intro; apply And.intro; (first | (focus (repeat (first | (with_reducible assumption) | (with_reducible exact AH.set_same _ _ _))); done))) | (apply Exists.intro; apply And.intro; first | (with_reducible assumption) | ((try simp only [List.getElem?_drop, Nat.mul_one, Nat.add_zero, Nat.zero_add]); first | (with_reducible assumption) | rfl)) | (apply And.intro; (first | rfl | (with_reducible assumption) | exact Nat.le_of_ble_eq_true rfl | omega | (simp <;> omega))))) <;> (try (conv => whnf))
          exact ⟨_, H, AVle.refl _, HLe.fresh _ hr, _, true, ⟨fun _ => hgood, fun _ => rfl⟩, fun _ => rfl, rfl, rfl⟩
  · have hbad : ¬ FlowOk n es fs E F := fun k => hl ⟨k.l2, k.l3⟩
    refine ACall_of tt_ok (dok _) Try.func43 rfl (by decide) rfl ?_
    (repeat' ((conv => whnf); first | refine Then.mk ?_ | refine OpsA.cons ?_ | refine OpsA.nil ?_ | refine AWq.seq ?_ | refine AWq.region ?_ | refine AWq.cond ?_ | refine AWq.block ?_ | refine AWq.skip ?_ | refine AWq.ret ?_ | refine AWq.exit ?_ | refine AWq.loop ?_ | refine DrawA.consD ?_ | refine DrawA.nil ?_ | refine AWq.draw (by decide +kernel) ?_ | (refine Both.mk ?_ ?_ <;> intro hc <;> (first | exact Bool.noConfusion hc | exact absurd (by assumption) hc | (exfalso; omega) | skip)) | (intro c hc; (try (simp only [AH.none_iff] at hc; repeat (have hn := hc.1; replace hc := hc.2))); (first | (refine i64_k hc ?_ ?_ ?_ ; omega; omega; (clear hc; intro hc; subst hc)) | skip)) | (apply Exists.intro; apply And.intro; (first | (focus (repeat (first | (with_reducible assumption) | (with_reducible exact AH.set_same _ _ _))); done))) | (apply Exists.intro; apply And.intro; first | (with_reducible assumption) | ((try simp only [List.getElem?_drop, Nat.mul_one, Nat.add_zero, Nat.zero_add]); first | (with_reducible assumption) | rfl)) | (apply And.intro; (first | rfl | (with_reducible assumption) | exact Nat.le_of_ble_eq_true rfl | omega | (simp <;> omega))))) <;> (try (conv => whnf))
    all_goals exact ⟨_, H, AVle.refl _, HLe.refl _, 0, false, ⟨fun h => Bool.noConfusion h, fun h => absurd h hbad⟩, fun h => Bool.noConfusion h, rfl, rfl⟩

set_option maxRecDepth 8000 in
theorem rcheck_bad (n : Int) (es : List Ed) (fs : List Fx) (he : es.length ≤ 1000000000) (hf : fs.length ≤ 1000000000) (hv : validV n es fs ≠ 0) (l1 l2 l3 : List AV) (k1 k2 k3 : Nat) (c : Int) (H : AH) :
    ACall Try.prog 15 [.int .i64 n, .cs (edL es) es.length, .cs (fxL fs) fs.length, .agg [.cs l1 k1, .cs l2 k2, .cs l3 k3, .int .i64 c]] H (fun y H' => y = .int .i64 (validV n es fs) ∧ H' = H) := by
  have hv1 := fun H => rvalid_c n es fs he hf H
  refine ACall.back ?_
  generalize validV n es fs = e at *
  refine ACall_of tt_ok (dok _) Try.func15 rfl (by decide) rfl ?_
  (repeat' ((conv => whnf); first | refine Then.mk ?_ | refine OpsA.cons ?_ | refine OpsA.nil ?_ | refine AWq.seq ?_ | refine AWq.region ?_ | refine AWq.cond ?_ | refine AWq.ret ?_ | (refine Both.mk ?_ ?_ <;> intro hc <;> (first | exact Bool.noConfusion hc | exact absurd (by assumption) hc | skip)) | (intro c hc; (try (simp only [AH.none_iff] at hc; repeat (have hn := hc.1; replace hc := hc.2))); (first | skip)) | (apply And.intro; (first | rfl)) | (refine ACall.to (hv1 _) ?_))) <;> (try (conv => whnf))
  exact HLe.fresh _ (by assumption)
set_option maxHeartbeats 4000000 in
set_option maxRecDepth 8000 in
theorem rcheck_c (n : Nat) (es : List Ed) (fs : List Fx) (hv : validV n es fs = 0) (O E F : List Int) (z : Int) (hO : O.length ≤ 1000000) (hE' : E.length ≤ 1000000) (hF' : F.length ≤ 1000000) (e : Int) (he1 : ChkP n es fs O E F z → e = 0) (he2 : ¬ ChkP n es fs O E F z → e = 17) (H : AH) :
    ACall Try.prog 15 [.int .i64 n, .cs (edL es) es.length, .cs (fxL fs) fs.length, .agg [.cs (iS .i64 O) O.length, .cs (iS .i64 E) E.length, .cs (iS .i64 F) F.length, .int .i64 z]] H (fun y H' => y = .int .i64 e ∧ H' = H) := by
  obtain ⟨⟨_, hn64⟩, ⟨he, hf⟩, hE, hF⟩ := validV_ok hv
  have hv1 := fun H => rvalid_c n es fs (by omega) (by omega) H
  rw [hv] at hv1
  have hcost := fun H => rcost_c es fs O (by omega) (by omega) (by omega) H
  have hfl := fun H => flows_c n es fs hv E F hE' hF' H
  refine ACall.back ?_
  by_cases hl : O.length = n
  · have hP : ChkP n es fs O E F z ↔ FlowOk n es fs E F ∧ (costR es fs O).2 = 0 ∧ (costR es fs O).1 = z ∧ valF (net0 n es fs) (E ++ F) = z :=
      ⟨fun k => ⟨⟨k.l2, k.l3, k.al, k.ne⟩, by rw [k.co], by rw [k.co], k.va⟩, fun ⟨q, k1, k2, k3⟩ => ⟨hl, q.l2, q.l3, q.al, Prod.ext k2 k1, k3, q.ne⟩⟩
    generalize costR es fs O = cr at *
    obtain ⟨cr1, cr2⟩ := cr
    dsimp only at hP hcost
    refine ACall_of tt_ok (dok _) Try.func15 rfl (by decide) rfl ?_
    (repeat' ((conv => whnf); first | refine Then.mk ?_ | refine OpsA.cons ?_ | refine OpsA.nil ?_ | refine AWq.seq ?_ | refine AWq.region ?_ | refine AWq.cond ?_ | refine AWq.skip ?_ | refine AWq.ret ?_ | (refine Both.mk ?_ ?_ <;> intro hc <;> (first | exact Bool.noConfusion hc | exact absurd (by with_reducible rfl) hc | exact absurd (by assumption) hc | (exfalso; omega) | skip)) | (intro c hc; (try (simp only [AH.none_iff] at hc; repeat (have hn := hc.1; replace hc := hc.2))); (first | skip)) | (apply Exists.intro; apply And.intro; (first | (focus (repeat (first | (with_reducible assumption) | (with_reducible exact AH.set_same _ _ _))); done))) | (apply Exists.intro; apply And.intro; first | (with_reducible assumption) | ((try simp only [List.getElem?_drop, Nat.mul_one, Nat.add_zero, Nat.zero_add]); first | (with_reducible assumption) | rfl)) | (apply And.intro; (first | rfl | (with_reducible assumption))) | (refine ACall.to (hv1 _) ?_) | (refine ACall.to (hcost _) ?_))) <;> (try (conv => whnf))
    refine ACall.mono (hfl _) ?_
    rintro y H' ⟨v, b, hb, hbv, rfl, rfl⟩
    cases b with
    | true =>
      have hFl := hb.1 rfl
      have hvv := hbv rfl
      rw [← hvv] at hP
      by_cases hgood : cr2 = 0 ∧ cr1 = z ∧ v = z
      · have hen := he1 (hP.2 ⟨hFl, hgood⟩)
        obtain ⟨rfl, rfl, hvz⟩ := hgood
        subst hen
        (repeat' ((conv => whnf); first | refine Then.mk ?_ | refine OpsA.cons ?_ | refine OpsA.nil ?_ | refine AWq.seq ?_ | refine AWq.region ?_ | refine AWq.cond ?_ | refine AWq.skip ?_ | refine AWq.ret ?_ | (refine Both.mk ?_ ?_ <;> intro hc <;> (first | exact Bool.noConfusion hc | exact absurd (by with_reducible rfl) hc | exact absurd (by assumption) hc | (exfalso; omega) | skip)) | (intro c hc; (try (simp only [AH.none_iff] at hc; repeat (have hn := hc.1; replace hc := hc.2))); (first | skip)) | (apply Exists.intro; apply And.intro; (first | (focus (repeat (first | (with_reducible assumption) | (with_reducible exact AH.set_same _ _ _))); done))) | (apply Exists.intro; apply And.intro; first | (with_reducible assumption) | ((try simp only [List.getElem?_drop, Nat.mul_one, Nat.add_zero, Nat.zero_add]); first | (with_reducible assumption) | rfl)) | (apply And.intro; (first | rfl | (with_reducible assumption))))) <;> (try (conv => whnf))
        all_goals (first | ((repeat' (first | (with_reducible exact HLe.refl _) | (with_reducible assumption) | refine HLe.set_of _ _ ?_ ?_)); done))
      · have hen := he2 (fun k => hgood (hP.1 k).2)
        subst hen
        (repeat' ((conv => whnf); first | refine Then.mk ?_ | refine OpsA.cons ?_ | refine OpsA.nil ?_ | refine AWq.seq ?_ | refine AWq.region ?_ | refine AWq.cond ?_ | refine AWq.skip ?_ | refine AWq.ret ?_ | (refine Both.mk ?_ ?_ <;> intro hc <;> (first | exact Bool.noConfusion hc | exact absurd (by with_reducible rfl) hc | exact absurd (by assumption) hc | (exfalso; omega) | skip)) | (intro c hc; (try (simp only [AH.none_iff] at hc; repeat (have hn := hc.1; replace hc := hc.2))); (first | skip)) | (apply Exists.intro; apply And.intro; (first | (focus (repeat (first | (with_reducible assumption) | (with_reducible exact AH.set_same _ _ _))); done))) | (apply Exists.intro; apply And.intro; first | (with_reducible assumption) | ((try simp only [List.getElem?_drop, Nat.mul_one, Nat.add_zero, Nat.zero_add]); first | (with_reducible assumption) | rfl)) | (apply And.intro; (first | rfl | (with_reducible assumption))))) <;> (try (conv => whnf))
        all_goals (first | ((repeat' (first | (with_reducible exact HLe.refl _) | (with_reducible assumption) | refine HLe.set_of _ _ ?_ ?_)); done))
    | false =>
      have hen := he2 (fun k => by have := hb.2 (hP.1 k).1; cases this)
      subst hen
      (repeat' ((conv => whnf); first | refine Then.mk ?_ | refine OpsA.cons ?_ | refine OpsA.nil ?_ | refine AWq.seq ?_ | refine AWq.region ?_ | refine AWq.cond ?_ | refine AWq.skip ?_ | refine AWq.ret ?_ | (refine Both.mk ?_ ?_ <;> intro hc <;> (first | exact Bool.noConfusion hc | exact absurd (by with_reducible rfl) hc | exact absurd (by assumption) hc | (exfalso; omega) | skip)) | (intro c hc; (try (simp only [AH.none_iff] at hc; repeat (have hn := hc.1; replace hc := hc.2))); (first | skip)) | (apply Exists.intro; apply And.intro; (first | (focus (repeat (first | (with_reducible assumption) | (with_reducible exact AH.set_same _ _ _))); done))) | (apply Exists.intro; apply And.intro; first | (with_reducible assumption) | ((try simp only [List.getElem?_drop, Nat.mul_one, Nat.add_zero, Nat.zero_add]); first | (with_reducible assumption) | rfl)) | (apply And.intro; (first | rfl | (with_reducible assumption))))) <;> (try (conv => whnf))
      all_goals (first | ((repeat' (first | (with_reducible exact HLe.refl _) | (with_reducible assumption) | refine HLe.set_of _ _ ?_ ?_)); done))
  · have hen := he2 (fun k => hl k.l1)
    subst hen
    refine ACall_of tt_ok (dok _) Try.func15 rfl (by decide) rfl ?_
    (repeat' ((conv => whnf); first | refine Then.mk ?_ | refine OpsA.cons ?_ | refine OpsA.nil ?_ | refine AWq.seq ?_ | refine AWq.region ?_ | refine AWq.cond ?_ | refine AWq.skip ?_ | refine AWq.ret ?_ | (refine Both.mk ?_ ?_ <;> intro hc <;> (first | exact Bool.noConfusion hc | exact absurd (by with_reducible rfl) hc | exact absurd (by assumption) hc | (exfalso; omega) | skip)) | (intro c hc; (try (simp only [AH.none_iff] at hc; repeat (have hn := hc.1; replace hc := hc.2))); (first | skip)) | (apply Exists.intro; apply And.intro; (first | (focus (repeat (first | (with_reducible assumption) | (with_reducible exact AH.set_same _ _ _))); done))) | (apply Exists.intro; apply And.intro; first | (with_reducible assumption) | ((try simp only [List.getElem?_drop, Nat.mul_one, Nat.add_zero, Nat.zero_add]); first | (with_reducible assumption) | rfl)) | (apply And.intro; (first | rfl | (with_reducible assumption))) | (refine ACall.to (hv1 _) ?_))) <;> (try (conv => whnf))
    (first | ((repeat' (first | (with_reducible exact HLe.refl _) | (with_reducible assumption) | refine HLe.set_of _ _ ?_ ?_)); done))
end Go.Proofs.Ytebflkgpbbjhnaa
/- The walks of balance's reference: Spoilt. -/
namespace Go.Fw
open Go.RowKit
theorem ACall.cold2E {P : Program} {g : FuncId} {args : List AV} {H : AH} {K0 : AV → Prop}
    (h : ACall P g args H fun y H' => ∃ r1 r2 v1 v2 e1 e2 n1 n2 c1 c2, H r1 = none ∧ H r2 = none ∧ r1 ≠ r2 ∧ c1.length = n1 * e1 ∧ c2.length = n2 * e2 ∧ y = .tup [.sl r1 v1 e1 0 n1 none, .sl r2 v2 e2 0 n2 none] ∧ HLe ((H.set r1 (.row c1 v1)).set r2 (.row c2 v2)) H' ∧ K0 (.tup [.cs c1 n1, .cs c2 n2])) :
    ACall P g args H fun y H' => K0 y ∧ H' = H := by
  refine ⟨h.ent, fun κ F B w0 w cargs hI hA => (h.run κ F B w0 w cargs hI hA).mono ?_⟩
  rintro e w' ⟨x, he, y, H', κ', F', k1, k2, I, hv, r1, r2, v1, v2, e1, e2, n1, n2, c1, c2, hr1, hr2, hne, h1, h2, rfl, hle, hK⟩
  have I := I.less hle.le
  obtain ⟨F1, hF1, I1, ha1⟩ := I.coolAll (r := r2) (v := v2) (cells := c2) (AH.set_same _ _ _)
  rw [AH.del_set _ _ _ (by rw [AH.set_ne _ _ (Ne.symm hne)]; exact hr2)] at I1
  obtain ⟨F2, hF2, I2, ha2⟩ := I1.coolAll (r := r1) (v := v1) (cells := c1) (AH.set_same _ _ _)
  rw [AH.del_set _ _ _ hr1] at I2
  refine ⟨x, he, _, H, κ', F2, k1, (k2.trans hF1).trans hF2, I2, ?_, hK, rfl⟩
  cases hv with
  | tup hsz hi =>
    refine .tup hsz fun i hi' => ?_
    match i, hi' with
    | 0, _ => exact ha2 _ _ _ _ _ h1 (hi 0 (by simp))
    | 1, _ => exact (ha1 _ _ _ _ _ h2 (hi 1 (by simp))).mono (KLe.refl _) hF2
end Go.Fw
namespace Go.Proofs.Ytebflkgpbbjhnaa
open Go.Fw Go
set_option linter.unusedVariables false
set_option linter.unusedSimpArgs false

def SpV (y : AV) : Prop := ∃ es' fs', es'.length ≤ 1000 ∧ fs'.length ≤ 10000 ∧ y = .tup [.cs (edL es') es'.length, .cs (fxL fs') fs'.length]
set_option maxHeartbeats 4000000 in
set_option maxRecDepth 8000 in
theorem spoilt_c (es : List Ed) (fs : List Fx) (he : es.length ≤ 100) (hf : fs.length ≤ 100) (at' by' : Int) (hat : -9223372036854775808 ≤ at' ∧ at' ≤ 9223372036854775807) (hby : -9223372036854775808 ≤ by' ∧ by' ≤ 9223372036854775807) (H : AH) :
    ACall Try.prog 20 [.cs (edL es) es.length, .cs (fxL fs) fs.length, .int .i64 at', .int .i64 by'] H (fun y H' => SpV y ∧ H' = H) := by
  have ha9 : ∀ H, ACall Try.prog 11 [.int .i64 at', .int .i64 9] H (fun y H' => y = .int .i64 (aro at' 9) ∧ H' = H) := fun H => around_f at' hat.1 hat.2 9 (by decide) (by decide) H
  have hb3 : ∀ H, ACall Try.prog 11 [.int .i64 by', .int .i64 3] H (fun y H' => y = .int .i64 (aro by' 3) ∧ H' = H) := fun H => around_f by' hby.1 hby.2 3 (by decide) (by decide) H
  have h9 := aro_lt (n := at') (m := 9) (by decide)
  have h3 := aro_lt (n := by') (m := 3) (by decide)
  generalize aro at' 9 = k at *
  generalize aro by' 3 = b3 at *
  obtain ⟨q, hq⟩ : ∃ q : Int, q = IntKind.i64.wrap (at'.tdiv 9) := ⟨_, rfl⟩
  have hqb : -9223372036854775808 ≤ q ∧ q ≤ 9223372036854775807 := by rw [hq, IntKind.wrap_i64]; omega
  have hel := edL_len es
  have hfl := fxL_len fs
  have heo := edL_one es
  have hfo := fxL_one fs
  refine ACall.cold2E ?_
  have T1 : ∀ r1 r2 v1 v2 (es : List Ed) (fs : List Fx), r1 ≠ r2 → twoH H r1 v1 r2 v2 es fs r1 = some (.row (edL es) v1) := fun r1 r2 v1 v2 es fs h => by unfold twoH; rw [AH.set_ne _ _ h, AH.set_same]
  have T2 : ∀ r1 r2 v1 v2 (es : List Ed) (fs : List Fx), twoH H r1 v1 r2 v2 es fs r2 = some (.row (fxL fs) v2) := fun r1 r2 v1 v2 es fs => AH.set_same _ _ _
  have T3 : ∀ r1 r2 v1 v2 u (es : List Ed) (fs fs' : List Fx), (twoH H r1 v1 r2 v2 es fs).set r2 (.row (fxL fs') u) = twoH H r1 v1 r2 u es fs' := fun r1 r2 v1 v2 u es fs fs' => AH.set_set _ _ _ _
  have T4 : ∀ r1 r2 v1 v2 u (es es' : List Ed) (fs : List Fx), r1 ≠ r2 → (twoH H r1 v1 r2 v2 es fs).set r1 (.row (edL es') u) = twoH H r1 u r2 v2 es' fs := fun r1 r2 v1 v2 u es es' fs h => AH.set_back _ h _ _ _
  have fin : ∀ r1 r2 v1 v2 (es' : List Ed) (fs' : List Fx), H r1 = none → H r2 = none → r1 ≠ r2 → es'.length ≤ 1000 → fs'.length ≤ 10000 → ∀ H', H' = twoH H r1 v1 r2 v2 es' fs' → ∃ q1 q2 w1 w2 e1 e2 n1 n2 c1 c2, H q1 = none ∧ H q2 = none ∧ q1 ≠ q2 ∧ c1.length = n1 * e1 ∧ c2.length = n2 * e2 ∧ AV.tup [.sl r1 v1 4 0 es'.length none, .sl r2 v2 3 0 fs'.length none] = .tup [.sl q1 w1 e1 0 n1 none, .sl q2 w2 e2 0 n2 none] ∧ HLe ((H.set q1 (.row c1 w1)).set q2 (.row c2 w2)) H' ∧ SpV (.tup [.cs c1 n1, .cs c2 n2]) :=
    fun r1 r2 v1 v2 es' fs' g1 g2 g3 g4 g5 H' g6 => ⟨r1, r2, v1, v2, 4, 3, _, _, edL es', fxL fs', g1, g2, g3, by simp, by simp, rfl, HLe.of_eq g6.symm, es', fs', g4, g5, rfl⟩
  refine ACall_of tt_ok (dok _) Try.func20 rfl (by decide) rfl ?_
  (iterate 4 ((repeat' ((conv => whnf); first | left | refine OpsA.cons ?_ | refine OpsA.nil ?_ | refine AWq.seq ?_ | refine AWq.region ?_ | refine AWq.cond ?_ | refine AWq.block ?_ | refine AWq.skip ?_ | refine AWq.ret ?_ | refine AWq.exit ?_ | refine AWq.loop ?_ | (refine Both.mk ?_ ?_ <;> intro hc <;> (first | exact Bool.noConfusion hc | (exfalso; omega) | skip)) | (intro c hc; (try (simp only [AH.none_iff] at hc; repeat (have hn := hc.1; replace hc := hc.2))); (first | (refine i64_k hc ?_ ?_ ?_ ; omega; omega; (clear hc; intro hc; subst hc)) | subst hc | skip)) | (apply Exists.intro; apply And.intro; (first | (focus (repeat (first | (with_reducible assumption))); done))) | (apply Exists.intro; apply And.intro; first | (with_reducible assumption) | ((try simp only [List.getElem?_drop, Nat.mul_one, Nat.add_zero, Nat.zero_add]); first | (with_reducible assumption) | rfl)) | (apply And.intro; (first | rfl | (with_reducible assumption) | exact Nat.le_of_ble_eq_true rfl | omega | (simp <;> omega))))) <;> (try (conv => whnf)); refine Then.mk ?_))
  (repeat' ((conv => whnf); first | left | refine OpsA.cons ?_ | refine OpsA.nil ?_ | refine AWq.seq ?_ | refine AWq.region ?_ | refine AWq.cond ?_ | refine AWq.block ?_ | refine AWq.skip ?_ | refine AWq.ret ?_ | refine AWq.exit ?_ | refine AWq.loop ?_ | (refine Both.mk ?_ ?_ <;> intro hc <;> (first | exact Bool.noConfusion hc | (exfalso; omega) | skip)) | (intro c hc; (try (simp only [AH.none_iff] at hc; repeat (have hn := hc.1; replace hc := hc.2))); (first | (refine i64_k hc ?_ ?_ ?_ ; omega; omega; (clear hc; intro hc; subst hc)) | subst hc | skip)) | (apply Exists.intro; apply And.intro; (first | (focus (repeat (first | (with_reducible assumption))); done))) | (apply Exists.intro; apply And.intro; first | (with_reducible assumption) | ((try simp only [List.getElem?_drop, Nat.mul_one, Nat.add_zero, Nat.zero_add]); first | (with_reducible assumption) | rfl)) | (apply And.intro; (first | rfl | (with_reducible assumption) | exact Nat.le_of_ble_eq_true rfl | omega | (simp <;> omega))))) <;> (try (conv => whnf))
  rename_i r1 hr1
  (obtain ⟨r2, hq_⟩ : ∃ r2, r2 = c := ⟨_, rfl⟩); subst hq_
  have hr2 : H r2 = none := by assumption
  have hne : r1 ≠ r2 := Ne.symm (by assumption)
  refine Then.mk (AWq.in ?_)
  have hel := edL_len es
  have hfl := fxL_len fs
  refine AWp_less (twoH H r1 0 r2 0 es fs) (HLe.refl _) ?_
  refine AWp.of tt_ok (dok _) rfl ?_
  have hT1 := T1 r1 r2 0 0 es fs hne
  have hT2 := T2 r1 r2 0 0 es fs
  by_cases h0 : es.length = 0 ∨ fs.length = 0
  · have hT4 := T4 r1 r2 0 1 0 es (es ++ [⟨by', 1, 0, 1⟩]) fs hne
    have hT4 := T4 r1 r2 0 0 1 es (es ++ [⟨by', 1, 0, 1⟩]) fs hne
    have hsn : edL (es ++ [⟨by', 1, 0, 1⟩]) = edL es ++ [.int .i64 by', .int .i64 1, .int .i64 0, .int .i64 1] := (fL_snoc edA es _).symm
    have hf1 := fin r1 r2 1 0 (es ++ [⟨by', 1, 0, 1⟩]) fs hr1 hr2 hne (by simp; omega) (by omega) _ hT4
    rw [List.length_append, show [(⟨by', 1, 0, 1⟩ : Ed)].length = 1 from rfl, hsn] at hf1
    generalize twoH H r1 0 r2 0 es fs = G at *
    (repeat' ((conv => whnf); first | refine Then.mk ?_ | left | refine OpsA.cons ?_ | refine OpsA.nil ?_ | refine AWq.seq ?_ | refine AWq.region ?_ | refine AWq.cond ?_ | refine AWq.block ?_ | refine AWq.skip ?_ | refine AWq.ret ?_ | refine AWq.exit ?_ | refine AWq.loop ?_ | (refine Both.mk ?_ ?_ <;> intro hc <;> (first | exact Bool.noConfusion hc | (exfalso; omega) | skip)) | (intro c hc; (try (simp only [AH.none_iff] at hc; repeat (have hn := hc.1; replace hc := hc.2))); (first | (refine i64_k hc ?_ ?_ ?_ ; omega; omega; (clear hc; intro hc; subst hc)) | subst hc | skip)) | (apply Exists.intro; apply And.intro; (first | (focus (repeat (first | (with_reducible assumption))); done))) | (apply Exists.intro; apply And.intro; first | (with_reducible assumption) | ((try simp only [List.getElem?_drop, Nat.mul_one, Nat.add_zero, Nat.zero_add]); first | (with_reducible assumption) | rfl)) | (apply And.intro; (first | rfl | (with_reducible assumption) | exact Nat.le_of_ble_eq_true rfl | omega | (simp <;> omega))) | (refine ACall.to (ha9 _) ?_))) <;> (try (conv => whnf))
    all_goals exact hf1
  · have ha1 := fun H => around_f q hqb.1 hqb.2 es.length (by omega) (by omega) H
    have ha2 := fun H => around_f q hqb.1 hqb.2 fs.length (by omega) (by omega) H
    have hi := aro_lt (n := q) (m := es.length) (by omega)
    have hj := aro_lt (n := q) (m := fs.length) (by omega)
    generalize aro q es.length = i at *
    generalize aro q fs.length = j at *
    rw [hq] at ha1 ha2
    obtain ⟨x, hx⟩ : ∃ x, es[i]? = some x := ⟨_, List.getElem?_eq_getElem hi⟩
    obtain ⟨z, hz⟩ : ∃ z, fs[j]? = some z := ⟨_, List.getElem?_eq_getElem hj⟩
    have fE : ∀ x', (es.set i x').length = es.length := fun x' => List.length_set
    have fF : ∀ x', (fs.set j x').length = fs.length := fun x' => List.length_set
    rcases (show k = 0 ∨ k = 1 ∨ k = 2 ∨ k = 3 ∨ k = 4 ∨ k = 5 ∨ k = 6 ∨ k = 7 ∨ k = 8 by omega) with rfl | rfl | rfl | rfl | rfl | rfl | rfl | rfl | rfl
    · have hw := edL_wrZ (b := ⟨by', x.b, x.d, x.w⟩) hx (j := 0) (a := .int .i64 by') (by decide) rfl
      have hT4 := T4 r1 r2 0 0 0 es (es.set i ⟨by', x.b, x.d, x.w⟩) fs hne
      have hf1 := fin r1 r2 0 0 (es.set i ⟨by', x.b, x.d, x.w⟩) fs hr1 hr2 hne (by rw [fE]; omega) (by omega) _ hT4
      rw [fE, ← hw] at hf1
      skip
      generalize twoH H r1 0 r2 0 es fs = G at *
      (repeat' ((conv => whnf); first | refine Then.mk ?_ | left | refine OpsA.cons ?_ | refine OpsA.nil ?_ | refine AWq.seq ?_ | refine AWq.region ?_ | refine AWq.cond ?_ | refine AWq.block ?_ | refine AWq.skip ?_ | refine AWq.ret ?_ | refine AWq.exit ?_ | refine AWq.loop ?_ | (refine Both.mk ?_ ?_ <;> intro hc <;> (first | exact Bool.noConfusion hc | (exfalso; omega) | skip)) | (intro c hc; (try (simp only [AH.none_iff] at hc; repeat (have hn := hc.1; replace hc := hc.2))); (first | (refine i64_k hc ?_ ?_ ?_ ; omega; omega; (clear hc; intro hc; subst hc)) | subst hc | skip)) | (apply Exists.intro; apply And.intro; (first | (focus (repeat (first | (with_reducible assumption))); done))) | (apply Exists.intro; apply And.intro; first | (with_reducible assumption) | ((try simp only [List.getElem?_drop, Nat.mul_one, Nat.add_zero, Nat.zero_add]); first | (with_reducible assumption) | rfl)) | (apply And.intro; (first | rfl | (with_reducible assumption) | exact Nat.le_of_ble_eq_true rfl | omega | (simp <;> omega))) | (refine ACall.to (ha9 _) ?_) | (refine ACall.to (ha1 _) ?_) | (refine ACall.to (ha2 _) ?_))) <;> (try (conv => whnf))
      exact hf1
    · have hw := edL_wrZ (b := ⟨x.a, by', x.d, x.w⟩) hx (j := 1) (a := .int .i64 by') (by decide) rfl
      have hT4 := T4 r1 r2 0 0 0 es (es.set i ⟨x.a, by', x.d, x.w⟩) fs hne
      have hf1 := fin r1 r2 0 0 (es.set i ⟨x.a, by', x.d, x.w⟩) fs hr1 hr2 hne (by rw [fE]; omega) (by omega) _ hT4
      rw [fE, ← hw] at hf1
      skip
      generalize twoH H r1 0 r2 0 es fs = G at *
      (repeat' ((conv => whnf); first | refine Then.mk ?_ | left | refine OpsA.cons ?_ | refine OpsA.nil ?_ | refine AWq.seq ?_ | refine AWq.region ?_ | refine AWq.cond ?_ | refine AWq.block ?_ | refine AWq.skip ?_ | refine AWq.ret ?_ | refine AWq.exit ?_ | refine AWq.loop ?_ | (refine Both.mk ?_ ?_ <;> intro hc <;> (first | exact Bool.noConfusion hc | (exfalso; omega) | skip)) | (intro c hc; (try (simp only [AH.none_iff] at hc; repeat (have hn := hc.1; replace hc := hc.2))); (first | (refine i64_k hc ?_ ?_ ?_ ; omega; omega; (clear hc; intro hc; subst hc)) | subst hc | skip)) | (apply Exists.intro; apply And.intro; (first | (focus (repeat (first | (with_reducible assumption))); done))) | (apply Exists.intro; apply And.intro; first | (with_reducible assumption) | ((try simp only [List.getElem?_drop, Nat.mul_one, Nat.add_zero, Nat.zero_add]); first | (with_reducible assumption) | rfl)) | (apply And.intro; (first | rfl | (with_reducible assumption) | exact Nat.le_of_ble_eq_true rfl | omega | (simp <;> omega))) | (refine ACall.to (ha9 _) ?_) | (refine ACall.to (ha1 _) ?_) | (refine ACall.to (ha2 _) ?_))) <;> (try (conv => whnf))
      exact hf1
    · have hw := edL_wrZ (b := ⟨x.a, x.b, by', x.w⟩) hx (j := 2) (a := .int .i64 by') (by decide) rfl
      have hT4 := T4 r1 r2 0 0 0 es (es.set i ⟨x.a, x.b, by', x.w⟩) fs hne
      have hf1 := fin r1 r2 0 0 (es.set i ⟨x.a, x.b, by', x.w⟩) fs hr1 hr2 hne (by rw [fE]; omega) (by omega) _ hT4
      rw [fE, ← hw] at hf1
      skip
      generalize twoH H r1 0 r2 0 es fs = G at *
      (repeat' ((conv => whnf); first | refine Then.mk ?_ | left | refine OpsA.cons ?_ | refine OpsA.nil ?_ | refine AWq.seq ?_ | refine AWq.region ?_ | refine AWq.cond ?_ | refine AWq.block ?_ | refine AWq.skip ?_ | refine AWq.ret ?_ | refine AWq.exit ?_ | refine AWq.loop ?_ | (refine Both.mk ?_ ?_ <;> intro hc <;> (first | exact Bool.noConfusion hc | (exfalso; omega) | skip)) | (intro c hc; (try (simp only [AH.none_iff] at hc; repeat (have hn := hc.1; replace hc := hc.2))); (first | (refine i64_k hc ?_ ?_ ?_ ; omega; omega; (clear hc; intro hc; subst hc)) | subst hc | skip)) | (apply Exists.intro; apply And.intro; (first | (focus (repeat (first | (with_reducible assumption))); done))) | (apply Exists.intro; apply And.intro; first | (with_reducible assumption) | ((try simp only [List.getElem?_drop, Nat.mul_one, Nat.add_zero, Nat.zero_add]); first | (with_reducible assumption) | rfl)) | (apply And.intro; (first | rfl | (with_reducible assumption) | exact Nat.le_of_ble_eq_true rfl | omega | (simp <;> omega))) | (refine ACall.to (ha9 _) ?_) | (refine ACall.to (ha1 _) ?_) | (refine ACall.to (ha2 _) ?_))) <;> (try (conv => whnf))
      exact hf1
    · have hw := edL_wrZ (b := ⟨x.a, x.b, x.d, by'⟩) hx (j := 3) (a := .int .i64 by') (by decide) rfl
      have hT4 := T4 r1 r2 0 0 0 es (es.set i ⟨x.a, x.b, x.d, by'⟩) fs hne
      have hf1 := fin r1 r2 0 0 (es.set i ⟨x.a, x.b, x.d, by'⟩) fs hr1 hr2 hne (by rw [fE]; omega) (by omega) _ hT4
      rw [fE, ← hw] at hf1
      skip
      generalize twoH H r1 0 r2 0 es fs = G at *
      (repeat' ((conv => whnf); first | refine Then.mk ?_ | left | refine OpsA.cons ?_ | refine OpsA.nil ?_ | refine AWq.seq ?_ | refine AWq.region ?_ | refine AWq.cond ?_ | refine AWq.block ?_ | refine AWq.skip ?_ | refine AWq.ret ?_ | refine AWq.exit ?_ | refine AWq.loop ?_ | (refine Both.mk ?_ ?_ <;> intro hc <;> (first | exact Bool.noConfusion hc | (exfalso; omega) | skip)) | (intro c hc; (try (simp only [AH.none_iff] at hc; repeat (have hn := hc.1; replace hc := hc.2))); (first | (refine i64_k hc ?_ ?_ ?_ ; omega; omega; (clear hc; intro hc; subst hc)) | subst hc | skip)) | (apply Exists.intro; apply And.intro; (first | (focus (repeat (first | (with_reducible assumption))); done))) | (apply Exists.intro; apply And.intro; first | (with_reducible assumption) | ((try simp only [List.getElem?_drop, Nat.mul_one, Nat.add_zero, Nat.zero_add]); first | (with_reducible assumption) | rfl)) | (apply And.intro; (first | rfl | (with_reducible assumption) | exact Nat.le_of_ble_eq_true rfl | omega | (simp <;> omega))) | (refine ACall.to (ha9 _) ?_) | (refine ACall.to (ha1 _) ?_) | (refine ACall.to (ha2 _) ?_))) <;> (try (conv => whnf))
      exact hf1
    · have hw := fxL_wrZ (b := ⟨by', z.v, z.w⟩) hz (j := 0) (a := .int .i64 by') (by decide) rfl
      have hT3 := T3 r1 r2 0 0 0 es fs (fs.set j ⟨by', z.v, z.w⟩)
      have hf1 := fin r1 r2 0 0 es (fs.set j ⟨by', z.v, z.w⟩) hr1 hr2 hne (by omega) (by rw [fF]; omega) _ hT3
      rw [fF, ← hw] at hf1
      generalize twoH H r1 0 r2 0 es fs = G at *
      (repeat' ((conv => whnf); first | refine Then.mk ?_ | left | refine OpsA.cons ?_ | refine OpsA.nil ?_ | refine AWq.seq ?_ | refine AWq.region ?_ | refine AWq.cond ?_ | refine AWq.block ?_ | refine AWq.skip ?_ | refine AWq.ret ?_ | refine AWq.exit ?_ | refine AWq.loop ?_ | (refine Both.mk ?_ ?_ <;> intro hc <;> (first | exact Bool.noConfusion hc | (exfalso; omega) | skip)) | (intro c hc; (try (simp only [AH.none_iff] at hc; repeat (have hn := hc.1; replace hc := hc.2))); (first | (refine i64_k hc ?_ ?_ ?_ ; omega; omega; (clear hc; intro hc; subst hc)) | subst hc | skip)) | (apply Exists.intro; apply And.intro; (first | (focus (repeat (first | (with_reducible assumption))); done))) | (apply Exists.intro; apply And.intro; first | (with_reducible assumption) | ((try simp only [List.getElem?_drop, Nat.mul_one, Nat.add_zero, Nat.zero_add]); first | (with_reducible assumption) | rfl)) | (apply And.intro; (first | rfl | (with_reducible assumption) | exact Nat.le_of_ble_eq_true rfl | omega | (simp <;> omega))) | (refine ACall.to (ha9 _) ?_) | (refine ACall.to (ha1 _) ?_) | (refine ACall.to (ha2 _) ?_))) <;> (try (conv => whnf))
      exact hf1
    · have hw := fxL_wrZ (b := ⟨z.a, by', z.w⟩) hz (j := 1) (a := .int .i64 by') (by decide) rfl
      have hT3 := T3 r1 r2 0 0 0 es fs (fs.set j ⟨z.a, by', z.w⟩)
      have hf1 := fin r1 r2 0 0 es (fs.set j ⟨z.a, by', z.w⟩) hr1 hr2 hne (by omega) (by rw [fF]; omega) _ hT3
      rw [fF, ← hw] at hf1
      generalize twoH H r1 0 r2 0 es fs = G at *
      (repeat' ((conv => whnf); first | refine Then.mk ?_ | left | refine OpsA.cons ?_ | refine OpsA.nil ?_ | refine AWq.seq ?_ | refine AWq.region ?_ | refine AWq.cond ?_ | refine AWq.block ?_ | refine AWq.skip ?_ | refine AWq.ret ?_ | refine AWq.exit ?_ | refine AWq.loop ?_ | (refine Both.mk ?_ ?_ <;> intro hc <;> (first | exact Bool.noConfusion hc | (exfalso; omega) | skip)) | (intro c hc; (try (simp only [AH.none_iff] at hc; repeat (have hn := hc.1; replace hc := hc.2))); (first | (refine i64_k hc ?_ ?_ ?_ ; omega; omega; (clear hc; intro hc; subst hc)) | subst hc | skip)) | (apply Exists.intro; apply And.intro; (first | (focus (repeat (first | (with_reducible assumption))); done))) | (apply Exists.intro; apply And.intro; first | (with_reducible assumption) | ((try simp only [List.getElem?_drop, Nat.mul_one, Nat.add_zero, Nat.zero_add]); first | (with_reducible assumption) | rfl)) | (apply And.intro; (first | rfl | (with_reducible assumption) | exact Nat.le_of_ble_eq_true rfl | omega | (simp <;> omega))) | (refine ACall.to (ha9 _) ?_) | (refine ACall.to (ha1 _) ?_) | (refine ACall.to (ha2 _) ?_))) <;> (try (conv => whnf))
      exact hf1
    · have hw := fxL_wrZ (b := ⟨z.a, z.v, by'⟩) hz (j := 2) (a := .int .i64 by') (by decide) rfl
      have hT3 := T3 r1 r2 0 0 0 es fs (fs.set j ⟨z.a, z.v, by'⟩)
      have hf1 := fin r1 r2 0 0 es (fs.set j ⟨z.a, z.v, by'⟩) hr1 hr2 hne (by omega) (by rw [fF]; omega) _ hT3
      rw [fF, ← hw] at hf1
      generalize twoH H r1 0 r2 0 es fs = G at *
      (repeat' ((conv => whnf); first | refine Then.mk ?_ | left | refine OpsA.cons ?_ | refine OpsA.nil ?_ | refine AWq.seq ?_ | refine AWq.region ?_ | refine AWq.cond ?_ | refine AWq.block ?_ | refine AWq.skip ?_ | refine AWq.ret ?_ | refine AWq.exit ?_ | refine AWq.loop ?_ | (refine Both.mk ?_ ?_ <;> intro hc <;> (first | exact Bool.noConfusion hc | (exfalso; omega) | skip)) | (intro c hc; (try (simp only [AH.none_iff] at hc; repeat (have hn := hc.1; replace hc := hc.2))); (first | (refine i64_k hc ?_ ?_ ?_ ; omega; omega; (clear hc; intro hc; subst hc)) | subst hc | skip)) | (apply Exists.intro; apply And.intro; (first | (focus (repeat (first | (with_reducible assumption))); done))) | (apply Exists.intro; apply And.intro; first | (with_reducible assumption) | ((try simp only [List.getElem?_drop, Nat.mul_one, Nat.add_zero, Nat.zero_add]); first | (with_reducible assumption) | rfl)) | (apply And.intro; (first | rfl | (with_reducible assumption) | exact Nat.le_of_ble_eq_true rfl | omega | (simp <;> omega))) | (refine ACall.to (ha9 _) ?_) | (refine ACall.to (ha1 _) ?_) | (refine ACall.to (ha2 _) ?_))) <;> (try (conv => whnf))
      exact hf1
    · have hw := edL_wrZ (b := ⟨x.a, x.a, x.d, x.w⟩) hx (j := 1) (a := .int .i64 x.a) (by decide) rfl
      have hT4 := T4 r1 r2 0 0 0 es (es.set i ⟨x.a, x.a, x.d, x.w⟩) fs hne
      have hf1 := fin r1 r2 0 0 (es.set i ⟨x.a, x.a, x.d, x.w⟩) fs hr1 hr2 hne (by rw [fE]; omega) (by omega) _ hT4
      rw [fE, ← hw] at hf1
      have g0 : (edL es)[(i : Int).toNat * 4]? = some (.int .i64 x.a) := edL_get hx 0 (by decide)
      generalize twoH H r1 0 r2 0 es fs = G at *
      (repeat' ((conv => whnf); first | refine Then.mk ?_ | left | refine OpsA.cons ?_ | refine OpsA.nil ?_ | refine AWq.seq ?_ | refine AWq.region ?_ | refine AWq.cond ?_ | refine AWq.block ?_ | refine AWq.skip ?_ | refine AWq.ret ?_ | refine AWq.exit ?_ | refine AWq.loop ?_ | (refine Both.mk ?_ ?_ <;> intro hc <;> (first | exact Bool.noConfusion hc | (exfalso; omega) | skip)) | (intro c hc; (try (simp only [AH.none_iff] at hc; repeat (have hn := hc.1; replace hc := hc.2))); (first | (refine i64_k hc ?_ ?_ ?_ ; omega; omega; (clear hc; intro hc; subst hc)) | subst hc | skip)) | (apply Exists.intro; apply And.intro; (first | (focus (repeat (first | (with_reducible assumption))); done))) | (apply Exists.intro; apply And.intro; first | (with_reducible assumption) | ((try simp only [List.getElem?_drop, Nat.mul_one, Nat.add_zero, Nat.zero_add]); first | (with_reducible assumption) | rfl)) | (apply And.intro; (first | rfl | (with_reducible assumption) | exact Nat.le_of_ble_eq_true rfl | omega | (simp <;> omega))) | (refine ACall.to (ha9 _) ?_) | (refine ACall.to (ha1 _) ?_) | (refine ACall.to (ha2 _) ?_))) <;> (try (conv => whnf))
      exact hf1
    · (repeat' ((conv => whnf); first | refine Then.mk ?_ | left | refine OpsA.cons ?_ | refine OpsA.nil ?_ | refine AWq.seq ?_ | refine AWq.region ?_ | refine AWq.cond ?_ | refine AWq.block ?_ | refine AWq.skip ?_ | refine AWq.ret ?_ | refine AWq.exit ?_ | refine AWq.loop ?_ | (refine Both.mk ?_ ?_ <;> intro hc <;> (first | exact Bool.noConfusion hc | (exfalso; omega) | skip)) | (intro c hc; (try (simp only [AH.none_iff] at hc; repeat (have hn := hc.1; replace hc := hc.2))); (first | (refine i64_k hc ?_ ?_ ?_ ; omega; omega; (clear hc; intro hc; subst hc)) | subst hc | skip)) | (apply Exists.intro; apply And.intro; (first | (focus (repeat (first | (with_reducible assumption))); done))) | (apply Exists.intro; apply And.intro; first | (with_reducible assumption) | ((try simp only [List.getElem?_drop, Nat.mul_one, Nat.add_zero, Nat.zero_add]); first | (with_reducible assumption) | rfl)) | (apply And.intro; (first | rfl | (with_reducible assumption) | exact Nat.le_of_ble_eq_true rfl | omega | (simp <;> omega))) | (refine ACall.to (ha9 _) ?_) | (refine ACall.to (ha1 _) ?_) | (refine ACall.to (ha2 _) ?_))) <;> (try (conv => whnf))
      obtain ⟨y, hy⟩ : ∃ y, fs[0]? = some y := ⟨_, List.getElem?_eq_getElem (by omega)⟩
      refine AWp_loop (σ := Nat) (11 :: 48 :: 49 :: 50 :: 51 :: 52 :: 53 :: 54 :: 55 :: 56 :: 57 :: 58 :: 59 :: []) (fun m => [(11, .sl r2 m 3 0 (fs.length + m) none)]) (fun m => twoH H r1 0 r2 m es (fs ++ List.replicate m y)) (fun m => m ≤ 9000) (fun m => 9000 - m) 0 rfl (Nat.zero_le _) ⟨rfl, trivial⟩ (HLe.of_eq (by simp)) ?_
      intro m hm
      refine AWp.of tt_ok (dok _) rfl ?_
      dsimp only at hm ⊢
      have hLl : (fs ++ List.replicate m y).length = fs.length + m := by simp
      have hfl2 : (fxL (fs ++ List.replicate m y)).length = (fs.length + m) * 3 := by rw [fxL_len, hLl]
      have hT2' := T2 r1 r2 0 m es (fs ++ List.replicate m y)
      have hy2 : (fs ++ List.replicate m y)[0]? = some y := by rw [List.getElem?_append_left (by omega)]; exact hy
      have hR : fxL (fs ++ List.replicate m y) = .int .i64 y.a :: .int .i64 y.v :: .int .i64 y.w :: fxL (fs.tail ++ List.replicate m y) := by
        cases fs with
        | nil => simp at hy
        | cons q fs => simp at hy; subst hy; rfl
      have hT3' := T3 r1 r2 0 m (m + 1) es (fs ++ List.replicate m y) (fs ++ List.replicate (m + 1) y)
      have hsn : fxL (fs ++ List.replicate (m + 1) y) = fxL (fs ++ List.replicate m y) ++ fxA y := by
        rw [List.replicate_succ', ← List.append_assoc]; exact (fL_snoc fxA _ _).symm
      have hone := fxL_one (fs ++ List.replicate m y)
      by_cases hlt : fs.length + m < 8191 + b3
      · generalize twoH H r1 0 r2 m es (fs ++ List.replicate m y) = G1 at *
        generalize hG2 : twoH H r1 0 r2 (m + 1) es (fs ++ List.replicate (m + 1) y) = G2 at *
        rw [hsn] at hT3'
        rw [hR] at hT3' hT2' hfl2 hone
        generalize fxL (fs.tail ++ List.replicate m y) = R at *
        (repeat' ((conv => whnf); first | refine Then.mk ?_ | left | refine OpsA.cons ?_ | refine OpsA.nil ?_ | refine AWq.seq ?_ | refine AWq.region ?_ | refine AWq.cond ?_ | refine AWq.block ?_ | refine AWq.skip ?_ | refine AWq.ret ?_ | refine AWq.exit ?_ | refine AWq.loop ?_ | (refine Both.mk ?_ ?_ <;> intro hc <;> (first | exact Bool.noConfusion hc | (exfalso; omega) | skip)) | (intro c hc; (try (simp only [AH.none_iff] at hc; repeat (have hn := hc.1; replace hc := hc.2))); (first | (refine i64_k hc ?_ ?_ ?_ ; omega; omega; (clear hc; intro hc; subst hc)) | subst hc | skip)) | (apply Exists.intro; apply And.intro; (first | (focus (repeat (first | (with_reducible assumption))); done))) | (apply Exists.intro; apply And.intro; first | (with_reducible assumption) | ((try simp only [List.getElem?_drop, Nat.mul_one, Nat.add_zero, Nat.zero_add]); first | (with_reducible assumption) | rfl)) | (apply And.intro; (first | rfl | (with_reducible assumption) | exact Nat.le_of_ble_eq_true rfl | omega | (simp <;> omega))) | (refine ACall.to (hb3 _) ?_))) <;> (try (conv => whnf))
        refine ⟨m + 1, by omega, by omega, ⟨rfl, trivial⟩, HLe.of_eq ?_⟩
        rw [hG2, ← hT3']
        rfl
      · have hf1 := fin r1 r2 0 m es (fs ++ List.replicate m y) hr1 hr2 hne (by omega) (by omega) _ rfl
        rw [hLl] at hf1
        (repeat' ((conv => whnf); first | refine Then.mk ?_ | left | refine OpsA.cons ?_ | refine OpsA.nil ?_ | refine AWq.seq ?_ | refine AWq.region ?_ | refine AWq.cond ?_ | refine AWq.block ?_ | refine AWq.skip ?_ | refine AWq.ret ?_ | refine AWq.exit ?_ | refine AWq.loop ?_ | (refine Both.mk ?_ ?_ <;> intro hc <;> (first | exact Bool.noConfusion hc | (exfalso; omega) | skip)) | (intro c hc; (try (simp only [AH.none_iff] at hc; repeat (have hn := hc.1; replace hc := hc.2))); (first | (refine i64_k hc ?_ ?_ ?_ ; omega; omega; (clear hc; intro hc; subst hc)) | subst hc | skip)) | (apply Exists.intro; apply And.intro; (first | (focus (repeat (first | (with_reducible assumption))); done))) | (apply Exists.intro; apply And.intro; first | (with_reducible assumption) | ((try simp only [List.getElem?_drop, Nat.mul_one, Nat.add_zero, Nat.zero_add]); first | (with_reducible assumption) | rfl)) | (apply And.intro; (first | rfl | (with_reducible assumption) | exact Nat.le_of_ble_eq_true rfl | omega | (simp <;> omega))) | (refine ACall.to (hb3 _) ?_))) <;> (try (conv => whnf))
        exact hf1
end Go.Proofs.Ytebflkgpbbjhnaa
/- The walks of the reference: Loose. -/
namespace Go.Proofs.Ytebflkgpbbjhnaa
open Go.Fw Go
set_option linter.unusedVariables false
set_option linter.unusedSimpArgs false

/-- Truths of a function. -/
def qL (n : Nat) (b : Nat → Bool) : List AV := fnL n fun v => AV.bool (b v)
@[simp] theorem qL_len (n : Nat) (b : Nat → Bool) : (qL n b).length = n := by simp [qL]
end Go.Proofs.Ytebflkgpbbjhnaa
/- The law BalanceScales: the contract of the law's function. -/
namespace Go.Proofs.Ytebflkgpbbjhnaa
open Go.Fw Go
set_option linter.unusedVariables false
set_option linter.unusedSimpArgs false

/-- Solve's cost, the least one. -/
structure Least (es : List Ed) (fs : List Fx) (c : Int) : Prop where
  hit : ∃ q, costP es fs q = c
  low : ∀ q, c ≤ costP es fs q
theorem Least.one {es : List Ed} {fs : List Fx} {c d : Int} (h : Least es fs c) (k : Least es fs d) : c = d := by
  obtain ⟨p, hp⟩ := h.hit
  obtain ⟨q, hq⟩ := k.hit
  have := h.low q
  have := k.low p
  omega
theorem pr_valid {n most : Nat} (hn : n ≤ 10) (hm : most ≤ 65535) (l : List Int) : (∀ x ∈ prES n most l, (vE n x ∧ (-(most : Int) ≤ x.d ∧ x.d ≤ most) ∧ x.w ≤ 9)) ∧ (∀ x ∈ prFS n most l, (vF n x ∧ (-(most : Int) ≤ x.v ∧ x.v ≤ most) ∧ x.w ≤ 9)) ∧ (prES n most l).length ≤ 12 ∧ (prFS n most l).length ≤ 5 := by
  have p0 := pickV_lt (l := l) (i := 0) (m := 12) (by decide)
  have p1 := pickV_lt (l := l) (i := 1) (m := 5) (by decide)
  refine ⟨fun x hx => ?_, fun x hx => ?_, ?_, ?_⟩
  · obtain ⟨i, hi, rfl⟩ := List.mem_map.1 hx
    have hi : i < prN n l := by simpa using hi
    have h1n : 1 < n := by unfold prN at hi; split at hi <;> omega
    have lA := pickV_lt (l := l) (i := 4 * (i : Int) + 1) (m := n) (by omega)
    have lB := pickV_lt (l := l) (i := 4 * (i : Int) + 2) (m := n - 1) (by omega)
    have lD := pickV_lt (l := l) (i := 4 * (i : Int) + 3) (m := 2 * most + 1) (by omega)
    have lW := pickV_lt (l := l) (i := 4 * (i : Int) + 4) (m := 9) (by omega)
    unfold prE vE
    dsimp only
    generalize pickV l (4 * (i : Int) + 1) n = a at *
    generalize pickV l (4 * (i : Int) + 2) (n - 1) = b at *
    have hab : a ≠ (a + 1 + b) % n := by
      by_cases h : a + 1 + b < n
      · rw [Nat.mod_eq_of_lt h]; omega
      · rw [Nat.mod_eq_sub_mod (by omega), Nat.mod_eq_of_lt (by omega)]; omega
    have hlt := Nat.mod_lt (a + 1 + b) (show n > 0 by omega)
    generalize (a + 1 + b) % n = m at *
    refine ⟨⟨by omega, by omega, by omega, by omega, by omega⟩, by omega, by omega⟩
  · obtain ⟨i, hi, rfl⟩ := List.mem_map.1 hx
    have hi : i < prM n l := by simpa using hi
    have h1n : 0 < n := by unfold prM at hi; split at hi <;> omega
    have lA := pickV_lt (l := l) (i := 3 * (i : Int) + 2) (m := n) (by omega)
    have lD := pickV_lt (l := l) (i := 3 * (i : Int) + 5) (m := 2 * most + 1) (by omega)
    have lW := pickV_lt (l := l) (i := 3 * (i : Int) + 4) (m := 7) (by omega)
    unfold prF vF
    dsimp only
    refine ⟨⟨by omega, by omega, by omega⟩, by omega, by omega⟩
  · unfold prES; rw [fnL_len]; unfold prN; split <;> omega
  · unfold prFS; rw [fnL_len]; unfold prM; split <;> omega
theorem valid0 {n : Nat} {es : List Ed} {fs : List Fx} (hn : n ≤ 64) (he : es.length ≤ 8192) (hf : fs.length ≤ 8192) (hE : ∀ x ∈ es, vE n x) (hF : ∀ x ∈ fs, vF n x) : validV n es fs = 0 := by
  unfold validV
  rw [if_neg (by omega), if_neg (by omega), if_pos ⟨hE, hF⟩]
end Go.Proofs.Ytebflkgpbbjhnaa
/- The law BalanceChecks: the contract of the law's function. -/
namespace Go.Proofs.Ytebflkgpbbjhnaa
open Go.Fw Go
set_option linter.unusedVariables false
set_option linter.unusedSimpArgs false

theorem same_c (m : Int) (es : List Ed) (fs : List Fx) (he : es.length ≤ 1000) (hf : fs.length ≤ 10000) (s : Sol) (h1 : s.o.length ≤ 100000) (h2 : s.e.length ≤ 100000) (h3 : s.f.length ≤ 100000) : ∃ e : Int,
    (∀ H, ACall Try.prog 22 [.int .i64 m, .cs (edL es) es.length, .cs (fxL fs) fs.length, .agg [.cs (iS .i64 s.o) s.o.length, .cs (iS .i64 s.e) s.e.length, .cs (iS .i64 s.f) s.f.length, .int .i64 s.c]] H (fun y H' => y = .int .i64 e ∧ H' = H)) ∧
    (∀ H, ACall Try.prog 15 [.int .i64 m, .cs (edL es) es.length, .cs (fxL fs) fs.length, .agg [.cs (iS .i64 s.o) s.o.length, .cs (iS .i64 s.e) s.e.length, .cs (iS .i64 s.f) s.f.length, .int .i64 s.c]] H (fun y H' => y = .int .i64 e ∧ H' = H)) := by
  by_cases hv : validV m es fs = 0
  · obtain ⟨⟨m0, m1⟩, _, _, _⟩ := validV_ok hv
    obtain ⟨k, rfl⟩ : ∃ k : Nat, m = (k : Int) := ⟨m.toNat, by omega⟩
    by_cases hP : ChkP k es fs s.o s.e s.f s.c
    · exact ⟨0, fun H => check_c k es fs hv s.o s.e s.f s.c (by omega) (by omega) (by omega) 0 (fun _ => rfl) (fun h => absurd hP h) H, fun H => rcheck_c k es fs hv s.o s.e s.f s.c (by omega) (by omega) (by omega) 0 (fun _ => rfl) (fun h => absurd hP h) H⟩
    · exact ⟨17, fun H => check_c k es fs hv s.o s.e s.f s.c (by omega) (by omega) (by omega) 17 (fun h => absurd h hP) (fun _ => rfl) H, fun H => rcheck_c k es fs hv s.o s.e s.f s.c (by omega) (by omega) (by omega) 17 (fun h => absurd h hP) (fun _ => rfl) H⟩
  · exact ⟨validV m es fs, fun H => check_bad m es fs (by omega) (by omega) hv _ _ _ _ H, fun H => rcheck_bad m es fs (by omega) (by omega) hv _ _ _ _ _ _ _ H⟩
set_option maxHeartbeats 8000000 in
set_option maxRecDepth 8000 in
theorem BalanceChecks_c (x0 : Int) (hx0 : -9223372036854775808 ≤ x0 ∧ x0 ≤ 9223372036854775807) (l1 : List Int) (hl1 : l1.length ≤ maxLen) (hr1 : ∀ n ∈ l1, -9223372036854775808 ≤ n ∧ n ≤ 9223372036854775807) (x2 : Int) (hx2 : -9223372036854775808 ≤ x2 ∧ x2 ≤ 9223372036854775807) (x3 : Int) (hx3 : -9223372036854775808 ≤ x3 ∧ x3 ≤ 9223372036854775807) (l4 : List Int) (hl4 : l4.length ≤ maxLen) (hr4 : ∀ n ∈ l4, -9223372036854775808 ≤ n ∧ n ≤ 9223372036854775807) :
    ACall Try.prog 5 [.int .i64 x0, .cs (iS .i64 l1) l1.length, .int .i64 x2, .int .i64 x3, .cs (iS .i64 l4) l4.length] (fun _ => none) (fun y _ => y = .bool true) := by
  have ha1 : ∀ H, ACall Try.prog 11 [.int .i64 x0, .int .i64 6] H (fun y H' => y = .int .i64 (aro x0 6) ∧ H' = H) := fun H => around_f x0 hx0.1 hx0.2 6 (by decide) (by decide) H
  have hn := aro_lt (n := x0) (m := 6) (by decide)
  generalize aro x0 6 = n at *
  have hpr : ∀ H, ACall Try.prog 12 [.int .i64 n, .cs (iS .i64 l1) l1.length, .int .i64 9] H (fun y H' => y = .tup [.cs (edL (prES n 9 l1)) (prES n 9 l1).length, .cs (fxL (prFS n 9 l1)) (prFS n 9 l1).length] ∧ H' = H) := fun H => problem_c n 9 (by omega) (by decide) l1 hr1 hl1 H
  obtain ⟨v1, v2, v3, v4⟩ := pr_valid (n := n) (most := 9) (by omega) (by decide) l1
  generalize prES n 9 l1 = es at *
  generalize prFS n 9 l1 = fs at *
  have hvz : validV n es fs = 0 := valid0 (by omega) (by omega) (by omega) (fun x hx => (v1 x hx).1) (fun x hx => (v2 x hx).1)
  have r1 := fun H => real_c es fs (by omega) (by omega) H
  have s1 := fun H => solve_c n es fs hvz H
  have hsp := fun H => spoilt_c es fs (by omega) (by omega) x2 x3 hx2 hx3 H
  have hil4 := iS_length .i64 l4
  have hel := edL_len es
  have hfl := fxL_len fs
  have e3 : List.take (min (l4.length : Int) n).toNat (iS .i64 l4) = iS .i64 (l4.take (min l4.length n)) := by
    rw [iS_take]; congr 2; omega
  have e4 : (min (l4.length : Int) n).toNat = (l4.take (min l4.length n)).length := by rw [List.length_take]; omega
  obtain ⟨L7, hL7⟩ : ∃ L7, L7 = l4.take (min l4.length n) := ⟨_, rfl⟩
  have hL7l : L7.length ≤ n := by rw [hL7, List.length_take]; omega
  rw [← hL7] at e3 e4
  have c3 := fun H => rcost_c es fs L7 (by omega) (by omega) (by omega) H
  rw [← e3, ← e4] at c3
  generalize (fun _ => none : AH) = H0
  refine ACall_of tt_ok (dok _) Try.func5 rfl (by decide) rfl ?_
  (repeat' ((conv => whnf); first | refine Then.mk ?_ | left | refine OpsA.cons ?_ | refine OpsA.nil ?_ | refine AWq.seq ?_ | refine AWq.region ?_ | refine AWq.cond ?_ | refine AWq.block ?_ | refine AWq.skip ?_ | refine AWq.ret ?_ | refine AWq.exit ?_ | refine AWq.loop ?_ | refine DrawA.consD ?_ | refine DrawA.nil ?_ | refine AWq.draw (by decide +kernel) ?_ | (refine Both.mk ?_ ?_ <;> intro hc <;> (first | exact Bool.noConfusion hc | exact absurd (by with_reducible rfl) hc | (exfalso; omega) | skip)) | (intro c hc; (try (simp only [AH.none_iff] at hc; repeat (have hn := hc.1; replace hc := hc.2))); (first | (refine i64_k hc ?_ ?_ ?_ ; omega; omega; (clear hc; intro hc; subst hc)) | subst hc | skip)) | (apply Exists.intro; apply And.intro; (first | (focus (repeat (first | (with_reducible assumption) | (with_reducible exact AH.set_same _ _ _))); done))) | (apply Exists.intro; apply And.intro; first | (with_reducible assumption) | ((try simp only [List.getElem?_drop, Nat.mul_one, Nat.add_zero, Nat.zero_add]); first | (with_reducible assumption) | rfl)) | (apply Exists.intro; apply And.intro; (focus (intro G; ((conv => whnf); (try left); (conv => whnf); first | exact And.intro rfl rfl | (intro c hc; subst hc; exact And.intro rfl rfl))))) | (apply And.intro; (first | rfl | (with_reducible assumption) | exact Nat.le_of_ble_eq_true rfl | omega | (simp <;> fail))) | (refine ACall.to (ha1 _) ?_) | (refine ACall.to (hpr _) ?_) | (refine ACall.to (r1 _) ?_))) <;> (try (conv => whnf))
  refine ACall.mono (s1 _) ?_
  rintro y H2 ⟨A, dd, oo, hSv, rfl, rfl⟩
  obtain ⟨⟨_, hn64⟩, _, hE, hF⟩ := validV_ok hvz
  obtain ⟨_, _, _, f4, f5⟩ := hSv.flows hE hF
  obtain ⟨sa, hsa⟩ : ∃ sa : Sol, sa = ⟨fnL n (offS n dd oo), flE es A, flF es A, (costR es fs (fnL n (offS n dd oo))).1⟩ := ⟨_, rfl⟩
  have hsv : solV n es fs A dd oo = .tup [.agg [.cs (iS .i64 sa.o) sa.o.length, .cs (iS .i64 sa.e) sa.e.length, .cs (iS .i64 sa.f) sa.f.length, .int .i64 sa.c], .int .i64 0] := by
    unfold solV; rw [hsa]; dsimp only; rw [fnL_len, f4, f5]
  have z1 : sa.o.length ≤ 100 := by rw [hsa]; dsimp only; rw [fnL_len]; omega
  have z2 : sa.e.length ≤ 100 := by rw [hsa]; dsimp only; omega
  have z3 : sa.f.length ≤ 100 := by rw [hsa]; dsimp only; omega
  rw [hsv]
  clear hsv hSv hsa s1 f4 f5
  have hb1 := fun H => bent_c sa (by omega) (by omega) (by omega) x2 x3 hx2 hx3 H
  have hm3 : -3 < x3.tmod 3 ∧ x3.tmod 3 < 3 := by
    have h1 := Int.tmod_lt_of_pos x3 (show (0 : Int) < 3 by decide)
    have h2 : -3 < x3.tmod 3 := by
      have := Int.tmod_lt_of_pos (-x3) (show (0 : Int) < 3 by decide)
      rw [Int.neg_tmod] at this
      omega
    exact ⟨h2, h1⟩
  have hb2 := fun H => bent_c sa (by omega) (by omega) (by omega) x2 (x3.tmod 3) hx2 ⟨by omega, by omega⟩ H
  have k1 := bentV_len x2 x3 sa
  have k2 := bentV_len x2 (x3.tmod 3) sa
  generalize bentV x2 x3 sa = sb at *
  generalize bentV x2 (x3.tmod 3) sa = sc at *
  (repeat' ((conv => whnf); first | left | refine OpsA.cons ?_ | refine OpsA.nil ?_ | refine AWq.seq ?_ | refine AWq.region ?_ | refine AWq.cond ?_ | refine AWq.block ?_ | refine AWq.skip ?_ | refine AWq.ret ?_ | refine AWq.exit ?_ | refine AWq.loop ?_ | refine DrawA.consD ?_ | refine DrawA.nil ?_ | refine AWq.draw (by decide +kernel) ?_ | (refine Both.mk ?_ ?_ <;> intro hc <;> (first | exact Bool.noConfusion hc | exact absurd (by with_reducible rfl) hc | (exfalso; omega) | skip)) | (intro c hc; (try (simp only [AH.none_iff] at hc; repeat (have hn := hc.1; replace hc := hc.2))); (first | (refine i64_k hc ?_ ?_ ?_ ; omega; omega; (clear hc; intro hc; subst hc)) | subst hc | skip)) | (apply Exists.intro; apply And.intro; (first | (focus (repeat (first | (with_reducible assumption) | (with_reducible exact AH.set_same _ _ _))); done))) | (apply Exists.intro; apply And.intro; first | (with_reducible assumption) | ((try simp only [List.getElem?_drop, Nat.mul_one, Nat.add_zero, Nat.zero_add]); first | (with_reducible assumption) | rfl)) | (apply Exists.intro; apply And.intro; (focus (intro G; ((conv => whnf); (try left); (conv => whnf); first | exact And.intro rfl rfl | (intro c hc; subst hc; exact And.intro rfl rfl))))) | (apply And.intro; (first | rfl | (with_reducible assumption) | exact Nat.le_of_ble_eq_true rfl | omega | (simp <;> fail))))) <;> (try (conv => whnf))
  refine Then.mk (AWq.in ?_)
  refine AWp_segP 16 [.cs (iS .i64 sa.o) sa.o.length, .cs (iS .i64 sa.e) sa.e.length, .cs (iS .i64 sa.f) sa.f.length, .int .i64 sa.c] rfl rfl (by assumption) rfl rfl ?_
  refine AWp.of tt_ok (dok _) rfl ?_
  (repeat' ((conv => whnf); first | refine Then.mk ?_ | left | refine OpsA.cons ?_ | refine OpsA.nil ?_ | refine AWq.seq ?_ | refine AWq.region ?_ | refine AWq.cond ?_ | refine AWq.block ?_ | refine AWq.skip ?_ | refine AWq.ret ?_ | refine AWq.exit ?_ | refine AWq.loop ?_ | refine DrawA.consD ?_ | refine DrawA.nil ?_ | (refine Both.mk ?_ ?_ <;> intro hc <;> (first | exact Bool.noConfusion hc | exact absurd (by with_reducible rfl) hc | (exfalso; omega) | skip)) | (intro c hc; (try (simp only [AH.none_iff] at hc; repeat (have hn := hc.1; replace hc := hc.2))); (first | (refine i64_k hc ?_ ?_ ?_ ; omega; omega; (clear hc; intro hc; subst hc)) | subst hc | skip)) | (apply Exists.intro; apply And.intro; (first | (focus (repeat (first | (with_reducible assumption) | (with_reducible exact AH.set_same _ _ _))); done))) | (apply Exists.intro; apply And.intro; first | (with_reducible assumption) | ((try simp only [List.getElem?_drop, Nat.mul_one, Nat.add_zero, Nat.zero_add]); first | (with_reducible assumption) | rfl)) | (apply Exists.intro; apply And.intro; (focus (intro G; ((conv => whnf); (try left); (conv => whnf); first | exact And.intro rfl rfl | (intro c hc; subst hc; exact And.intro rfl rfl))))) | (apply And.intro; (first | rfl | (with_reducible assumption) | exact Nat.le_of_ble_eq_true rfl | omega | (simp <;> fail))))) <;> (try (conv => whnf))
  refine AWq.in ?_
  refine AWp_spare fun a ha => ?_
  obtain ⟨nm, k0⟩ : ∃ nm : Nat → Nat, nm 0 = a := ⟨fun k => a, rfl⟩
  subst k0
  refine AWp.of tt_ok (dok _) rfl ?_
  refine AWq.drawK mo [(18, 0)] nm ?_ (by decide +kernel) ?_
  · intro x y hx hy hxy
    simp at hx hy
    rw [hx, hy]
  (repeat' ((conv => whnf); first | refine DrawK.consD ?_ | refine DrawK.nil ?_ | refine Then.mk ?_ | left | refine OpsA.cons ?_ | refine OpsA.nil ?_ | refine AWq.seq ?_ | refine AWq.region ?_ | refine AWq.cond ?_ | refine AWq.block ?_ | refine AWq.skip ?_ | refine AWq.ret ?_ | refine AWq.exit ?_ | refine AWq.loop ?_ | refine DrawA.consD ?_ | refine DrawA.nil ?_ | refine AWq.draw (by decide +kernel) ?_ | (refine Both.mk ?_ ?_ <;> intro hc <;> (first | exact Bool.noConfusion hc | exact absurd (by with_reducible rfl) hc | (exfalso; omega) | skip)) | (intro c hc; (try (simp only [AH.none_iff] at hc; repeat (have hn := hc.1; replace hc := hc.2))); (first | (refine i64_k hc ?_ ?_ ?_ ; omega; omega; (clear hc; intro hc; subst hc)) | subst hc | skip)) | (apply Exists.intro; apply And.intro; (first | (focus (repeat (first | (with_reducible assumption) | (with_reducible exact AH.set_same _ _ _))); done))) | (apply Exists.intro; apply And.intro; first | (with_reducible assumption) | ((try simp only [List.getElem?_drop, Nat.mul_one, Nat.add_zero, Nat.zero_add]); first | (with_reducible assumption) | rfl)) | (apply Exists.intro; apply And.intro; (focus (intro G; ((conv => whnf); (try left); (conv => whnf); first | exact And.intro rfl rfl | (intro c hc; subst hc; exact And.intro rfl rfl))))) | (apply And.intro; (first | rfl | (with_reducible assumption) | exact Nat.le_of_ble_eq_true rfl | omega | (simp <;> fail))))) <;> (try (conv => whnf))
  (repeat' ((conv => whnf); first | left | refine OpsA.cons ?_ | refine OpsA.nil ?_ | refine AWq.seq ?_ | refine AWq.region ?_ | refine AWq.cond ?_ | refine AWq.block ?_ | refine AWq.skip ?_ | refine AWq.ret ?_ | refine AWq.exit ?_ | refine AWq.loop ?_ | refine DrawA.consD ?_ | refine DrawA.nil ?_ | refine AWq.draw (by decide +kernel) ?_ | (refine Both.mk ?_ ?_ <;> intro hc <;> (first | exact Bool.noConfusion hc | exact absurd (by with_reducible rfl) hc | (exfalso; omega) | skip)) | (intro c hc; (try (simp only [AH.none_iff] at hc; repeat (have hn := hc.1; replace hc := hc.2))); (first | (refine i64_k hc ?_ ?_ ?_ ; omega; omega; (clear hc; intro hc; subst hc)) | subst hc | skip)) | (apply Exists.intro; apply And.intro; (first | (focus (repeat (first | (with_reducible assumption) | (with_reducible exact AH.set_same _ _ _))); done))) | (apply Exists.intro; apply And.intro; first | (with_reducible assumption) | ((try simp only [List.getElem?_drop, Nat.mul_one, Nat.add_zero, Nat.zero_add]); first | (with_reducible assumption) | rfl)) | (apply Exists.intro; apply And.intro; (focus (intro G; ((conv => whnf); (try left); (conv => whnf); first | exact And.intro rfl rfl | (intro c hc; subst hc; exact And.intro rfl rfl))))) | (apply And.intro; (first | rfl | (with_reducible assumption) | exact Nat.le_of_ble_eq_true rfl | omega | (simp <;> fail))) | (refine ACall.to (c3 _) ?_))) <;> (try (conv => whnf))
  refine Then.mk (AWq.in ?_)
  obtain ⟨sd, hsd⟩ : ∃ sd : Sol, sd = ⟨L7, fnL es.length fun _ => 0, fnL fs.length fun _ => 0, (costR es fs L7).1⟩ := ⟨_, rfl⟩
  have hz1 : (List.replicate (es.length : Int).toNat [AV.int .i64 0]).flatten = iS .i64 (fnL es.length fun _ => 0) := dL_zero _
  have hz2 : (List.replicate (fs.length : Int).toNat [AV.int .i64 0]).flatten = iS .i64 (fnL fs.length fun _ => 0) := dL_zero _
  have hav : sd.av = [.cs (List.take ((min (l4.length : Int) n).toNat * 1) (iS .i64 l4)) (min (l4.length : Int) n).toNat, .cs (List.replicate (es.length : Int).toNat [AV.int .i64 0]).flatten (es.length : Int).toNat, .cs (List.replicate (fs.length : Int).toNat [AV.int .i64 0]).flatten (fs.length : Int).toNat, .int .i64 (costR es fs L7).1] := by
    rw [Nat.mul_one, e3, e4, hz1, hz2, hsd]
    unfold Sol.av
    simp
  refine AWp_freezeP 18 (r := nm 0) (v := 1) (cells := sd.av) rfl rfl (by rw [hav]; exact AH.set_same _ _ _) ?_
  refine AWp_less H2 (HLe.del _ (HLe.set_of _ _ (HLe.set_of _ _ (HLe.set_of _ _ (HLe.set_of _ _ (HLe.refl _) ha) ha) ha) ha) ha) ?_
  have z4 : sd.o.length ≤ 100 ∧ sd.e.length ≤ 100 ∧ sd.f.length ≤ 100 := by rw [hsd]; dsimp only; rw [fnL_len, fnL_len]; omega
  clear hav hsd hz1 hz2 c3 e3 e4
  refine AWp.of tt_ok (dok _) rfl ?_
  (repeat' ((conv => whnf); first | refine Then.mk ?_ | left | refine OpsA.cons ?_ | refine OpsA.nil ?_ | refine AWq.seq ?_ | refine AWq.region ?_ | refine AWq.cond ?_ | refine AWq.block ?_ | refine AWq.skip ?_ | refine AWq.ret ?_ | refine AWq.exit ?_ | refine AWq.loop ?_ | refine DrawA.consD ?_ | refine DrawA.nil ?_ | refine AWq.draw (by decide +kernel) ?_ | (apply Exists.intro; apply And.intro; exact plain_c _ _ _ _ _ _ _ _) | (apply Exists.intro; apply And.intro; exact hb1 _) | (apply Exists.intro; apply And.intro; exact hb2 _) | (refine Both.mk ?_ ?_ <;> intro hc <;> (first | exact Bool.noConfusion hc | exact absurd (by with_reducible rfl) hc | (exfalso; omega) | skip)) | (intro c hc; (try (simp only [AH.none_iff] at hc; repeat (have hn := hc.1; replace hc := hc.2))); (first | (refine i64_k hc ?_ ?_ ?_ ; omega; omega; (clear hc; intro hc; subst hc)) | subst hc | skip)) | (apply Exists.intro; apply And.intro; (first | (focus (repeat (first | (with_reducible assumption) | (with_reducible exact AH.set_same _ _ _))); done))) | (apply Exists.intro; apply And.intro; first | (with_reducible assumption) | ((try simp only [List.getElem?_drop, Nat.mul_one, Nat.add_zero, Nat.zero_add]); first | (with_reducible assumption) | rfl)) | (apply Exists.intro; apply And.intro; (focus (intro G; ((conv => whnf); (try left); (conv => whnf); first | exact And.intro rfl rfl | (intro c hc; subst hc; exact And.intro rfl rfl))))) | (apply And.intro; (first | rfl | (with_reducible assumption) | exact Nat.le_of_ble_eq_true rfl | omega | (simp <;> fail))))) <;> (try (conv => whnf))
  refine ACall.mono (hsp _) ?_
  rintro y H3 ⟨⟨es', fs', he', hf', rfl⟩, rfl⟩
  have r2 := fun H => real_c es' fs' (by omega) (by omega) H
  clear hb1 hb2 hsp ha
  have same := fun (s : Sol) (h1 : s.o.length ≤ 1000) (h2 : s.e.length ≤ 1000) (h3 : s.f.length ≤ 1000) => same_c n es fs (by omega) (by omega) s (by omega) (by omega) (by omega)
  have same1 := fun (s : Sol) (h1 : s.o.length ≤ 1000) (h2 : s.e.length ≤ 1000) (h3 : s.f.length ≤ 1000) => same_c ((n : Int) + 1) es fs (by omega) (by omega) s (by omega) (by omega) (by omega)
  have same2 := fun (s : Sol) (h1 : s.o.length ≤ 1000) (h2 : s.e.length ≤ 1000) (h3 : s.f.length ≤ 1000) => same_c n es' fs' he' hf' s (by omega) (by omega) (by omega)
  (repeat' ((conv => whnf); first | refine Then.mk ?_ | left | refine OpsA.cons ?_ | refine OpsA.nil ?_ | refine AWq.seq ?_ | refine AWq.region ?_ | refine AWq.cond ?_ | refine AWq.block ?_ | refine AWq.skip ?_ | refine AWq.ret ?_ | refine AWq.exit ?_ | refine AWq.loop ?_ | refine DrawA.consD ?_ | refine DrawA.nil ?_ | refine AWq.draw (by decide +kernel) ?_ | (refine Both.mk ?_ ?_ <;> intro hc <;> (first | exact Bool.noConfusion hc | exact absurd (by with_reducible rfl) hc | (exfalso; omega) | skip)) | (intro c hc; (try (simp only [AH.none_iff] at hc; repeat (have hn := hc.1; replace hc := hc.2))); (first | (refine i64_k hc ?_ ?_ ?_ ; omega; omega; (clear hc; intro hc; subst hc)) | subst hc | skip)) | (apply Exists.intro; apply And.intro; (first | (focus (repeat (first | (with_reducible assumption) | (with_reducible exact AH.set_same _ _ _))); done))) | (apply Exists.intro; apply And.intro; first | (with_reducible assumption) | ((try simp only [List.getElem?_drop, Nat.mul_one, Nat.add_zero, Nat.zero_add]); first | (with_reducible assumption) | rfl)) | (apply Exists.intro; apply And.intro; (focus (intro G; ((conv => whnf); (try left); (conv => whnf); first | exact And.intro rfl rfl | (intro c hc; subst hc; exact And.intro rfl rfl))))) | (apply And.intro; (first | rfl | (with_reducible assumption) | exact Nat.le_of_ble_eq_true rfl | omega | (simp <;> fail))) | (refine ACall.to (r2 _) ?_))) <;> (try (conv => whnf))
  refine AWp_loop (σ := Nat) (10 :: 24 :: 25 :: 26 :: 101 :: 102 :: 103 :: 104 :: 105 :: 106 :: 107 :: 108 :: 109 :: 110 :: 111 :: 112 :: 113 :: 114 :: 115 :: 116 :: 117 :: 118 :: 119 :: 120 :: 121 :: 122 :: 123 :: 124 :: 125 :: 126 :: 127 :: 128 :: 129 :: 130 :: 131 :: 132 :: 133 :: 134 :: 135 :: 136 :: 137 :: 138 :: 139 :: 140 :: 141 :: 142 :: 143 :: 144 :: 145 :: 146 :: 147 :: 148 :: 149 :: 150 :: 151 :: 152 :: 153 :: 154 :: 155 :: 156 :: 157 :: 158 :: []) (fun k => [(24, .int .i64 k)]) (fun k => H3) (fun k => k ≤ 4) (fun k => 4 - k) 0 rfl (Nat.zero_le _) ⟨rfl, trivial⟩ (HLe.refl _) ?_
  intro k hk
  refine AWp.of tt_ok (dok _) rfl ?_
  dsimp only at hk ⊢
  rcases (show k = 0 ∨ k = 1 ∨ k = 2 ∨ k = 3 ∨ k = 4 by omega) with rfl | rfl | rfl | rfl | rfl
  · obtain ⟨g1, g2, g3⟩ : sa.o.length ≤ 1000 ∧ sa.e.length ≤ 1000 ∧ sa.f.length ≤ 1000 := by omega
    obtain ⟨a1, a2, a3⟩ := same sa g1 g2 g3
    obtain ⟨b1, b2, b3⟩ := same1 sa g1 g2 g3
    obtain ⟨d1, d2, d3⟩ := same2 sa g1 g2 g3
    clear same same1 same2
    (iterate 2 ((repeat' ((conv => whnf); first | left | refine OpsA.cons ?_ | refine OpsA.nil ?_ | refine AWq.seq ?_ | refine AWq.region ?_ | refine AWq.cond ?_ | refine AWq.block ?_ | refine AWq.skip ?_ | refine AWq.ret ?_ | refine AWq.exit ?_ | refine AWq.loop ?_ | refine DrawA.consD ?_ | refine DrawA.nil ?_ | refine AWq.draw (by decide +kernel) ?_ | (refine Both.mk ?_ ?_ <;> intro hc <;> (first | exact Bool.noConfusion hc | exact absurd (by with_reducible rfl) hc | (exfalso; omega) | skip)) | (intro c hc; (try (simp only [AH.none_iff] at hc; repeat (have hn := hc.1; replace hc := hc.2))); (first | (refine i64_k hc ?_ ?_ ?_ ; omega; omega; (clear hc; intro hc; subst hc)) | subst hc | skip)) | (apply Exists.intro; apply And.intro; (first | (focus (repeat (first | (with_reducible assumption) | (with_reducible exact AH.set_same _ _ _))); done))) | (apply Exists.intro; apply And.intro; first | (with_reducible assumption) | ((try simp only [List.getElem?_drop, Nat.mul_one, Nat.add_zero, Nat.zero_add]); first | (with_reducible assumption) | rfl)) | (apply Exists.intro; apply And.intro; (focus (intro G; ((conv => whnf); (try left); (conv => whnf); first | exact And.intro rfl rfl | (intro c hc; subst hc; exact And.intro rfl rfl))))) | (apply And.intro; (first | rfl | (with_reducible assumption) | exact Nat.le_of_ble_eq_true rfl | omega | (simp <;> fail))))) <;> (try (conv => whnf)); refine Then.mk ?_))
    (repeat' ((conv => whnf); first | left | refine OpsA.cons ?_ | refine OpsA.nil ?_ | refine AWq.seq ?_ | refine AWq.region ?_ | refine AWq.cond ?_ | refine AWq.block ?_ | refine AWq.skip ?_ | refine AWq.ret ?_ | refine AWq.exit ?_ | refine AWq.loop ?_ | refine DrawA.consD ?_ | refine DrawA.nil ?_ | refine AWq.draw (by decide +kernel) ?_ | (refine Both.mk ?_ ?_ <;> intro hc <;> (first | exact Bool.noConfusion hc | exact absurd (by with_reducible rfl) hc | (exfalso; omega) | skip)) | (intro c hc; (try (simp only [AH.none_iff] at hc; repeat (have hn := hc.1; replace hc := hc.2))); (first | (refine i64_k hc ?_ ?_ ?_ ; omega; omega; (clear hc; intro hc; subst hc)) | subst hc | skip)) | (apply Exists.intro; apply And.intro; (first | (focus (repeat (first | (with_reducible assumption) | (with_reducible exact AH.set_same _ _ _))); done))) | (apply Exists.intro; apply And.intro; first | (with_reducible assumption) | ((try simp only [List.getElem?_drop, Nat.mul_one, Nat.add_zero, Nat.zero_add]); first | (with_reducible assumption) | rfl)) | (apply Exists.intro; apply And.intro; (focus (intro G; ((conv => whnf); (try left); (conv => whnf); first | exact And.intro rfl rfl | (intro c hc; subst hc; exact And.intro rfl rfl))))) | (apply And.intro; (first | rfl | (with_reducible assumption) | exact Nat.le_of_ble_eq_true rfl | omega | (simp <;> fail))))) <;> (try (conv => whnf))
    refine Then.mk (AWq.in ?_)
    refine AWp_segP 25 sa.av rfl rfl (by assumption) rfl rfl ?_
    refine AWp.of tt_ok (dok _) rfl ?_
    (repeat' ((conv => whnf); first | left | refine OpsA.cons ?_ | refine OpsA.nil ?_ | refine AWq.seq ?_ | refine AWq.region ?_ | refine AWq.cond ?_ | refine AWq.block ?_ | refine AWq.skip ?_ | refine AWq.ret ?_ | refine AWq.exit ?_ | refine AWq.loop ?_ | refine DrawA.consD ?_ | refine DrawA.nil ?_ | refine AWq.draw (by decide +kernel) ?_ | (refine Both.mk ?_ ?_ <;> intro hc <;> (first | exact Bool.noConfusion hc | exact absurd (by with_reducible rfl) hc | (exfalso; omega) | skip)) | (intro c hc; (try (simp only [AH.none_iff] at hc; repeat (have hn := hc.1; replace hc := hc.2))); (first | (refine i64_k hc ?_ ?_ ?_ ; omega; omega; (clear hc; intro hc; subst hc)) | subst hc | skip)) | (apply Exists.intro; apply And.intro; (first | (focus (repeat (first | (with_reducible assumption) | (with_reducible exact AH.set_same _ _ _))); done))) | (apply Exists.intro; apply And.intro; first | (with_reducible assumption) | ((try simp only [List.getElem?_drop, Nat.mul_one, Nat.add_zero, Nat.zero_add]); first | (with_reducible assumption) | rfl)) | (apply Exists.intro; apply And.intro; (focus (intro G; ((conv => whnf); (try left); (conv => whnf); first | exact And.intro rfl rfl | (intro c hc; subst hc; exact And.intro rfl rfl))))) | (apply And.intro; (first | rfl | (with_reducible assumption) | exact Nat.le_of_ble_eq_true rfl | omega | (simp <;> fail))))) <;> (try (conv => whnf))
    refine Then.mk (AWq.in ?_)
    refine AWp_segP 26 sa.av rfl rfl (by assumption) rfl rfl ?_
    refine AWp.of tt_ok (dok _) rfl ?_
    (repeat' ((conv => whnf); first | refine Then.mk ?_ | left | refine OpsA.cons ?_ | refine OpsA.nil ?_ | refine AWq.seq ?_ | refine AWq.region ?_ | refine AWq.cond ?_ | refine AWq.block ?_ | refine AWq.skip ?_ | refine AWq.ret ?_ | refine AWq.exit ?_ | refine AWq.loop ?_ | refine DrawA.consD ?_ | refine DrawA.nil ?_ | refine AWq.draw (by decide +kernel) ?_ | (apply Exists.intro; apply And.intro; exact a2 _) | (apply Exists.intro; apply And.intro; exact a3 _) | (apply Exists.intro; apply And.intro; exact b2 _) | (apply Exists.intro; apply And.intro; exact b3 _) | (apply Exists.intro; apply And.intro; exact d2 _) | (apply Exists.intro; apply And.intro; exact d3 _) | (refine Both.mk ?_ ?_ <;> intro hc <;> (first | exact Bool.noConfusion hc | exact absurd (by with_reducible rfl) hc | (exfalso; omega) | skip)) | (intro c hc; (try (simp only [AH.none_iff] at hc; repeat (have hn := hc.1; replace hc := hc.2))); (first | (refine i64_k hc ?_ ?_ ?_ ; omega; omega; (clear hc; intro hc; subst hc)) | subst hc | skip)) | (apply Exists.intro; apply And.intro; (first | (focus (repeat (first | (with_reducible assumption) | (with_reducible exact AH.set_same _ _ _))); done))) | (apply Exists.intro; apply And.intro; first | (with_reducible assumption) | ((try simp only [List.getElem?_drop, Nat.mul_one, Nat.add_zero, Nat.zero_add]); first | (with_reducible assumption) | rfl)) | (apply Exists.intro; apply And.intro; (focus (intro G; ((conv => whnf); (try left); (conv => whnf); first | exact And.intro rfl rfl | (intro c hc; subst hc; exact And.intro rfl rfl))))) | (apply And.intro; (first | rfl | (with_reducible assumption) | exact Nat.le_of_ble_eq_true rfl | omega | (simp <;> fail))))) <;> (try (conv => whnf))
    exact ⟨0 + 1, by decide, by decide, ⟨rfl, trivial⟩, HLe.refl _⟩
  · obtain ⟨g1, g2, g3⟩ : sb.o.length ≤ 1000 ∧ sb.e.length ≤ 1000 ∧ sb.f.length ≤ 1000 := by omega
    obtain ⟨a1, a2, a3⟩ := same sb g1 g2 g3
    obtain ⟨b1, b2, b3⟩ := same1 sb g1 g2 g3
    obtain ⟨d1, d2, d3⟩ := same2 sb g1 g2 g3
    clear same same1 same2
    (iterate 2 ((repeat' ((conv => whnf); first | left | refine OpsA.cons ?_ | refine OpsA.nil ?_ | refine AWq.seq ?_ | refine AWq.region ?_ | refine AWq.cond ?_ | refine AWq.block ?_ | refine AWq.skip ?_ | refine AWq.ret ?_ | refine AWq.exit ?_ | refine AWq.loop ?_ | refine DrawA.consD ?_ | refine DrawA.nil ?_ | refine AWq.draw (by decide +kernel) ?_ | (refine Both.mk ?_ ?_ <;> intro hc <;> (first | exact Bool.noConfusion hc | exact absurd (by with_reducible rfl) hc | (exfalso; omega) | skip)) | (intro c hc; (try (simp only [AH.none_iff] at hc; repeat (have hn := hc.1; replace hc := hc.2))); (first | (refine i64_k hc ?_ ?_ ?_ ; omega; omega; (clear hc; intro hc; subst hc)) | subst hc | skip)) | (apply Exists.intro; apply And.intro; (first | (focus (repeat (first | (with_reducible assumption) | (with_reducible exact AH.set_same _ _ _))); done))) | (apply Exists.intro; apply And.intro; first | (with_reducible assumption) | ((try simp only [List.getElem?_drop, Nat.mul_one, Nat.add_zero, Nat.zero_add]); first | (with_reducible assumption) | rfl)) | (apply Exists.intro; apply And.intro; (focus (intro G; ((conv => whnf); (try left); (conv => whnf); first | exact And.intro rfl rfl | (intro c hc; subst hc; exact And.intro rfl rfl))))) | (apply And.intro; (first | rfl | (with_reducible assumption) | exact Nat.le_of_ble_eq_true rfl | omega | (simp <;> fail))))) <;> (try (conv => whnf)); refine Then.mk ?_))
    (repeat' ((conv => whnf); first | left | refine OpsA.cons ?_ | refine OpsA.nil ?_ | refine AWq.seq ?_ | refine AWq.region ?_ | refine AWq.cond ?_ | refine AWq.block ?_ | refine AWq.skip ?_ | refine AWq.ret ?_ | refine AWq.exit ?_ | refine AWq.loop ?_ | refine DrawA.consD ?_ | refine DrawA.nil ?_ | refine AWq.draw (by decide +kernel) ?_ | (refine Both.mk ?_ ?_ <;> intro hc <;> (first | exact Bool.noConfusion hc | exact absurd (by with_reducible rfl) hc | (exfalso; omega) | skip)) | (intro c hc; (try (simp only [AH.none_iff] at hc; repeat (have hn := hc.1; replace hc := hc.2))); (first | (refine i64_k hc ?_ ?_ ?_ ; omega; omega; (clear hc; intro hc; subst hc)) | subst hc | skip)) | (apply Exists.intro; apply And.intro; (first | (focus (repeat (first | (with_reducible assumption) | (with_reducible exact AH.set_same _ _ _))); done))) | (apply Exists.intro; apply And.intro; first | (with_reducible assumption) | ((try simp only [List.getElem?_drop, Nat.mul_one, Nat.add_zero, Nat.zero_add]); first | (with_reducible assumption) | rfl)) | (apply Exists.intro; apply And.intro; (focus (intro G; ((conv => whnf); (try left); (conv => whnf); first | exact And.intro rfl rfl | (intro c hc; subst hc; exact And.intro rfl rfl))))) | (apply And.intro; (first | rfl | (with_reducible assumption) | exact Nat.le_of_ble_eq_true rfl | omega | (simp <;> fail))))) <;> (try (conv => whnf))
    refine Then.mk (AWq.in ?_)
    refine AWp_segP 25 sb.av rfl rfl (by assumption) rfl rfl ?_
    refine AWp.of tt_ok (dok _) rfl ?_
    (repeat' ((conv => whnf); first | left | refine OpsA.cons ?_ | refine OpsA.nil ?_ | refine AWq.seq ?_ | refine AWq.region ?_ | refine AWq.cond ?_ | refine AWq.block ?_ | refine AWq.skip ?_ | refine AWq.ret ?_ | refine AWq.exit ?_ | refine AWq.loop ?_ | refine DrawA.consD ?_ | refine DrawA.nil ?_ | refine AWq.draw (by decide +kernel) ?_ | (refine Both.mk ?_ ?_ <;> intro hc <;> (first | exact Bool.noConfusion hc | exact absurd (by with_reducible rfl) hc | (exfalso; omega) | skip)) | (intro c hc; (try (simp only [AH.none_iff] at hc; repeat (have hn := hc.1; replace hc := hc.2))); (first | (refine i64_k hc ?_ ?_ ?_ ; omega; omega; (clear hc; intro hc; subst hc)) | subst hc | skip)) | (apply Exists.intro; apply And.intro; (first | (focus (repeat (first | (with_reducible assumption) | (with_reducible exact AH.set_same _ _ _))); done))) | (apply Exists.intro; apply And.intro; first | (with_reducible assumption) | ((try simp only [List.getElem?_drop, Nat.mul_one, Nat.add_zero, Nat.zero_add]); first | (with_reducible assumption) | rfl)) | (apply Exists.intro; apply And.intro; (focus (intro G; ((conv => whnf); (try left); (conv => whnf); first | exact And.intro rfl rfl | (intro c hc; subst hc; exact And.intro rfl rfl))))) | (apply And.intro; (first | rfl | (with_reducible assumption) | exact Nat.le_of_ble_eq_true rfl | omega | (simp <;> fail))))) <;> (try (conv => whnf))
    refine Then.mk (AWq.in ?_)
    refine AWp_segP 26 sb.av rfl rfl (by assumption) rfl rfl ?_
    refine AWp.of tt_ok (dok _) rfl ?_
    (repeat' ((conv => whnf); first | refine Then.mk ?_ | left | refine OpsA.cons ?_ | refine OpsA.nil ?_ | refine AWq.seq ?_ | refine AWq.region ?_ | refine AWq.cond ?_ | refine AWq.block ?_ | refine AWq.skip ?_ | refine AWq.ret ?_ | refine AWq.exit ?_ | refine AWq.loop ?_ | refine DrawA.consD ?_ | refine DrawA.nil ?_ | refine AWq.draw (by decide +kernel) ?_ | (apply Exists.intro; apply And.intro; exact a2 _) | (apply Exists.intro; apply And.intro; exact a3 _) | (apply Exists.intro; apply And.intro; exact b2 _) | (apply Exists.intro; apply And.intro; exact b3 _) | (apply Exists.intro; apply And.intro; exact d2 _) | (apply Exists.intro; apply And.intro; exact d3 _) | (refine Both.mk ?_ ?_ <;> intro hc <;> (first | exact Bool.noConfusion hc | exact absurd (by with_reducible rfl) hc | (exfalso; omega) | skip)) | (intro c hc; (try (simp only [AH.none_iff] at hc; repeat (have hn := hc.1; replace hc := hc.2))); (first | (refine i64_k hc ?_ ?_ ?_ ; omega; omega; (clear hc; intro hc; subst hc)) | subst hc | skip)) | (apply Exists.intro; apply And.intro; (first | (focus (repeat (first | (with_reducible assumption) | (with_reducible exact AH.set_same _ _ _))); done))) | (apply Exists.intro; apply And.intro; first | (with_reducible assumption) | ((try simp only [List.getElem?_drop, Nat.mul_one, Nat.add_zero, Nat.zero_add]); first | (with_reducible assumption) | rfl)) | (apply Exists.intro; apply And.intro; (focus (intro G; ((conv => whnf); (try left); (conv => whnf); first | exact And.intro rfl rfl | (intro c hc; subst hc; exact And.intro rfl rfl))))) | (apply And.intro; (first | rfl | (with_reducible assumption) | exact Nat.le_of_ble_eq_true rfl | omega | (simp <;> fail))))) <;> (try (conv => whnf))
    exact ⟨1 + 1, by decide, by decide, ⟨rfl, trivial⟩, HLe.refl _⟩
  · obtain ⟨g1, g2, g3⟩ : sc.o.length ≤ 1000 ∧ sc.e.length ≤ 1000 ∧ sc.f.length ≤ 1000 := by omega
    obtain ⟨a1, a2, a3⟩ := same sc g1 g2 g3
    obtain ⟨b1, b2, b3⟩ := same1 sc g1 g2 g3
    obtain ⟨d1, d2, d3⟩ := same2 sc g1 g2 g3
    clear same same1 same2
    (iterate 2 ((repeat' ((conv => whnf); first | left | refine OpsA.cons ?_ | refine OpsA.nil ?_ | refine AWq.seq ?_ | refine AWq.region ?_ | refine AWq.cond ?_ | refine AWq.block ?_ | refine AWq.skip ?_ | refine AWq.ret ?_ | refine AWq.exit ?_ | refine AWq.loop ?_ | refine DrawA.consD ?_ | refine DrawA.nil ?_ | refine AWq.draw (by decide +kernel) ?_ | (refine Both.mk ?_ ?_ <;> intro hc <;> (first | exact Bool.noConfusion hc | exact absurd (by with_reducible rfl) hc | (exfalso; omega) | skip)) | (intro c hc; (try (simp only [AH.none_iff] at hc; repeat (have hn := hc.1; replace hc := hc.2))); (first | (refine i64_k hc ?_ ?_ ?_ ; omega; omega; (clear hc; intro hc; subst hc)) | subst hc | skip)) | (apply Exists.intro; apply And.intro; (first | (focus (repeat (first | (with_reducible assumption) | (with_reducible exact AH.set_same _ _ _))); done))) | (apply Exists.intro; apply And.intro; first | (with_reducible assumption) | ((try simp only [List.getElem?_drop, Nat.mul_one, Nat.add_zero, Nat.zero_add]); first | (with_reducible assumption) | rfl)) | (apply Exists.intro; apply And.intro; (focus (intro G; ((conv => whnf); (try left); (conv => whnf); first | exact And.intro rfl rfl | (intro c hc; subst hc; exact And.intro rfl rfl))))) | (apply And.intro; (first | rfl | (with_reducible assumption) | exact Nat.le_of_ble_eq_true rfl | omega | (simp <;> fail))))) <;> (try (conv => whnf)); refine Then.mk ?_))
    (repeat' ((conv => whnf); first | left | refine OpsA.cons ?_ | refine OpsA.nil ?_ | refine AWq.seq ?_ | refine AWq.region ?_ | refine AWq.cond ?_ | refine AWq.block ?_ | refine AWq.skip ?_ | refine AWq.ret ?_ | refine AWq.exit ?_ | refine AWq.loop ?_ | refine DrawA.consD ?_ | refine DrawA.nil ?_ | refine AWq.draw (by decide +kernel) ?_ | (refine Both.mk ?_ ?_ <;> intro hc <;> (first | exact Bool.noConfusion hc | exact absurd (by with_reducible rfl) hc | (exfalso; omega) | skip)) | (intro c hc; (try (simp only [AH.none_iff] at hc; repeat (have hn := hc.1; replace hc := hc.2))); (first | (refine i64_k hc ?_ ?_ ?_ ; omega; omega; (clear hc; intro hc; subst hc)) | subst hc | skip)) | (apply Exists.intro; apply And.intro; (first | (focus (repeat (first | (with_reducible assumption) | (with_reducible exact AH.set_same _ _ _))); done))) | (apply Exists.intro; apply And.intro; first | (with_reducible assumption) | ((try simp only [List.getElem?_drop, Nat.mul_one, Nat.add_zero, Nat.zero_add]); first | (with_reducible assumption) | rfl)) | (apply Exists.intro; apply And.intro; (focus (intro G; ((conv => whnf); (try left); (conv => whnf); first | exact And.intro rfl rfl | (intro c hc; subst hc; exact And.intro rfl rfl))))) | (apply And.intro; (first | rfl | (with_reducible assumption) | exact Nat.le_of_ble_eq_true rfl | omega | (simp <;> fail))))) <;> (try (conv => whnf))
    refine Then.mk (AWq.in ?_)
    refine AWp_segP 25 sc.av rfl rfl (by assumption) rfl rfl ?_
    refine AWp.of tt_ok (dok _) rfl ?_
    (repeat' ((conv => whnf); first | left | refine OpsA.cons ?_ | refine OpsA.nil ?_ | refine AWq.seq ?_ | refine AWq.region ?_ | refine AWq.cond ?_ | refine AWq.block ?_ | refine AWq.skip ?_ | refine AWq.ret ?_ | refine AWq.exit ?_ | refine AWq.loop ?_ | refine DrawA.consD ?_ | refine DrawA.nil ?_ | refine AWq.draw (by decide +kernel) ?_ | (refine Both.mk ?_ ?_ <;> intro hc <;> (first | exact Bool.noConfusion hc | exact absurd (by with_reducible rfl) hc | (exfalso; omega) | skip)) | (intro c hc; (try (simp only [AH.none_iff] at hc; repeat (have hn := hc.1; replace hc := hc.2))); (first | (refine i64_k hc ?_ ?_ ?_ ; omega; omega; (clear hc; intro hc; subst hc)) | subst hc | skip)) | (apply Exists.intro; apply And.intro; (first | (focus (repeat (first | (with_reducible assumption) | (with_reducible exact AH.set_same _ _ _))); done))) | (apply Exists.intro; apply And.intro; first | (with_reducible assumption) | ((try simp only [List.getElem?_drop, Nat.mul_one, Nat.add_zero, Nat.zero_add]); first | (with_reducible assumption) | rfl)) | (apply Exists.intro; apply And.intro; (focus (intro G; ((conv => whnf); (try left); (conv => whnf); first | exact And.intro rfl rfl | (intro c hc; subst hc; exact And.intro rfl rfl))))) | (apply And.intro; (first | rfl | (with_reducible assumption) | exact Nat.le_of_ble_eq_true rfl | omega | (simp <;> fail))))) <;> (try (conv => whnf))
    refine Then.mk (AWq.in ?_)
    refine AWp_segP 26 sc.av rfl rfl (by assumption) rfl rfl ?_
    refine AWp.of tt_ok (dok _) rfl ?_
    (repeat' ((conv => whnf); first | refine Then.mk ?_ | left | refine OpsA.cons ?_ | refine OpsA.nil ?_ | refine AWq.seq ?_ | refine AWq.region ?_ | refine AWq.cond ?_ | refine AWq.block ?_ | refine AWq.skip ?_ | refine AWq.ret ?_ | refine AWq.exit ?_ | refine AWq.loop ?_ | refine DrawA.consD ?_ | refine DrawA.nil ?_ | refine AWq.draw (by decide +kernel) ?_ | (apply Exists.intro; apply And.intro; exact a2 _) | (apply Exists.intro; apply And.intro; exact a3 _) | (apply Exists.intro; apply And.intro; exact b2 _) | (apply Exists.intro; apply And.intro; exact b3 _) | (apply Exists.intro; apply And.intro; exact d2 _) | (apply Exists.intro; apply And.intro; exact d3 _) | (refine Both.mk ?_ ?_ <;> intro hc <;> (first | exact Bool.noConfusion hc | exact absurd (by with_reducible rfl) hc | (exfalso; omega) | skip)) | (intro c hc; (try (simp only [AH.none_iff] at hc; repeat (have hn := hc.1; replace hc := hc.2))); (first | (refine i64_k hc ?_ ?_ ?_ ; omega; omega; (clear hc; intro hc; subst hc)) | subst hc | skip)) | (apply Exists.intro; apply And.intro; (first | (focus (repeat (first | (with_reducible assumption) | (with_reducible exact AH.set_same _ _ _))); done))) | (apply Exists.intro; apply And.intro; first | (with_reducible assumption) | ((try simp only [List.getElem?_drop, Nat.mul_one, Nat.add_zero, Nat.zero_add]); first | (with_reducible assumption) | rfl)) | (apply Exists.intro; apply And.intro; (focus (intro G; ((conv => whnf); (try left); (conv => whnf); first | exact And.intro rfl rfl | (intro c hc; subst hc; exact And.intro rfl rfl))))) | (apply And.intro; (first | rfl | (with_reducible assumption) | exact Nat.le_of_ble_eq_true rfl | omega | (simp <;> fail))))) <;> (try (conv => whnf))
    exact ⟨2 + 1, by decide, by decide, ⟨rfl, trivial⟩, HLe.refl _⟩
  · obtain ⟨g1, g2, g3⟩ : sd.o.length ≤ 1000 ∧ sd.e.length ≤ 1000 ∧ sd.f.length ≤ 1000 := by omega
    obtain ⟨a1, a2, a3⟩ := same sd g1 g2 g3
    obtain ⟨b1, b2, b3⟩ := same1 sd g1 g2 g3
    obtain ⟨d1, d2, d3⟩ := same2 sd g1 g2 g3
    clear same same1 same2
    (iterate 2 ((repeat' ((conv => whnf); first | left | refine OpsA.cons ?_ | refine OpsA.nil ?_ | refine AWq.seq ?_ | refine AWq.region ?_ | refine AWq.cond ?_ | refine AWq.block ?_ | refine AWq.skip ?_ | refine AWq.ret ?_ | refine AWq.exit ?_ | refine AWq.loop ?_ | refine DrawA.consD ?_ | refine DrawA.nil ?_ | refine AWq.draw (by decide +kernel) ?_ | (refine Both.mk ?_ ?_ <;> intro hc <;> (first | exact Bool.noConfusion hc | exact absurd (by with_reducible rfl) hc | (exfalso; omega) | skip)) | (intro c hc; (try (simp only [AH.none_iff] at hc; repeat (have hn := hc.1; replace hc := hc.2))); (first | (refine i64_k hc ?_ ?_ ?_ ; omega; omega; (clear hc; intro hc; subst hc)) | subst hc | skip)) | (apply Exists.intro; apply And.intro; (first | (focus (repeat (first | (with_reducible assumption) | (with_reducible exact AH.set_same _ _ _))); done))) | (apply Exists.intro; apply And.intro; first | (with_reducible assumption) | ((try simp only [List.getElem?_drop, Nat.mul_one, Nat.add_zero, Nat.zero_add]); first | (with_reducible assumption) | rfl)) | (apply Exists.intro; apply And.intro; (focus (intro G; ((conv => whnf); (try left); (conv => whnf); first | exact And.intro rfl rfl | (intro c hc; subst hc; exact And.intro rfl rfl))))) | (apply And.intro; (first | rfl | (with_reducible assumption) | exact Nat.le_of_ble_eq_true rfl | omega | (simp <;> fail))))) <;> (try (conv => whnf)); refine Then.mk ?_))
    (repeat' ((conv => whnf); first | left | refine OpsA.cons ?_ | refine OpsA.nil ?_ | refine AWq.seq ?_ | refine AWq.region ?_ | refine AWq.cond ?_ | refine AWq.block ?_ | refine AWq.skip ?_ | refine AWq.ret ?_ | refine AWq.exit ?_ | refine AWq.loop ?_ | refine DrawA.consD ?_ | refine DrawA.nil ?_ | refine AWq.draw (by decide +kernel) ?_ | (refine Both.mk ?_ ?_ <;> intro hc <;> (first | exact Bool.noConfusion hc | exact absurd (by with_reducible rfl) hc | (exfalso; omega) | skip)) | (intro c hc; (try (simp only [AH.none_iff] at hc; repeat (have hn := hc.1; replace hc := hc.2))); (first | (refine i64_k hc ?_ ?_ ?_ ; omega; omega; (clear hc; intro hc; subst hc)) | subst hc | skip)) | (apply Exists.intro; apply And.intro; (first | (focus (repeat (first | (with_reducible assumption) | (with_reducible exact AH.set_same _ _ _))); done))) | (apply Exists.intro; apply And.intro; first | (with_reducible assumption) | ((try simp only [List.getElem?_drop, Nat.mul_one, Nat.add_zero, Nat.zero_add]); first | (with_reducible assumption) | rfl)) | (apply Exists.intro; apply And.intro; (focus (intro G; ((conv => whnf); (try left); (conv => whnf); first | exact And.intro rfl rfl | (intro c hc; subst hc; exact And.intro rfl rfl))))) | (apply And.intro; (first | rfl | (with_reducible assumption) | exact Nat.le_of_ble_eq_true rfl | omega | (simp <;> fail))))) <;> (try (conv => whnf))
    refine Then.mk (AWq.in ?_)
    refine AWp_segP 25 sd.av rfl rfl (by assumption) rfl rfl ?_
    refine AWp.of tt_ok (dok _) rfl ?_
    (repeat' ((conv => whnf); first | left | refine OpsA.cons ?_ | refine OpsA.nil ?_ | refine AWq.seq ?_ | refine AWq.region ?_ | refine AWq.cond ?_ | refine AWq.block ?_ | refine AWq.skip ?_ | refine AWq.ret ?_ | refine AWq.exit ?_ | refine AWq.loop ?_ | refine DrawA.consD ?_ | refine DrawA.nil ?_ | refine AWq.draw (by decide +kernel) ?_ | (refine Both.mk ?_ ?_ <;> intro hc <;> (first | exact Bool.noConfusion hc | exact absurd (by with_reducible rfl) hc | (exfalso; omega) | skip)) | (intro c hc; (try (simp only [AH.none_iff] at hc; repeat (have hn := hc.1; replace hc := hc.2))); (first | (refine i64_k hc ?_ ?_ ?_ ; omega; omega; (clear hc; intro hc; subst hc)) | subst hc | skip)) | (apply Exists.intro; apply And.intro; (first | (focus (repeat (first | (with_reducible assumption) | (with_reducible exact AH.set_same _ _ _))); done))) | (apply Exists.intro; apply And.intro; first | (with_reducible assumption) | ((try simp only [List.getElem?_drop, Nat.mul_one, Nat.add_zero, Nat.zero_add]); first | (with_reducible assumption) | rfl)) | (apply Exists.intro; apply And.intro; (focus (intro G; ((conv => whnf); (try left); (conv => whnf); first | exact And.intro rfl rfl | (intro c hc; subst hc; exact And.intro rfl rfl))))) | (apply And.intro; (first | rfl | (with_reducible assumption) | exact Nat.le_of_ble_eq_true rfl | omega | (simp <;> fail))))) <;> (try (conv => whnf))
    refine Then.mk (AWq.in ?_)
    refine AWp_segP 26 sd.av rfl rfl (by assumption) rfl rfl ?_
    refine AWp.of tt_ok (dok _) rfl ?_
    (repeat' ((conv => whnf); first | refine Then.mk ?_ | left | refine OpsA.cons ?_ | refine OpsA.nil ?_ | refine AWq.seq ?_ | refine AWq.region ?_ | refine AWq.cond ?_ | refine AWq.block ?_ | refine AWq.skip ?_ | refine AWq.ret ?_ | refine AWq.exit ?_ | refine AWq.loop ?_ | refine DrawA.consD ?_ | refine DrawA.nil ?_ | refine AWq.draw (by decide +kernel) ?_ | (apply Exists.intro; apply And.intro; exact a2 _) | (apply Exists.intro; apply And.intro; exact a3 _) | (apply Exists.intro; apply And.intro; exact b2 _) | (apply Exists.intro; apply And.intro; exact b3 _) | (apply Exists.intro; apply And.intro; exact d2 _) | (apply Exists.intro; apply And.intro; exact d3 _) | (refine Both.mk ?_ ?_ <;> intro hc <;> (first | exact Bool.noConfusion hc | exact absurd (by with_reducible rfl) hc | (exfalso; omega) | skip)) | (intro c hc; (try (simp only [AH.none_iff] at hc; repeat (have hn := hc.1; replace hc := hc.2))); (first | (refine i64_k hc ?_ ?_ ?_ ; omega; omega; (clear hc; intro hc; subst hc)) | subst hc | skip)) | (apply Exists.intro; apply And.intro; (first | (focus (repeat (first | (with_reducible assumption) | (with_reducible exact AH.set_same _ _ _))); done))) | (apply Exists.intro; apply And.intro; first | (with_reducible assumption) | ((try simp only [List.getElem?_drop, Nat.mul_one, Nat.add_zero, Nat.zero_add]); first | (with_reducible assumption) | rfl)) | (apply Exists.intro; apply And.intro; (focus (intro G; ((conv => whnf); (try left); (conv => whnf); first | exact And.intro rfl rfl | (intro c hc; subst hc; exact And.intro rfl rfl))))) | (apply And.intro; (first | rfl | (with_reducible assumption) | exact Nat.le_of_ble_eq_true rfl | omega | (simp <;> fail))))) <;> (try (conv => whnf))
    exact ⟨3 + 1, by decide, by decide, ⟨rfl, trivial⟩, HLe.refl _⟩
  · (repeat' ((conv => whnf); first | refine Then.mk ?_ | left | refine OpsA.cons ?_ | refine OpsA.nil ?_ | refine AWq.seq ?_ | refine AWq.region ?_ | refine AWq.cond ?_ | refine AWq.block ?_ | refine AWq.skip ?_ | refine AWq.ret ?_ | refine AWq.exit ?_ | refine AWq.loop ?_ | refine DrawA.consD ?_ | refine DrawA.nil ?_ | refine AWq.draw (by decide +kernel) ?_ | (refine Both.mk ?_ ?_ <;> intro hc <;> (first | exact Bool.noConfusion hc | exact absurd (by with_reducible rfl) hc | (exfalso; omega) | skip)) | (intro c hc; (try (simp only [AH.none_iff] at hc; repeat (have hn := hc.1; replace hc := hc.2))); (first | (refine i64_k hc ?_ ?_ ?_ ; omega; omega; (clear hc; intro hc; subst hc)) | subst hc | skip)) | (apply Exists.intro; apply And.intro; (first | (focus (repeat (first | (with_reducible assumption) | (with_reducible exact AH.set_same _ _ _))); done))) | (apply Exists.intro; apply And.intro; first | (with_reducible assumption) | ((try simp only [List.getElem?_drop, Nat.mul_one, Nat.add_zero, Nat.zero_add]); first | (with_reducible assumption) | rfl)) | (apply Exists.intro; apply And.intro; (focus (intro G; ((conv => whnf); (try left); (conv => whnf); first | exact And.intro rfl rfl | (intro c hc; subst hc; exact And.intro rfl rfl))))) | (apply And.intro; (first | rfl | (with_reducible assumption) | exact Nat.le_of_ble_eq_true rfl | omega | (simp <;> fail))) | (refine ACall.to (lives17_c _) ?_))) <;> (try (conv => whnf))
end Go.Proofs.Ytebflkgpbbjhnaa
