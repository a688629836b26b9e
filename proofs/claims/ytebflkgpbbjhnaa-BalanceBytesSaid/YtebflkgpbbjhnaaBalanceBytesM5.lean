/- For the law BalanceBytes, part 5 of 6: the frame of the walk, the walks of the functions, the plain law, the row. No conditions. -/
import Derived.Test.YtebflkgpbbjhnaaBalanceBytesM4
/- The walks of the reader: lists, End, Read. -/
namespace Go.Proofs.Ytebflkgpbbjhnaa
open Go.Fw Go
set_option linter.unusedVariables false
set_option linter.unusedSimpArgs false

theorem rdInts_bad {s : RS} (h : (rdU s).2.1 ≠ 0) : rdInts s = ([], (rdU s).2) := by
  have : ∀ k, rdL k (rdU s).2 = ([], (rdU s).2) := by
    intro k
    cases k with
    | zero => rfl
    | succ k => rw [rdL, if_pos h]
  unfold rdInts; rw [rdLen_bad h, this, if_pos h]
theorem rdInts_more {s : RS} (h : (rdU s).2.1 = 0) (hl : (rdU s).2.2.length < (rdU s).1) : rdInts s = ([], (3, [])) := by
  unfold rdInts; rw [rdLen_more h hl]; rfl
theorem rdInts_ok {s : RS} (hl : ¬ (rdU s).2.2.length < (rdU s).1) : rdInts s = if (rdL (rdU s).1 (rdU s).2).2.1 ≠ 0 then ([], (rdL (rdU s).1 (rdU s).2).2) else rdL (rdU s).1 (rdU s).2 := by
  unfold rdInts; rw [rdLen_ok hl]

set_option maxRecDepth 8000 in
theorem listi_c (p : Nat) (e0 : Int) (b0 : List UInt8) (hb : b0.length ≤ 1000000) (H : AH) :
    ACall Try.prog 59 [.ptr p 0 0, .fn (.func 54) [.ptr p 0 0] []] (RdH H p e0 b0) (fun y H' => y = .cs (iS .i64 (rdInts (canon e0 b0)).1) (rdInts (canon e0 b0)).1.length ∧ ∃ e b, canon e b = (rdInts (canon e0 b0)).2 ∧ b.length ≤ b0.length ∧ H' = RdH H p e b) := by
  have hlt := rdU_lt (canon e0 b0)
  have hu := rUint_c p e0 b0 hb H
  have hz1 := rdInts_bad (s := canon e0 b0)
  have hz2 := rdInts_more (s := canon e0 b0)
  have hz3 := rdInts_ok (s := canon e0 b0)
  generalize rdInts (canon e0 b0) = Z at *
  generalize rdU (canon e0 b0) = R at *
  obtain ⟨n, s1⟩ := R
  dsimp only at *
  refine ACall.coldX (es := 1) (by simp) ?_
  refine ACall_of tt_ok (dok _) Try.func59 rfl (by decide) rfl ?_
  (repeat' ((conv => whnf); first | refine Then.mk ?_ | left | refine OpsA.cons ?_ | refine OpsA.nil ?_ | refine AWq.seq ?_ | refine AWq.region ?_ | refine AWq.cond ?_ | refine AWq.block ?_ | refine AWq.skip ?_ | refine AWq.ret ?_ | refine AWq.exit ?_ | refine AWq.loop ?_ | (refine Both.mk ?_ ?_ <;> intro hc <;> (first | exact Bool.noConfusion hc | exact absurd (by with_reducible rfl) hc | exact absurd (by assumption) hc | exact absurd hc (by assumption) | (exfalso; omega) | skip)) | (intro c hc; (try (simp only [AH.none_iff] at hc; repeat (have hn := hc.1; replace hc := hc.2))); (first | (refine u64_k hc ?_ ?_ ?_ ; omega; omega; (clear hc; intro hc; subst hc)) | skip)) | (apply Exists.intro; apply And.intro; (first | (focus (repeat (first | (with_reducible assumption) | (with_reducible exact AH.set_same _ _ _) | ((first | refine AH.get_ne ?_ ?_); (first | (with_reducible assumption))))); done) | (focus (repeat (first | exact AH.set_same _ _ _)); done))) | (apply Exists.intro; apply And.intro; first | (with_reducible assumption) | ((try simp only [List.getElem?_drop, Nat.mul_one, Nat.add_zero, Nat.zero_add]); first | (with_reducible assumption) | rfl)) | (apply And.intro; (first | rfl | (with_reducible assumption) | omega | (simp <;> fail))))) <;> (try (conv => whnf))
  refine hu.mono ?_
  rintro y H' ⟨rfl, e1, b1, h1, h2, rfl⟩
  by_cases he : e1 = 0
  · subst he
    rw [canon_ok] at h1
    subst h1
    by_cases hn : b1.length < n
    · have hZ := hz2 rfl hn
      (repeat' ((conv => whnf); first | refine Then.mk ?_ | left | refine OpsA.cons ?_ | refine OpsA.nil ?_ | refine AWq.seq ?_ | refine AWq.region ?_ | refine AWq.cond ?_ | refine AWq.block ?_ | refine AWq.skip ?_ | refine AWq.ret ?_ | refine AWq.exit ?_ | refine AWq.loop ?_ | (refine Both.mk ?_ ?_ <;> intro hc <;> (first | exact Bool.noConfusion hc | exact absurd (by with_reducible rfl) hc | exact absurd (by assumption) hc | exact absurd hc (by assumption) | (exfalso; omega) | skip)) | (intro c hc; (try (simp only [AH.none_iff] at hc; repeat (have hn := hc.1; replace hc := hc.2))); (first | (refine u64_k hc ?_ ?_ ?_ ; omega; omega; (clear hc; intro hc; subst hc)) | skip)) | (apply Exists.intro; apply And.intro; (first | (focus (repeat (first | (with_reducible assumption) | (with_reducible exact AH.set_same _ _ _) | ((first | refine AH.get_ne ?_ ?_); (first | (with_reducible assumption))))); done) | (focus (repeat (first | exact AH.set_same _ _ _)); done))) | (apply Exists.intro; apply And.intro; first | (with_reducible assumption) | ((try simp only [List.getElem?_drop, Nat.mul_one, Nat.add_zero, Nat.zero_add]); first | (with_reducible assumption) | rfl)) | (apply And.intro; (first | rfl | (with_reducible assumption) | omega | (simp <;> fail))) | (refine ACall.to (fail_c _ _ _ _ _) ?_))) <;> (try (conv => whnf))
      refine AWp_loop (σ := Unit) (6 :: 7 :: 20 :: 21 :: 22 :: 23 :: 24 :: 25 :: 26 :: 27 :: 28 :: 29 :: 30 :: 31 :: 32 :: 33 :: 34 :: 35 :: 36 :: []) (fun _ => [(7, .int .u64 0), (6, .nils)]) (fun _ => RdH H p 3 b1) (fun _ => True) (fun _ => 0) () rfl ?_ ?_ ?_ ?_
      · trivial
      · exact ⟨rfl, rfl, trivial⟩
      · exact HLe.refl _
      · rintro ⟨⟩ _
        refine AWp.of tt_ok (dok _) rfl ?_
        (repeat' ((conv => whnf); first | refine Then.mk ?_ | left | refine OpsA.cons ?_ | refine OpsA.nil ?_ | refine AWq.seq ?_ | refine AWq.region ?_ | refine AWq.cond ?_ | refine AWq.block ?_ | refine AWq.skip ?_ | refine AWq.ret ?_ | refine AWq.exit ?_ | refine AWq.loop ?_ | (refine Both.mk ?_ ?_ <;> intro hc <;> (first | exact Bool.noConfusion hc | exact absurd (by with_reducible rfl) hc | exact absurd (by assumption) hc | exact absurd hc (by assumption) | (exfalso; omega) | skip)) | (intro c hc; (try (simp only [AH.none_iff] at hc; repeat (have hn := hc.1; replace hc := hc.2))); (first | (refine u64_k hc ?_ ?_ ?_ ; omega; omega; (clear hc; intro hc; subst hc)) | skip)) | (apply Exists.intro; apply And.intro; (first | (focus (repeat (first | (with_reducible assumption) | (with_reducible exact AH.set_same _ _ _) | ((first | refine AH.get_ne ?_ ?_); (first | (with_reducible assumption))))); done) | (focus (repeat (first | exact AH.set_same _ _ _)); done))) | (apply Exists.intro; apply And.intro; first | (with_reducible assumption) | ((try simp only [List.getElem?_drop, Nat.mul_one, Nat.add_zero, Nat.zero_add]); first | (with_reducible assumption) | rfl)) | (apply And.intro; (first | rfl | (with_reducible assumption) | omega | (simp <;> fail))))) <;> (try (conv => whnf))
        rw [hZ]
        exact ⟨_, ⟨3, b1, canon_err _ (by decide), h2, rfl⟩, .inl ⟨rfl, rfl, HLe.refl _⟩⟩
    · have hZ := hz3 hn
      have hn' : n ≤ b1.length := by omega
      (repeat' ((conv => whnf); first | refine Then.mk ?_ | left | refine OpsA.cons ?_ | refine OpsA.nil ?_ | refine AWq.seq ?_ | refine AWq.region ?_ | refine AWq.cond ?_ | refine AWq.block ?_ | refine AWq.skip ?_ | refine AWq.ret ?_ | refine AWq.exit ?_ | refine AWq.loop ?_ | (refine Both.mk ?_ ?_ <;> intro hc <;> (first | exact Bool.noConfusion hc | exact absurd (by with_reducible rfl) hc | exact absurd (by assumption) hc | exact absurd hc (by assumption) | (exfalso; omega) | skip)) | (intro c hc; (try (simp only [AH.none_iff] at hc; repeat (have hn := hc.1; replace hc := hc.2))); (first | (refine u64_k hc ?_ ?_ ?_ ; omega; omega; (clear hc; intro hc; subst hc)) | skip)) | (apply Exists.intro; apply And.intro; (first | (focus (repeat (first | (with_reducible assumption) | (with_reducible exact AH.set_same _ _ _) | ((first | refine AH.get_ne ?_ ?_); (first | (with_reducible assumption))))); done) | (focus (repeat (first | exact AH.set_same _ _ _)); done))) | (apply Exists.intro; apply And.intro; first | (with_reducible assumption) | ((try simp only [List.getElem?_drop, Nat.mul_one, Nat.add_zero, Nat.zero_add]); first | (with_reducible assumption) | rfl)) | (apply And.intro; (first | rfl | (with_reducible assumption) | omega | (simp <;> fail))))) <;> (try (conv => whnf))
      refine AWp_nilrow1 6 1 rfl rfl fun r hr => ?_
      have hrp : r ≠ p := fun e => by rw [e] at hr; unfold RdH at hr; rw [AH.set_same] at hr; cases hr
      have hr0 : H r = none := by unfold RdH at hr; rw [AH.set_ne _ _ hrp] at hr; exact hr
      refine AWp_loop (σ := Nat × Nat × List Int × Int × List UInt8) (6 :: 7 :: 20 :: 21 :: 22 :: 23 :: 24 :: 25 :: 26 :: 27 :: 28 :: 29 :: 30 :: 31 :: 32 :: 33 :: 34 :: 35 :: 36 :: []) (fun (i, v, acc, e, b) => [(7, .int .u64 i), (6, .sl r v 1 0 acc.length none)]) (fun (i, v, acc, e, b) => RdH (H.set r (.row (iS .i64 acc) v)) p e b)
        (fun (i, v, acc, e, b) => i ≤ n ∧ acc.length = i ∧ b.length ≤ b1.length ∧ rdL n (0, b1) = (acc ++ (rdL (n - i) (canon e b)).1, (rdL (n - i) (canon e b)).2)) (fun (i, v, acc, e, b) => n - i) (0, 0, [], 0, b1) rfl ?_ ?_ ?_ ?_
      · exact ⟨Nat.zero_le _, rfl, Nat.le_refl _, by rw [canon_ok]; rfl⟩
      · exact ⟨rfl, rfl, trivial⟩
      · exact HLe.of_eq (AH.set_comm _ _ _ hrp)
      · rintro ⟨i, v, acc, e, b⟩ ⟨hi, hal, hbl, hL⟩
        refine AWp.of tt_ok (dok _) rfl ?_
        by_cases he : e = 0
        · subst he
          (repeat' ((conv => whnf); first | refine Then.mk ?_ | left | refine OpsA.cons ?_ | refine OpsA.nil ?_ | refine AWq.seq ?_ | refine AWq.region ?_ | refine AWq.cond ?_ | refine AWq.block ?_ | refine AWq.skip ?_ | refine AWq.ret ?_ | refine AWq.exit ?_ | refine AWq.loop ?_ | (refine Both.mk ?_ ?_ <;> intro hc <;> (first | exact Bool.noConfusion hc | exact absurd (by with_reducible rfl) hc | exact absurd (by assumption) hc | exact absurd hc (by assumption) | (exfalso; omega) | skip)) | (intro c hc; (try (simp only [AH.none_iff] at hc; repeat (have hn := hc.1; replace hc := hc.2))); (first | (refine u64_k hc ?_ ?_ ?_ ; omega; omega; (clear hc; intro hc; subst hc)) | skip)) | (apply Exists.intro; apply And.intro; (first | (focus (repeat (first | (with_reducible assumption) | (with_reducible exact AH.set_same _ _ _) | ((first | refine AH.get_ne ?_ ?_); (first | (with_reducible assumption))))); done) | (focus (repeat (first | exact AH.set_same _ _ _)); done))) | (apply Exists.intro; apply And.intro; first | (with_reducible assumption) | ((try simp only [List.getElem?_drop, Nat.mul_one, Nat.add_zero, Nat.zero_add]); first | (with_reducible assumption) | rfl)) | (apply And.intro; (first | rfl | (with_reducible assumption) | omega | (simp <;> fail))))) <;> (try (conv => whnf))
          · have hlt' : i < n := by omega
            have hri := rInt_c p 0 b (by omega) (H.set r (.row (iS .i64 acc) v))
            rw [show n - i = (n - (i + 1)) + 1 by omega, rdL, if_neg (by rw [canon_fst]; simp)] at hL
            generalize rdI (canon 0 b) = Q at hL hri
            refine hri.mono ?_
            rintro y H' ⟨rfl, e', b', h1', h2', rfl⟩
            (repeat' ((conv => whnf); first | refine Then.mk ?_ | left | refine OpsA.cons ?_ | refine OpsA.nil ?_ | refine AWq.seq ?_ | refine AWq.region ?_ | refine AWq.cond ?_ | refine AWq.block ?_ | refine AWq.skip ?_ | refine AWq.ret ?_ | refine AWq.exit ?_ | refine AWq.loop ?_ | (refine Both.mk ?_ ?_ <;> intro hc <;> (first | exact Bool.noConfusion hc | exact absurd (by with_reducible rfl) hc | exact absurd (by assumption) hc | exact absurd hc (by assumption) | (exfalso; omega) | skip)) | (intro c hc; (try (simp only [AH.none_iff] at hc; repeat (have hn := hc.1; replace hc := hc.2))); (first | (refine u64_k hc ?_ ?_ ?_ ; omega; omega; (clear hc; intro hc; subst hc)) | skip)) | (apply Exists.intro; apply And.intro; (first | (focus (repeat (first | (with_reducible assumption) | (with_reducible exact AH.set_same _ _ _) | ((first | refine AH.get_ne ?_ ?_); (first | (with_reducible assumption))))); done) | (focus (repeat (first | exact AH.set_same _ _ _)); done))) | (apply Exists.intro; apply And.intro; first | (with_reducible assumption) | ((try simp only [List.getElem?_drop, Nat.mul_one, Nat.add_zero, Nat.zero_add]); first | (with_reducible assumption) | rfl)) | (apply And.intro; (first | rfl | (with_reducible assumption) | omega | (simp <;> fail))))) <;> (try (conv => whnf))
            refine ⟨(i + 1, v + 1, acc ++ [Q.1], e', b'), ⟨by omega, by simp [hal], by omega, ?_⟩, by show n - (i + 1) < n - i; omega, ⟨congrArg (AV.int .u64) (by omega), by rw [List.length_append]; rfl, trivial⟩, ?_⟩
            · rw [hL, h1', List.append_assoc]; rfl
            · show HLe (RdH (H.set r (.row (iS .i64 (acc ++ [Q.1])) (v + 1))) p e' b') _
              rw [← iS_append]
              exact HLe.of_eq (AH.set_back H hrp _ _ _).symm
          · have hin : i = n := by omega
            rw [hin, Nat.sub_self] at hL
            have hL : rdL n (0, b1) = (acc, (0, b)) := by rw [hL, canon_ok]; simp [rdL]
            rw [hL] at hZ
            rw [hZ]
            refine ⟨RdH H p 0 b, ⟨0, b, canon_ok _, by omega, rfl⟩, .inr ⟨r, by unfold RdH; rw [AH.set_ne _ _ hrp]; exact hr0, v, rfl, ?_⟩⟩
            exact AH.set_comm _ _ _ (Ne.symm hrp) |>.symm
        · have hZ' : Z = ([], (e, [])) := by
            have hk : ∀ k, (rdL k (canon e b)).2 = (e, []) := by
              intro k
              rw [canon_err _ he]
              cases k with
              | zero => rfl
              | succ k => rw [rdL, if_pos he]
            rw [hZ, hL]
            dsimp only
            rw [hk, if_pos he]
          (repeat' ((conv => whnf); first | refine Then.mk ?_ | left | refine OpsA.cons ?_ | refine OpsA.nil ?_ | refine AWq.seq ?_ | refine AWq.region ?_ | refine AWq.cond ?_ | refine AWq.block ?_ | refine AWq.skip ?_ | refine AWq.ret ?_ | refine AWq.exit ?_ | refine AWq.loop ?_ | (refine Both.mk ?_ ?_ <;> intro hc <;> (first | exact Bool.noConfusion hc | exact absurd (by with_reducible rfl) hc | exact absurd (by assumption) hc | exact absurd hc (by assumption) | (exfalso; omega) | skip)) | (intro c hc; (try (simp only [AH.none_iff] at hc; repeat (have hn := hc.1; replace hc := hc.2))); (first | (refine u64_k hc ?_ ?_ ?_ ; omega; omega; (clear hc; intro hc; subst hc)) | skip)) | (apply Exists.intro; apply And.intro; (first | (focus (repeat (first | (with_reducible assumption) | (with_reducible exact AH.set_same _ _ _) | ((first | refine AH.get_ne ?_ ?_); (first | (with_reducible assumption))))); done) | (focus (repeat (first | exact AH.set_same _ _ _)); done))) | (apply Exists.intro; apply And.intro; first | (with_reducible assumption) | ((try simp only [List.getElem?_drop, Nat.mul_one, Nat.add_zero, Nat.zero_add]); first | (with_reducible assumption) | rfl)) | (apply And.intro; (first | rfl | (with_reducible assumption) | omega | (simp <;> fail))))) <;> (try (conv => whnf))
          all_goals
            rw [hZ']
            exact ⟨_, ⟨e, b, canon_err _ he, by omega, rfl⟩, .inl ⟨rfl, rfl, HLe.set (HLe.fresh _ hr0) _ _⟩⟩
  · rw [canon_err _ he] at h1
    subst h1
    have hZ := hz1 he
    have hf := fail_c p 3 e1 b1 H
    rw [if_neg he] at hf
    (repeat' ((conv => whnf); first | refine Then.mk ?_ | left | refine OpsA.cons ?_ | refine OpsA.nil ?_ | refine AWq.seq ?_ | refine AWq.region ?_ | refine AWq.cond ?_ | refine AWq.block ?_ | refine AWq.skip ?_ | refine AWq.ret ?_ | refine AWq.exit ?_ | refine AWq.loop ?_ | (refine Both.mk ?_ ?_ <;> intro hc <;> (first | exact Bool.noConfusion hc | exact absurd (by with_reducible rfl) hc | exact absurd (by assumption) hc | exact absurd hc (by assumption) | (exfalso; omega) | skip)) | (intro c hc; (try (simp only [AH.none_iff] at hc; repeat (have hn := hc.1; replace hc := hc.2))); (first | (refine u64_k hc ?_ ?_ ?_ ; omega; omega; (clear hc; intro hc; subst hc)) | skip)) | (apply Exists.intro; apply And.intro; (first | (focus (repeat (first | (with_reducible assumption) | (with_reducible exact AH.set_same _ _ _) | ((first | refine AH.get_ne ?_ ?_); (first | (with_reducible assumption))))); done) | (focus (repeat (first | exact AH.set_same _ _ _)); done))) | (apply Exists.intro; apply And.intro; first | (with_reducible assumption) | ((try simp only [List.getElem?_drop, Nat.mul_one, Nat.add_zero, Nat.zero_add]); first | (with_reducible assumption) | rfl)) | (apply And.intro; (first | rfl | (with_reducible assumption) | omega | (simp <;> fail))) | (refine ACall.to (hf) ?_))) <;> (try (conv => whnf))
    all_goals
      refine AWp_loop (σ := Unit) (6 :: 7 :: 20 :: 21 :: 22 :: 23 :: 24 :: 25 :: 26 :: 27 :: 28 :: 29 :: 30 :: 31 :: 32 :: 33 :: 34 :: 35 :: 36 :: []) (fun _ => [(7, .int .u64 0), (6, .nils)]) (fun _ => RdH H p e1 b1) (fun _ => True) (fun _ => 0) () rfl ?_ ?_ ?_ ?_
      · trivial
      · exact ⟨rfl, rfl, trivial⟩
      · exact HLe.refl _
      · rintro ⟨⟩ _
        refine AWp.of tt_ok (dok _) rfl ?_
        (repeat' ((conv => whnf); first | refine Then.mk ?_ | left | refine OpsA.cons ?_ | refine OpsA.nil ?_ | refine AWq.seq ?_ | refine AWq.region ?_ | refine AWq.cond ?_ | refine AWq.block ?_ | refine AWq.skip ?_ | refine AWq.ret ?_ | refine AWq.exit ?_ | refine AWq.loop ?_ | (refine Both.mk ?_ ?_ <;> intro hc <;> (first | exact Bool.noConfusion hc | exact absurd (by with_reducible rfl) hc | exact absurd (by assumption) hc | exact absurd hc (by assumption) | (exfalso; omega) | skip)) | (intro c hc; (try (simp only [AH.none_iff] at hc; repeat (have hn := hc.1; replace hc := hc.2))); (first | (refine u64_k hc ?_ ?_ ?_ ; omega; omega; (clear hc; intro hc; subst hc)) | skip)) | (apply Exists.intro; apply And.intro; (first | (focus (repeat (first | (with_reducible assumption) | (with_reducible exact AH.set_same _ _ _) | ((first | refine AH.get_ne ?_ ?_); (first | (with_reducible assumption))))); done) | (focus (repeat (first | exact AH.set_same _ _ _)); done))) | (apply Exists.intro; apply And.intro; first | (with_reducible assumption) | ((try simp only [List.getElem?_drop, Nat.mul_one, Nat.add_zero, Nat.zero_add]); first | (with_reducible assumption) | rfl)) | (apply And.intro; (first | rfl | (with_reducible assumption) | omega | (simp <;> fail))))) <;> (try (conv => whnf))
        all_goals
          rw [hZ]
          exact ⟨_, ⟨e1, b1, canon_err _ he, h2, rfl⟩, .inl ⟨rfl, rfl, HLe.refl _⟩⟩

set_option maxRecDepth 8000 in
theorem rInts_c (p : Nat) (e0 : Int) (b0 : List UInt8) (hb : b0.length ≤ 1000000) (H : AH) :
    ACall Try.prog 32 [.ptr p 0 0] (RdH H p e0 b0) (fun y H' => y = .cs (iS .i64 (rdInts (canon e0 b0)).1) (rdInts (canon e0 b0)).1.length ∧ ∃ e b, canon e b = (rdInts (canon e0 b0)).2 ∧ b.length ≤ b0.length ∧ H' = RdH H p e b) := by
  have hu := listi_c p e0 b0 hb H
  generalize rdInts (canon e0 b0) = R at *
  refine ACall_of tt_ok (dok _) Try.func32 rfl (by decide) rfl ?_
  (repeat' ((conv => whnf); first | refine Then.mk ?_ | refine OpsA.cons ?_ | refine OpsA.nil ?_ | refine AWq.seq ?_ | refine AWq.region ?_ | refine AWq.ret ?_ | (apply And.intro; (first | rfl)))) <;> (try (conv => whnf))
  refine hu.mono ?_
  rintro y H' ⟨rfl, e, b, h1, h2, rfl⟩
  (repeat' ((conv => whnf); first | refine Then.mk ?_ | refine OpsA.cons ?_ | refine OpsA.nil ?_ | refine AWq.seq ?_ | refine AWq.region ?_ | refine AWq.ret ?_ | (apply And.intro; (first | rfl)))) <;> (try (conv => whnf))
  exact ⟨e, b, h1, h2, rfl⟩

set_option maxRecDepth 8000 in
theorem rEnd_c (p : Nat) (e : Int) (b : List UInt8) (H : AH) :
    ACall Try.prog 55 [.ptr p 0 0] (RdH H p e b) (fun y H' => y = .int .i64 (endE (canon e b)) ∧ H' = RdH H p e b) := by
  have h1 : e ≠ 0 → endE (canon e b) = e := fun h => by rw [canon_err _ h]; unfold endE; rw [if_neg (fun k => h k.1)]
  have h2 : e = 0 → b.length = 0 → endE (canon e b) = 0 := fun h h' => by
    have : b = [] := List.eq_nil_of_length_eq_zero h'
    rw [h, canon_ok, this]; rfl
  have h3 : e = 0 → ¬ b.length = 0 → endE (canon e b) = 2 := fun h h' => by
    rw [h, canon_ok]; unfold endE; rw [if_pos ⟨rfl, fun k => h' (by rw [show b = [] from k]; rfl)⟩]
  generalize endE (canon e b) = x at *
  refine ACall_of tt_ok (dok _) Try.func55 rfl (by decide) rfl ?_
  (repeat' ((conv => whnf); first | refine Then.mk ?_ | refine OpsA.cons ?_ | refine OpsA.nil ?_ | refine AWq.seq ?_ | refine AWq.region ?_ | refine AWq.cond ?_ | refine AWq.skip ?_ | refine AWq.ret ?_ | (refine Both.mk ?_ ?_ <;> intro hc <;> (first | exact Bool.noConfusion hc | skip)) | (apply Exists.intro; apply And.intro; (first | (focus (repeat (first | exact AH.set_same _ _ _)); done))) | (apply Exists.intro; apply And.intro; first | ((try simp only [List.getElem?_drop, Nat.mul_one, Nat.add_zero, Nat.zero_add]); first | rfl)) | (apply And.intro; (first | rfl | (simp <;> omega))))) <;> (try (conv => whnf))

set_option maxRecDepth 8000 in
theorem Read_c (b : List UInt8) (hb : b.length ≤ 1000000) (H : AH) :
    ACall Try.prog 29 [.cs (u8s b) b.length] H (fun y H' => ∃ p, H p = none ∧ y = .ptr p 0 0 ∧ H' = RdH H p 0 b) := by
  refine ACall_of tt_ok (dok _) Try.func29 rfl (by decide) rfl ?_
  (repeat' ((conv => whnf); first | refine Then.mk ?_ | left | refine OpsA.cons ?_ | refine OpsA.nil ?_ | refine AWq.seq ?_ | refine AWq.region ?_ | refine AWq.ret ?_ | (intro c hc; (try (simp only [AH.none_iff] at hc; repeat (have hn := hc.1; replace hc := hc.2))); (first | skip)) | (apply Exists.intro; apply And.intro; (first | (focus (repeat (first | (with_reducible assumption))); done))) | (apply And.intro; (first | rfl | (with_reducible assumption))) | (refine ACall.to (ACall.coldN (es := 1) (by simp) (clone_cs b hb _)) ?_))) <;> (try (conv => whnf))
  rfl

end Go.Proofs.Ytebflkgpbbjhnaa
/- The law's own examples. -/
namespace Go.Proofs.Ytebflkgpbbjhnaa
open Go.Fw Go
set_option linter.unusedVariables false
set_option linter.unusedSimpArgs false

/-- A new writer. -/
theorem AWp_writer {P : Program} {N : Nat} {ro : Option Nat} {ws : Nat → Bool} {code : Code} {K R : St → AH → Prop} {X : Nat → St → AH → Prop} {s : St} {H : AH} {c : Nat} (hc : H c = none)
    (h : ∀ r, c ≠ r → H r = none → AWp N P ro ws code K R X s (WrH H c r 0 [])) : AWp N P ro ws code K R X s (H.set c (.row [.nils] 0)) := by
  refine AWp_nilC 1 [] [] (p := c) (AH.set_same ..) fun r hr hrc => ?_
  have := h r (Ne.symm hrc) (by rw [AH.set_ne _ _ hrc] at hr; exact hr)
  refine AWp_less _ (HLe.of_eq ?_) this
  exact (AH.set_back H (Ne.symm hrc) _ _ _).symm

theorem canon_zero {e : Int} {b r : List UInt8} (h : canon e b = (0, r)) : e = 0 ∧ b = r := by
  have h1 : e = 0 := congrArg Prod.fst h
  subst h1
  rw [canon_ok] at h
  exact ⟨rfl, congrArg Prod.snd h⟩

theorem rInts_ok (p : Nat) {b r : List UInt8} {x : List Int} (hb : b.length ≤ 1000000) (h : rdInts (0, b) = (x, (0, r))) (H : AH) : ACall Try.prog 32 [.ptr p 0 0] (RdH H p 0 b) (fun y H' => y = .cs (iS .i64 x) x.length ∧ H' = RdH H p 0 r) := by
  have := rInts_c p 0 b hb H
  rw [canon_ok, h] at this
  refine this.mono ?_
  rintro y H' ⟨rfl, e, b', h1, _, rfl⟩
  obtain ⟨rfl, rfl⟩ := canon_zero h1
  exact ⟨rfl, rfl⟩

end Go.Proofs.Ytebflkgpbbjhnaa
/- The walks of balance: Encode. -/
namespace Go.Proofs.Ytebflkgpbbjhnaa
open Go.Fw Go
set_option linter.unusedVariables false
set_option linter.unusedSimpArgs false

/-- An answer that may be written. -/
structure SOk (s : Sol) : Prop where
  o : s.o.length ≤ 5000 ∧ ∀ x ∈ s.o, I64 x
  e : s.e.length ≤ 5000 ∧ ∀ x ∈ s.e, I64 x
  f : s.f.length ≤ 5000 ∧ ∀ x ∈ s.f, I64 x
  c : I64 s.c
def encS (s : Sol) : List UInt8 := encL s.o ++ encL s.e ++ encL s.f ++ encI s.c
theorem encI_le {x : Int} (h : I64 x) : (encI x).length ≤ 10 := by
  unfold encI
  exact encN_len10 (zz_lt h.1 h.2)
theorem encL_le {l : List Int} (hl : l.length ≤ 5000) (h : ∀ x ∈ l, I64 x) : (encL l).length ≤ 10 + 10 * l.length := by
  have hs : ∀ l : List Int, (∀ x ∈ l, I64 x) → (encIs l).length ≤ 10 * l.length := by
    intro l
    induction l with
    | nil => intro _; exact Nat.zero_le _
    | cons a l ih =>
      intro k
      have h1 := encI_le (k a (by simp))
      have h2 := ih fun x hx => k x (by simp [hx])
      show (encI a ++ encIs l).length ≤ _
      rw [List.length_append, List.length_cons]; omega
  have h1 : (encN l.length).length ≤ 10 := encN_len10 (by omega)
  have h2 := hs l h
  unfold encL
  rw [List.length_append]; omega
set_option maxHeartbeats 4000000 in
set_option maxRecDepth 8000 in
theorem encode_c (s : Sol) (hs : SOk s) (H : AH) :
    ACall Try.prog 27 [.agg [.cs (iS .i64 s.o) s.o.length, .cs (iS .i64 s.e) s.e.length, .cs (iS .i64 s.f) s.f.length, .int .i64 s.c]] H (fun y H' => y = .cs (u8s (encS s)) (encS s).length ∧ H' = H) := by
  obtain ⟨⟨o1, o2⟩, ⟨e1, e2⟩, ⟨f1, f2⟩, hc0⟩ := hs
  have b1 := encL_le o1 o2
  have b2 := encL_le e1 e2
  have b3 := encL_le f1 f2
  have b4 := encI_le hc0
  refine ACall.back ?_
  refine ACall_of tt_ok (dok _) Try.func27 rfl (by decide) rfl ?_
  (repeat' ((conv => whnf); first | refine OpsA.cons ?_ | refine OpsA.nil ?_ | refine AWq.seq ?_ | refine AWq.region ?_ | refine AWq.ret ?_ | (intro c hc; (try (simp only [AH.none_iff] at hc; repeat (have hn := hc.1; replace hc := hc.2))); (first | skip)) | (apply Exists.intro; apply And.intro; (first | (focus (repeat (first | (with_reducible assumption) | ((first | refine AH.get_ne ?_ ?_); (first | (with_reducible assumption))))); done))) | (apply Exists.intro; apply And.intro; first | (with_reducible assumption) | ((try simp only [List.getElem?_drop, Nat.mul_one, Nat.add_zero, Nat.zero_add]); first | (with_reducible assumption) | rfl)) | (apply And.intro; (first | rfl | (with_reducible assumption) | omega)))) <;> (try (conv => whnf))
  refine Then.mk ?_
  have hc3 : H c = none := hc
  (repeat' ((conv => whnf); first | refine OpsA.cons ?_ | refine OpsA.nil ?_ | refine AWq.seq ?_ | refine AWq.region ?_ | refine AWq.ret ?_ | (intro c hc; (try (simp only [AH.none_iff] at hc; repeat (have hn := hc.1; replace hc := hc.2))); (first | skip)) | (apply Exists.intro; apply And.intro; (first | (focus (repeat (first | (with_reducible assumption) | ((first | refine AH.get_ne ?_ ?_); (first | (with_reducible assumption))))); done))) | (apply Exists.intro; apply And.intro; first | (with_reducible assumption) | ((try simp only [List.getElem?_drop, Nat.mul_one, Nat.add_zero, Nat.zero_add]); first | (with_reducible assumption) | rfl)) | (apply And.intro; (first | rfl | (with_reducible assumption) | omega)))) <;> (try (conv => whnf))
  (obtain ⟨c6, hq_⟩ : ∃ c6, c6 = c := ⟨_, rfl⟩); subst hq_
  refine Then.mk (AWq.in ?_)
  refine AWp_writer (by (first | (focus (repeat (first | (with_reducible assumption) | ((first | refine AH.get_ne ?_ ?_); (first | (with_reducible assumption))))); done))) fun r hcr hr => ?_
  have hrc := (AH.none_set hr).1
  have hB : ∀ v bs, WrH (H.set c (.row [.cs (iS .i64 s.o) s.o.length, .cs (iS .i64 s.e) s.e.length, .cs (iS .i64 s.f) s.f.length, .int .i64 s.c] 0)) c6 r v bs c = some (.row [.cs (iS .i64 s.o) s.o.length, .cs (iS .i64 s.e) s.e.length, .cs (iS .i64 s.f) s.f.length, .int .i64 s.c] 0) := fun v bs => by
    unfold WrH
    rw [AH.set_ne _ _ (Ne.symm hrc), AH.set_ne _ _ (by (first | omega)), AH.set_same]
  have hback : ∀ v bs, HLe H (WrH (H.set c (.row [.cs (iS .i64 s.o) s.o.length, .cs (iS .i64 s.e) s.e.length, .cs (iS .i64 s.f) s.f.length, .int .i64 s.c] 0)) c6 r v bs) := fun v bs => by
    unfold WrH
    exact HLe.set_of _ _ (HLe.set_of _ _ (HLe.fresh _ hc3) (by assumption)) (AH.none_set hr).2
  generalize H.set c (.row [.cs (iS .i64 s.o) s.o.length, .cs (iS .i64 s.e) s.e.length, .cs (iS .i64 s.f) s.f.length, .int .i64 s.c] 0) = G at *
  refine AWp.of tt_ok (dok _) rfl ?_
  have hB0 := hB 0 []
  (repeat' ((conv => whnf); first | refine Then.mk ?_ | refine OpsA.cons ?_ | refine OpsA.nil ?_ | refine AWq.seq ?_ | refine AWq.region ?_ | refine AWq.ret ?_ | (intro c hc; (try (simp only [AH.none_iff] at hc; repeat (have hn := hc.1; replace hc := hc.2))); (first | skip)) | (apply Exists.intro; apply And.intro; (first | (focus (repeat (first | (with_reducible assumption) | ((first | refine AH.get_ne ?_ ?_); (first | (with_reducible assumption))))); done))) | (apply Exists.intro; apply And.intro; first | (with_reducible assumption) | ((try simp only [List.getElem?_drop, Nat.mul_one, Nat.add_zero, Nat.zero_add]); first | (with_reducible assumption) | rfl)) | (apply And.intro; (first | rfl | (with_reducible assumption) | omega)))) <;> (try (conv => whnf))
  refine (wInts_c c6 r 0 [] s.o o1 o2 (by simp) G hcr).mono ?_
  rintro y H' ⟨rfl, w1, rfl⟩
  have hB1 := hB w1 ([] ++ encL s.o)
  (repeat' ((conv => whnf); first | refine Then.mk ?_ | refine OpsA.cons ?_ | refine OpsA.nil ?_ | refine AWq.seq ?_ | refine AWq.region ?_ | refine AWq.ret ?_ | (intro c hc; (try (simp only [AH.none_iff] at hc; repeat (have hn := hc.1; replace hc := hc.2))); (first | skip)) | (apply Exists.intro; apply And.intro; (first | (focus (repeat (first | (with_reducible assumption) | ((first | refine AH.get_ne ?_ ?_); (first | (with_reducible assumption))))); done))) | (apply Exists.intro; apply And.intro; first | (with_reducible assumption) | ((try simp only [List.getElem?_drop, Nat.mul_one, Nat.add_zero, Nat.zero_add]); first | (with_reducible assumption) | rfl)) | (apply And.intro; (first | rfl | (with_reducible assumption) | omega)))) <;> (try (conv => whnf))
  refine (wInts_c c6 r w1 ([] ++ encL s.o) s.e e1 e2 (by simp; omega) G hcr).mono ?_
  rintro y H' ⟨rfl, w2, rfl⟩
  have hB2 := hB w2 ([] ++ encL s.o ++ encL s.e)
  (repeat' ((conv => whnf); first | refine Then.mk ?_ | refine OpsA.cons ?_ | refine OpsA.nil ?_ | refine AWq.seq ?_ | refine AWq.region ?_ | refine AWq.ret ?_ | (intro c hc; (try (simp only [AH.none_iff] at hc; repeat (have hn := hc.1; replace hc := hc.2))); (first | skip)) | (apply Exists.intro; apply And.intro; (first | (focus (repeat (first | (with_reducible assumption) | ((first | refine AH.get_ne ?_ ?_); (first | (with_reducible assumption))))); done))) | (apply Exists.intro; apply And.intro; first | (with_reducible assumption) | ((try simp only [List.getElem?_drop, Nat.mul_one, Nat.add_zero, Nat.zero_add]); first | (with_reducible assumption) | rfl)) | (apply And.intro; (first | rfl | (with_reducible assumption) | omega)))) <;> (try (conv => whnf))
  refine (wInts_c c6 r w2 ([] ++ encL s.o ++ encL s.e) s.f f1 f2 (by simp; omega) G hcr).mono ?_
  rintro y H' ⟨rfl, w3, rfl⟩
  have hB3 := hB w3 ([] ++ encL s.o ++ encL s.e ++ encL s.f)
  (repeat' ((conv => whnf); first | refine Then.mk ?_ | refine OpsA.cons ?_ | refine OpsA.nil ?_ | refine AWq.seq ?_ | refine AWq.region ?_ | refine AWq.ret ?_ | (intro c hc; (try (simp only [AH.none_iff] at hc; repeat (have hn := hc.1; replace hc := hc.2))); (first | skip)) | (apply Exists.intro; apply And.intro; (first | (focus (repeat (first | (with_reducible assumption) | ((first | refine AH.get_ne ?_ ?_); (first | (with_reducible assumption))))); done))) | (apply Exists.intro; apply And.intro; first | (with_reducible assumption) | ((try simp only [List.getElem?_drop, Nat.mul_one, Nat.add_zero, Nat.zero_add]); first | (with_reducible assumption) | rfl)) | (apply And.intro; (first | rfl | (with_reducible assumption) | omega)))) <;> (try (conv => whnf))
  refine (wInt_c c6 r w3 ([] ++ encL s.o ++ encL s.e ++ encL s.f) s.c hc0 (by simp; omega) G hcr).mono ?_
  rintro y H' ⟨rfl, w4, rfl⟩
  have hd := wDone_c c6 r w4 ([] ++ encL s.o ++ encL s.e ++ encL s.f ++ encI s.c) (by simp; omega) G hcr
  (repeat' ((conv => whnf); first | refine Then.mk ?_ | refine OpsA.cons ?_ | refine OpsA.nil ?_ | refine AWq.seq ?_ | refine AWq.region ?_ | refine AWq.ret ?_ | (intro c hc; (try (simp only [AH.none_iff] at hc; repeat (have hn := hc.1; replace hc := hc.2))); (first | skip)) | (apply Exists.intro; apply And.intro; (first | (focus (repeat (first | (with_reducible assumption) | ((first | refine AH.get_ne ?_ ?_); (first | (with_reducible assumption))))); done))) | (apply Exists.intro; apply And.intro; first | (with_reducible assumption) | ((try simp only [List.getElem?_drop, Nat.mul_one, Nat.add_zero, Nat.zero_add]); first | (with_reducible assumption) | rfl)) | (apply And.intro; (first | rfl | (with_reducible assumption) | omega)) | (refine ACall.to (hd) ?_))) <;> (try (conv => whnf))
  exact hback _ _
end Go.Proofs.Ytebflkgpbbjhnaa
/- The walks of balance: Decode. -/
namespace Go.Proofs.Ytebflkgpbbjhnaa
open Go.Fw Go
set_option linter.unusedVariables false
set_option linter.unusedSimpArgs false

def ds1 (b : List UInt8) : RS := (rdInts (0, b)).2
def ds2 (b : List UInt8) : RS := (rdInts (ds1 b)).2
def ds3 (b : List UInt8) : RS := (rdInts (ds2 b)).2
def ds4 (b : List UInt8) : RS := (rdI (ds3 b)).2
def dSol (b : List UInt8) : Sol := ⟨(rdInts (0, b)).1, (rdInts (ds1 b)).1, (rdInts (ds2 b)).1, (rdI (ds3 b)).1⟩
set_option maxHeartbeats 4000000 in
set_option maxRecDepth 8000 in
theorem decode_c (b : List UInt8) (hb : b.length ≤ 100000) (hd : SOk (dSol b)) (H : AH) :
    ACall Try.prog 28 [.cs (u8s b) b.length] H (fun y H' => y = (if endE (ds4 b) = 0 ∧ encS (dSol b) = b then .tup [.agg [.cs (iS .i64 (dSol b).o) (dSol b).o.length, .cs (iS .i64 (dSol b).e) (dSol b).e.length, .cs (iS .i64 (dSol b).f) (dSol b).f.length, .int .i64 (dSol b).c], .int .i64 0] else .tup [.agg [.nils, .nils, .nils, .int .i64 0], .int .i64 2]) ∧ H' = H) := by
  have henc := fun H => encode_c (dSol b) hd H
  refine ACall.back ?_
  obtain ⟨s, hs⟩ : ∃ s, s = dSol b := ⟨_, rfl⟩
  rw [← hs] at henc ⊢
  refine ACall_of tt_ok (dok _) Try.func28 rfl (by decide) rfl ?_
  (repeat' ((conv => whnf); first | left | refine OpsA.cons ?_ | refine OpsA.nil ?_ | refine AWq.seq ?_ | refine AWq.region ?_ | refine AWq.cond ?_ | refine AWq.skip ?_ | refine AWq.ret ?_ | refine DrawA.consD ?_ | refine DrawA.nil ?_ | refine AWq.draw (by decide +kernel) ?_ | (refine Both.mk ?_ ?_ <;> intro hc <;> (first | exact Bool.noConfusion hc | exact absurd (by assumption) hc | skip)) | (intro c hc; (try (simp only [AH.none_iff] at hc; repeat (have hn := hc.1; replace hc := hc.2))); (first | skip)) | (apply Exists.intro; apply And.intro; (first | (focus (repeat (first | (with_reducible assumption) | (with_reducible exact AH.set_same _ _ _))); done))) | (apply Exists.intro; apply And.intro; first | (with_reducible assumption) | ((try simp only [List.getElem?_drop, Nat.mul_one, Nat.add_zero, Nat.zero_add]); first | (with_reducible assumption) | rfl)) | (apply And.intro; (first | rfl | (with_reducible assumption) | exact Nat.le_of_ble_eq_true rfl | (simp <;> fail))))) <;> (try (conv => whnf))
  (obtain ⟨c2, hq_⟩ : ∃ c2, c2 = c := ⟨_, rfl⟩); subst hq_
  have hc2 : H c2 = none := hc
  refine Then.mk ?_
  (repeat' ((conv => whnf); first | refine Then.mk ?_ | left | refine OpsA.cons ?_ | refine OpsA.nil ?_ | refine AWq.seq ?_ | refine AWq.region ?_ | refine AWq.cond ?_ | refine AWq.skip ?_ | refine AWq.ret ?_ | refine DrawA.consD ?_ | refine DrawA.nil ?_ | refine AWq.draw (by decide +kernel) ?_ | (refine Both.mk ?_ ?_ <;> intro hc <;> (first | exact Bool.noConfusion hc | exact absurd (by assumption) hc | skip)) | (intro c hc; (try (simp only [AH.none_iff] at hc; repeat (have hn := hc.1; replace hc := hc.2))); (first | skip)) | (apply Exists.intro; apply And.intro; (first | (focus (repeat (first | (with_reducible assumption) | (with_reducible exact AH.set_same _ _ _))); done))) | (apply Exists.intro; apply And.intro; first | (with_reducible assumption) | ((try simp only [List.getElem?_drop, Nat.mul_one, Nat.add_zero, Nat.zero_add]); first | (with_reducible assumption) | rfl)) | (apply And.intro; (first | rfl | (with_reducible assumption) | exact Nat.le_of_ble_eq_true rfl | (simp <;> fail))))) <;> (try (conv => whnf))
  refine (Read_c b (by omega) _).mono ?_
  rintro y H' ⟨p, hp, rfl, rfl⟩
  generalize hG : H.set c2 _ = G at *
  (repeat' ((conv => whnf); first | refine Then.mk ?_ | left | refine OpsA.cons ?_ | refine OpsA.nil ?_ | refine AWq.seq ?_ | refine AWq.region ?_ | refine AWq.cond ?_ | refine AWq.skip ?_ | refine AWq.ret ?_ | refine DrawA.consD ?_ | refine DrawA.nil ?_ | refine AWq.draw (by decide +kernel) ?_ | (refine Both.mk ?_ ?_ <;> intro hc <;> (first | exact Bool.noConfusion hc | exact absurd (by assumption) hc | skip)) | (intro c hc; (try (simp only [AH.none_iff] at hc; repeat (have hn := hc.1; replace hc := hc.2))); (first | skip)) | (apply Exists.intro; apply And.intro; (first | (focus (repeat (first | (with_reducible assumption) | (with_reducible exact AH.set_same _ _ _))); done))) | (apply Exists.intro; apply And.intro; first | (with_reducible assumption) | ((try simp only [List.getElem?_drop, Nat.mul_one, Nat.add_zero, Nat.zero_add]); first | (with_reducible assumption) | rfl)) | (apply And.intro; (first | rfl | (with_reducible assumption) | exact Nat.le_of_ble_eq_true rfl | (simp <;> fail))))) <;> (try (conv => whnf))
  have c1 := rInts_c p 0 b (by omega) G
  rw [canon_ok, show (rdInts (0, b)).1 = s.o by rw [hs]; rfl, show (rdInts (0, b)).2 = ds1 b from rfl] at c1
  refine c1.mono ?_
  rintro y H' ⟨rfl, e1, b1, k1, m1, rfl⟩
  clear c1
  (repeat' ((conv => whnf); first | refine Then.mk ?_ | left | refine OpsA.cons ?_ | refine OpsA.nil ?_ | refine AWq.seq ?_ | refine AWq.region ?_ | refine AWq.cond ?_ | refine AWq.skip ?_ | refine AWq.ret ?_ | refine DrawA.consD ?_ | refine DrawA.nil ?_ | refine AWq.draw (by decide +kernel) ?_ | (refine Both.mk ?_ ?_ <;> intro hc <;> (first | exact Bool.noConfusion hc | exact absurd (by assumption) hc | skip)) | (intro c hc; (try (simp only [AH.none_iff] at hc; repeat (have hn := hc.1; replace hc := hc.2))); (first | skip)) | (apply Exists.intro; apply And.intro; (first | (focus (repeat (first | (with_reducible assumption) | (with_reducible exact AH.set_same _ _ _))); done))) | (apply Exists.intro; apply And.intro; first | (with_reducible assumption) | ((try simp only [List.getElem?_drop, Nat.mul_one, Nat.add_zero, Nat.zero_add]); first | (with_reducible assumption) | rfl)) | (apply And.intro; (first | rfl | (with_reducible assumption) | exact Nat.le_of_ble_eq_true rfl | (simp <;> fail))))) <;> (try (conv => whnf))
  have c1 := rInts_c p e1 b1 (by omega) G
  rw [k1, show (rdInts (ds1 b)).1 = s.e by rw [hs]; rfl, show (rdInts (ds1 b)).2 = ds2 b from rfl] at c1
  refine c1.mono ?_
  rintro y H' ⟨rfl, e2, b2, k2, m2, rfl⟩
  clear c1
  (repeat' ((conv => whnf); first | refine Then.mk ?_ | left | refine OpsA.cons ?_ | refine OpsA.nil ?_ | refine AWq.seq ?_ | refine AWq.region ?_ | refine AWq.cond ?_ | refine AWq.skip ?_ | refine AWq.ret ?_ | refine DrawA.consD ?_ | refine DrawA.nil ?_ | refine AWq.draw (by decide +kernel) ?_ | (refine Both.mk ?_ ?_ <;> intro hc <;> (first | exact Bool.noConfusion hc | exact absurd (by assumption) hc | skip)) | (intro c hc; (try (simp only [AH.none_iff] at hc; repeat (have hn := hc.1; replace hc := hc.2))); (first | skip)) | (apply Exists.intro; apply And.intro; (first | (focus (repeat (first | (with_reducible assumption) | (with_reducible exact AH.set_same _ _ _))); done))) | (apply Exists.intro; apply And.intro; first | (with_reducible assumption) | ((try simp only [List.getElem?_drop, Nat.mul_one, Nat.add_zero, Nat.zero_add]); first | (with_reducible assumption) | rfl)) | (apply And.intro; (first | rfl | (with_reducible assumption) | exact Nat.le_of_ble_eq_true rfl | (simp <;> fail))))) <;> (try (conv => whnf))
  have c1 := rInts_c p e2 b2 (by omega) G
  rw [k2, show (rdInts (ds2 b)).1 = s.f by rw [hs]; rfl, show (rdInts (ds2 b)).2 = ds3 b from rfl] at c1
  refine c1.mono ?_
  rintro y H' ⟨rfl, e3, b3, k3, m3, rfl⟩
  clear c1
  (repeat' ((conv => whnf); first | refine Then.mk ?_ | left | refine OpsA.cons ?_ | refine OpsA.nil ?_ | refine AWq.seq ?_ | refine AWq.region ?_ | refine AWq.cond ?_ | refine AWq.skip ?_ | refine AWq.ret ?_ | refine DrawA.consD ?_ | refine DrawA.nil ?_ | refine AWq.draw (by decide +kernel) ?_ | (refine Both.mk ?_ ?_ <;> intro hc <;> (first | exact Bool.noConfusion hc | exact absurd (by assumption) hc | skip)) | (intro c hc; (try (simp only [AH.none_iff] at hc; repeat (have hn := hc.1; replace hc := hc.2))); (first | skip)) | (apply Exists.intro; apply And.intro; (first | (focus (repeat (first | (with_reducible assumption) | (with_reducible exact AH.set_same _ _ _))); done))) | (apply Exists.intro; apply And.intro; first | (with_reducible assumption) | ((try simp only [List.getElem?_drop, Nat.mul_one, Nat.add_zero, Nat.zero_add]); first | (with_reducible assumption) | rfl)) | (apply And.intro; (first | rfl | (with_reducible assumption) | exact Nat.le_of_ble_eq_true rfl | (simp <;> fail))))) <;> (try (conv => whnf))
  have c1 := rInt_c p e3 b3 (by omega) G
  rw [k3, show (rdI (ds3 b)).1 = s.c by rw [hs]; rfl, show (rdI (ds3 b)).2 = ds4 b from rfl] at c1
  refine c1.mono ?_
  rintro y H' ⟨rfl, e4, b4, k4, m4, rfl⟩
  clear c1
  have hen := rEnd_c p e4 b4 G
  rw [k4] at hen
  generalize endE (ds4 b) = ee at *
  have hG2 : G c2 = some (.row [.nils, .nils, .nils, .int .i64 0] 0) := by rw [← hG]; exact AH.set_same _ _ _
  have hpc : c2 ≠ p := AH.none_ne' hp hG2
  have hR2 : RdH G p e4 b4 c2 = some (.row [.nils, .nils, .nils, .int .i64 0] 0) := by unfold RdH; rw [AH.set_ne _ _ hpc]; exact hG2
  have hRH : HLe H (RdH G p e4 b4) := by
    unfold RdH
    rw [← hG]
    exact HLe.set_of _ _ (HLe.fresh _ hc2) (by rw [← hG] at hp; exact (AH.none_set hp).2)
  generalize hRR : RdH G p e4 b4 = R at *
  (repeat' ((conv => whnf); first | left | refine OpsA.cons ?_ | refine OpsA.nil ?_ | refine AWq.seq ?_ | refine AWq.region ?_ | refine AWq.cond ?_ | refine AWq.skip ?_ | refine AWq.ret ?_ | refine DrawA.consD ?_ | refine DrawA.nil ?_ | refine AWq.draw (by decide +kernel) ?_ | (refine Both.mk ?_ ?_ <;> intro hc <;> (first | exact Bool.noConfusion hc | exact absurd (by assumption) hc | skip)) | (intro c hc; (try (simp only [AH.none_iff] at hc; repeat (have hn := hc.1; replace hc := hc.2))); (first | skip)) | (apply Exists.intro; apply And.intro; (first | (focus (repeat (first | (with_reducible assumption) | (with_reducible exact AH.set_same _ _ _))); done))) | (apply Exists.intro; apply And.intro; first | (with_reducible assumption) | ((try simp only [List.getElem?_drop, Nat.mul_one, Nat.add_zero, Nat.zero_add]); first | (with_reducible assumption) | rfl)) | (apply And.intro; (first | rfl | (with_reducible assumption) | exact Nat.le_of_ble_eq_true rfl | (simp <;> fail))))) <;> (try (conv => whnf))
  refine Then.mk (AWq.in ?_)
  refine AWp_segP 5 s.av rfl rfl (by assumption) rfl rfl ?_
  refine AWp.of tt_ok (dok _) rfl ?_
  by_cases he : ee = 0
  · by_cases heq : encS s = b
    · rw [if_pos ⟨he, heq⟩]
      (repeat' ((conv => whnf); first | refine Then.mk ?_ | left | refine OpsA.cons ?_ | refine OpsA.nil ?_ | refine AWq.seq ?_ | refine AWq.region ?_ | refine AWq.cond ?_ | refine AWq.skip ?_ | refine AWq.ret ?_ | refine DrawA.consD ?_ | refine DrawA.nil ?_ | refine AWq.draw (by decide +kernel) ?_ | (apply Exists.intro; apply And.intro; exact hen) | (apply Exists.intro; apply And.intro; exact henc _) | (refine Both.mk ?_ ?_ <;> intro hc <;> (first | exact Bool.noConfusion hc | exact absurd (by assumption) hc | skip)) | (intro c hc; (try (simp only [AH.none_iff] at hc; repeat (have hn := hc.1; replace hc := hc.2))); (first | skip)) | (apply Exists.intro; apply And.intro; (first | (focus (repeat (first | (with_reducible assumption) | (with_reducible exact AH.set_same _ _ _))); done))) | (apply Exists.intro; apply And.intro; first | (with_reducible assumption) | ((try simp only [List.getElem?_drop, Nat.mul_one, Nat.add_zero, Nat.zero_add]); first | (with_reducible assumption) | rfl)) | (apply And.intro; (first | rfl | (with_reducible assumption) | exact Nat.le_of_ble_eq_true rfl | (simp <;> fail))))) <;> (try (conv => whnf))
      exact HLe.set_of _ _ hRH hc2
    · rw [if_neg fun k => heq k.2]
      (repeat' ((conv => whnf); first | refine Then.mk ?_ | left | refine OpsA.cons ?_ | refine OpsA.nil ?_ | refine AWq.seq ?_ | refine AWq.region ?_ | refine AWq.cond ?_ | refine AWq.skip ?_ | refine AWq.ret ?_ | refine DrawA.consD ?_ | refine DrawA.nil ?_ | refine AWq.draw (by decide +kernel) ?_ | (apply Exists.intro; apply And.intro; exact hen) | (apply Exists.intro; apply And.intro; exact henc _) | (refine Both.mk ?_ ?_ <;> intro hc <;> (first | exact Bool.noConfusion hc | exact absurd (by assumption) hc | skip)) | (intro c hc; (try (simp only [AH.none_iff] at hc; repeat (have hn := hc.1; replace hc := hc.2))); (first | skip)) | (apply Exists.intro; apply And.intro; (first | (focus (repeat (first | (with_reducible assumption) | (with_reducible exact AH.set_same _ _ _))); done))) | (apply Exists.intro; apply And.intro; first | (with_reducible assumption) | ((try simp only [List.getElem?_drop, Nat.mul_one, Nat.add_zero, Nat.zero_add]); first | (with_reducible assumption) | rfl)) | (apply And.intro; (first | rfl | (with_reducible assumption) | exact Nat.le_of_ble_eq_true rfl | (simp <;> fail))))) <;> (try (conv => whnf))
      exact HLe.set_of _ _ hRH hc2
  · rw [if_neg fun k => he k.1]
    (repeat' ((conv => whnf); first | refine Then.mk ?_ | left | refine OpsA.cons ?_ | refine OpsA.nil ?_ | refine AWq.seq ?_ | refine AWq.region ?_ | refine AWq.cond ?_ | refine AWq.skip ?_ | refine AWq.ret ?_ | refine DrawA.consD ?_ | refine DrawA.nil ?_ | refine AWq.draw (by decide +kernel) ?_ | (apply Exists.intro; apply And.intro; exact hen) | (apply Exists.intro; apply And.intro; exact henc _) | (refine Both.mk ?_ ?_ <;> intro hc <;> (first | exact Bool.noConfusion hc | exact absurd (by assumption) hc | skip)) | (intro c hc; (try (simp only [AH.none_iff] at hc; repeat (have hn := hc.1; replace hc := hc.2))); (first | skip)) | (apply Exists.intro; apply And.intro; (first | (focus (repeat (first | (with_reducible assumption) | (with_reducible exact AH.set_same _ _ _))); done))) | (apply Exists.intro; apply And.intro; first | (with_reducible assumption) | ((try simp only [List.getElem?_drop, Nat.mul_one, Nat.add_zero, Nat.zero_add]); first | (with_reducible assumption) | rfl)) | (apply And.intro; (first | rfl | (with_reducible assumption) | exact Nat.le_of_ble_eq_true rfl | (simp <;> fail))))) <;> (try (conv => whnf))
    exact HLe.set_of _ _ hRH hc2
end Go.Proofs.Ytebflkgpbbjhnaa
/- The plain law of Encode and Decode. -/
namespace Go.Proofs.Ytebflkgpbbjhnaa
open Go.Fw Go
set_option linter.unusedVariables false
set_option linter.unusedSimpArgs false

theorem rdU_le (s : RS) : (rdU s).2.2.length ≤ s.2.length := by
  unfold rdU
  split
  · exact Nat.zero_le _
  · split
    · rename_i n r h; exact (rdN_lt h).2
    · exact Nat.zero_le _
theorem rdI_I64 (s : RS) : I64 (rdI s).1 := unzz_range (rdU_lt s)
theorem rdL_I64 : ∀ (k : Nat) (s : RS), (∀ x ∈ (rdL k s).1, I64 x) ∧ (rdL k s).1.length ≤ k ∧ (rdL k s).2.2.length ≤ s.2.length
  | 0, s => ⟨fun x hx => (by simp [rdL] at hx), Nat.le_refl _, Nat.le_refl _⟩
  | k + 1, s => by
    obtain ⟨h1, h2, h3⟩ := rdL_I64 k (rdI s).2
    unfold rdL
    split
    · exact ⟨fun x hx => (by simp at hx), Nat.zero_le _, Nat.le_refl _⟩
    · refine ⟨fun x hx => ?_, ?_, Nat.le_trans h3 (rdU_le s)⟩
      · rcases List.mem_cons.1 hx with rfl | hx
        · exact rdI_I64 s
        · exact h1 x hx
      · show ((rdL k (rdI s).2).1.length + 1) ≤ k + 1
        omega
theorem rdLen_le (s : RS) : (rdLen s).1 ≤ s.2.length ∧ (rdLen s).2.2.length ≤ s.2.length := by
  have h := rdU_le s
  unfold rdLen
  split
  · exact ⟨Nat.zero_le _, Nat.zero_le _⟩
  · rename_i hn
    refine ⟨?_, h⟩
    by_cases he : (rdU s).2.1 = 0
    · have : ¬ (rdU s).2.2.length < (rdU s).1 := fun k => hn ⟨he, k⟩
      omega
    · have : (rdU s).1 = 0 := by
        unfold rdU at he ⊢
        split
        · rfl
        · rename_i h0
          rw [if_neg h0] at he
          split
          · rename_i n r hm
            rw [hm] at he; exact absurd rfl he
          · rfl
      omega
theorem rdInts_I64 (s : RS) : (∀ x ∈ (rdInts s).1, I64 x) ∧ (rdInts s).1.length ≤ s.2.length ∧ (rdInts s).2.2.length ≤ s.2.length := by
  obtain ⟨h1, h2, h3⟩ := rdL_I64 (rdLen s).1 (rdLen s).2
  obtain ⟨k1, k2⟩ := rdLen_le s
  unfold rdInts
  split
  · exact ⟨fun x hx => (by simp at hx), Nat.zero_le _, Nat.le_trans h3 k2⟩
  · exact ⟨h1, by omega, by omega⟩
theorem dSol_ok {b : List UInt8} (hb : b.length ≤ 5000) : SOk (dSol b) := by
  obtain ⟨a1, a2, a3⟩ := rdInts_I64 (0, b)
  obtain ⟨b1, b2, b3⟩ := rdInts_I64 (ds1 b)
  obtain ⟨c1, c2, c3⟩ := rdInts_I64 (ds2 b)
  have e1 : (ds1 b).2.length ≤ b.length := a3
  have e2 : (ds2 b).2.length ≤ (ds1 b).2.length := b3
  have a2 : (rdInts (0, b)).1.length ≤ b.length := a2
  exact ⟨⟨by show (rdInts (0, b)).1.length ≤ 5000; omega, a1⟩, ⟨by show (rdInts (ds1 b)).1.length ≤ 5000; omega, b1⟩, ⟨by show (rdInts (ds2 b)).1.length ≤ 5000; omega, c1⟩, rdI_I64 _⟩
theorem dSol_enc {s : Sol} (h : SOk s) : dSol (encS s) = s ∧ endE (ds4 (encS s)) = 0 := by
  obtain ⟨⟨o1, o2⟩, ⟨e1, e2⟩, ⟨f1, f2⟩, hc⟩ := h
  have r1 : rdInts (0, encS s) = (s.o, (0, encL s.e ++ encL s.f ++ encI s.c)) := by
    unfold encS
    rw [List.append_assoc, List.append_assoc, ← List.append_assoc (encL s.e)]
    exact rdInts_enc o2 (by omega) _
  have h1 : ds1 (encS s) = (0, encL s.e ++ encL s.f ++ encI s.c) := by unfold ds1; rw [r1]
  have r2 : rdInts (ds1 (encS s)) = (s.e, (0, encL s.f ++ encI s.c)) := by
    rw [h1, List.append_assoc]
    exact rdInts_enc e2 (by omega) _
  have h2 : ds2 (encS s) = (0, encL s.f ++ encI s.c) := by unfold ds2; rw [r2]
  have r3 : rdInts (ds2 (encS s)) = (s.f, (0, encI s.c)) := by
    rw [h2]
    exact rdInts_enc f2 (by omega) _
  have h3 : ds3 (encS s) = (0, encI s.c) := by unfold ds3; rw [r3]
  have r4 : rdI (ds3 (encS s)) = (s.c, (0, [])) := by
    rw [h3]
    have := rdI_enc hc []
    rwa [List.append_nil] at this
  have h4 : ds4 (encS s) = (0, []) := by unfold ds4; rw [r4]
  refine ⟨?_, by rw [h4]; rfl⟩
  unfold dSol
  rw [r1, r2, r3, r4]
end Go.Proofs.Ytebflkgpbbjhnaa
/- The frame of the abstract walk, part 34: a call that makes a row takes the name of a spare one. -/
set_option linter.unusedVariables false
set_option linter.unusedSimpArgs false
namespace Go.Fw
open Go.RowKit

variable {P : Program} {H : AH}

theorem ACall.onto {g : FuncId} {args : List AV} {es n q : Nat} {cells : List AV} (hq : H q = some (.row [] 0))
    (h : ACall P g args H fun y H' => ∃ r, H r = none ∧ ∃ v, y = .sl r v es 0 n none ∧ H' = H.set r (.row cells v)) :
    ACall P g args H fun y H' => y = .sl q 1 es 0 n none ∧ H' = H.set q (.row cells 1) := by
  refine ⟨h.ent, fun κ F B w0 w cargs hI hA => (h.run κ F B w0 w cargs hI hA).mono ?_⟩
  rintro e w' ⟨x, he, y, H', κ', F', h1, h2, I, hv, r, hr, v, rfl, rfl⟩
  have hne : q ≠ r := fun e => by rw [e, hr] at hq; cases hq
  obtain ⟨i, hi, _, _⟩ := I.objs _ _ (AH.set_same H r (.row cells v))
  obtain ⟨hle, I'⟩ := I.rename (q := q) (u := 0) (AH.set_same H r (.row cells v)) hi (by rw [AH.set_ne _ _ hne]; exact hq) hne
  rw [AH.del_set _ _ _ hr] at I'
  exact ⟨x, he, _, _, _, F', h1.trans hle, h2, I', VR.rename hi (KM.put_same ..) hv, rfl, rfl⟩
end Go.Fw
/- The walks of the reference: the writing of numbers (as WireE of h02, Ints with its row). -/
namespace Go.Proofs.Ytebflkgpbbjhnaa
open Go.Fw Go
set_option linter.unusedVariables false
set_option linter.unusedSimpArgs false

theorem encI_len {n : Int} (h : I64 n) : (encI n).length ≤ 10 := encI_le h
theorem encIs_len10 (l : List Int) (h : ∀ x ∈ l, I64 x) : (encIs l).length ≤ 10 * l.length := by
  induction l with
  | nil => exact Nat.zero_le _
  | cons a l ih =>
    have h1 := encI_le (h a (by simp))
    have h2 := ih fun x hx => h x (by simp [hx])
    show (encI a ++ encIs l).length ≤ _
    rw [List.length_append, List.length_cons]; omega
set_option maxRecDepth 8000 in
theorem ezig_c (n : Int) (h1 : -9223372036854775808 ≤ n) (h2 : n ≤ 9223372036854775807) (H : AH) : ACall Try.prog 79 [.int .i64 n] H (fun y H' => y = .int .u64 (zz n) ∧ H' = H) := by
  refine ACall_of tt_ok (dok _) Try.func79 rfl (by decide) rfl ?_
  (repeat' ((conv => whnf); first | refine Then.mk ?_ | refine OpsA.cons ?_ | refine OpsA.nil ?_ | refine AWq.seq ?_ | refine AWq.region ?_ | refine AWq.cond ?_ | refine AWq.skip ?_ | refine AWq.ret ?_ | (refine Both.mk ?_ ?_ <;> intro hc <;> (first | exact Bool.noConfusion hc | skip)) | (intro c hc; (try (simp only [AH.none_iff] at hc; repeat (have hn := hc.1; replace hc := hc.2))); (first | (refine i64_k hc ?_ ?_ ?_ ; omega; omega; (clear hc; intro hc; subst hc)) | (refine u64_k hc ?_ ?_ ?_ ; omega; omega; (clear hc; intro hc; subst hc)) | skip)) | (apply And.intro; (first | rfl)))) <;> (try (conv => whnf))
  · exact ⟨congrArg (AV.int .u64) (by unfold zz; rw [if_pos (by omega)]; omega), rfl⟩
  · exact ⟨congrArg (AV.int .u64) (by unfold zz; rw [if_neg (by omega)]; omega), rfl⟩

set_option maxRecDepth 8000 in
theorem eUint_s (n : Nat) (hn : n < 2 ^ 64) (H : AH) :
    ACall Try.prog 78 [.int .u64 n] H (fun y H' => ∃ r, H r = none ∧ ∃ v, y = .sl r v 1 0 (encN n).length none ∧ H' = H.set r (.row (u8s (encN n)) v)) := by
  refine ACall_of tt_ok (dok _) Try.func78 rfl (by decide) rfl ?_
  (repeat' ((conv => whnf); first | refine Then.mk ?_ | left | refine OpsA.cons ?_ | refine OpsA.nil ?_ | refine AWq.seq ?_ | refine AWq.region ?_ | refine AWq.cond ?_ | refine AWq.block ?_ | refine AWq.skip ?_ | refine AWq.ret ?_ | refine AWq.exit ?_ | refine AWq.loop ?_ | (refine Both.mk ?_ ?_ <;> intro hc <;> (first | exact Bool.noConfusion hc | skip)) | (intro c hc; (try (simp only [AH.none_iff] at hc; repeat (have hn := hc.1; replace hc := hc.2))); (first | (have hc2 := Eq.trans hc (by with_reducible assumption); clear hc; subst hc2) | (refine u8_k hc ?_ ?_ ?_ ; omega; omega; (clear hc; intro hc; subst hc)) | subst hc | skip)) | (apply Exists.intro; apply And.intro; (first | (focus (repeat (first | (with_reducible assumption) | (with_reducible exact AH.set_same _ _ _))); done))) | (apply And.intro; (first | rfl | (with_reducible assumption) | omega | (simp <;> fail))))) <;> (try (conv => whnf))
  refine AWp_nilrow1 3 1 rfl rfl fun r hr => ?_
  have hl10 := encN_len10 hn
  have hq : ∀ m : Nat, m < 2 ^ 64 → IntKind.u64.wrap ((m : Int).tdiv 128) = ((m / 128 : Nat) : Int) := fun m hm => by
    rw [Int.tdiv_eq_ediv_of_nonneg (by omega), wrap_u64']; omega
  have hb : ∀ m : Nat, IntKind.u8.wrap (IntKind.u64.wrap (128 + (m : Int).tmod 128)) = ((UInt8.ofNat (m % 128 + 128)).toNat : Int) := fun m => by
    rw [u8_ofNat (by omega), Int.tmod_eq_emod_of_nonneg (by omega)]
    show (_ % 18446744073709551616) % 256 = _
    omega
  refine AWp_loop (σ := Nat × List UInt8 × Nat) (0 :: 3 :: 4 :: 5 :: 6 :: 7 :: 8 :: 9 :: 10 :: 11 :: 12 :: 13 :: 14 :: []) (fun (m, pre, u) => [(0, .int .u64 m), (3, .sl r u 1 0 pre.length none)]) (fun (m, pre, u) => H.set r (.row (u8s pre) u)) (fun (m, pre, u) => m < 2 ^ 64 ∧ encN n = pre ++ encN m) (fun (m, pre, u) => m) (n, [], 0) rfl ?_ ?_ ?_ ?_
  · exact ⟨hn, rfl⟩
  · exact ⟨rfl, rfl, trivial⟩
  · exact HLe.refl _
  · rintro ⟨m, pre, u⟩ ⟨hm, he⟩
    refine AWp.of tt_ok (dok _) rfl ?_
    have hpl : pre.length ≤ 9 := by
      have := congrArg List.length he
      have := encN_pos m
      rw [List.length_append] at *; omega
    have hqm := hq m hm
    have hbm := hb m
    clear hq hb
    (repeat' ((conv => whnf); first | refine Then.mk ?_ | left | refine OpsA.cons ?_ | refine OpsA.nil ?_ | refine AWq.seq ?_ | refine AWq.region ?_ | refine AWq.cond ?_ | refine AWq.block ?_ | refine AWq.skip ?_ | refine AWq.ret ?_ | refine AWq.exit ?_ | refine AWq.loop ?_ | (refine Both.mk ?_ ?_ <;> intro hc <;> (first | exact Bool.noConfusion hc | skip)) | (intro c hc; (try (simp only [AH.none_iff] at hc; repeat (have hn := hc.1; replace hc := hc.2))); (first | (have hc2 := Eq.trans hc (by with_reducible assumption); clear hc; subst hc2) | (refine u8_k hc ?_ ?_ ?_ ; omega; omega; (clear hc; intro hc; subst hc)) | subst hc | skip)) | (apply Exists.intro; apply And.intro; (first | (focus (repeat (first | (with_reducible assumption) | (with_reducible exact AH.set_same _ _ _))); done))) | (apply And.intro; (first | rfl | (with_reducible assumption) | omega | (simp <;> fail))))) <;> (try (conv => whnf))
    · refine ⟨(m / 128, pre ++ [UInt8.ofNat (m % 128 + 128)], u + 1), ⟨by omega, by rw [he, encN_ge (by omega)]; simp⟩, by show m / 128 < m; omega, ⟨(by first | exact congrArg (AV.int .u64) hqm | rfl), by rw [List.length_append]; rfl, trivial⟩, ?_⟩
      show HLe (H.set r (.row (u8s (pre ++ [UInt8.ofNat (m % 128 + 128)])) (u + 1))) _
      rw [← u8s_append]
      show HLe (H.set r (.row (u8s pre ++ [.int .u8 ((UInt8.ofNat (m % 128 + 128)).toNat : Int)]) (u + 1))) _
      rw [← hbm]
      exact HLe.twice _ _ _ _
    · have e : (m : Int) = ((UInt8.ofNat m).toNat : Int) := by rw [u8_ofNat (by omega)]
      rw [he, encN_lt (by omega)]
      refine ⟨u + 1, by rw [List.length_append]; rfl, ?_⟩
      rw [← u8s_append]
      refine (AH.set_set H r _ _).trans ?_
      rw [e]
      rfl

theorem eUint_k (n : Nat) (hn : n < 2 ^ 64) (H : AH) : ACall Try.prog 78 [.int .u64 n] H (fun y H' => y = .cs (u8s (encN n)) (encN n).length ∧ H' = H) :=
  ACall.cold (es := 1) (by simp) (eUint_s n hn H)

set_option maxRecDepth 8000 in
theorem eInt_k (n : Int) (hn : I64 n) (H : AH) : ACall Try.prog 58 [.int .i64 n] H (fun y H' => y = .cs (u8s (encI n)) (encI n).length ∧ H' = H) := by
  refine ACall_of tt_ok (dok _) Try.func58 rfl (by decide) rfl ?_
  (repeat' ((conv => whnf); first | refine Then.mk ?_ | refine OpsA.cons ?_ | refine OpsA.nil ?_ | refine AWq.seq ?_ | refine AWq.region ?_ | refine AWq.ret ?_ | (apply And.intro; (first | rfl)) | (refine ACall.to (ezig_c n hn.1 hn.2 _) ?_) | (refine ACall.to (eUint_k (zz n) (zz_lt hn.1 hn.2) _) ?_))) <;> (try (conv => whnf))

set_option maxRecDepth 8000 in
theorem eInts_s (l : List Int) (hl : l.length ≤ 5000) (hr : ∀ x ∈ l, I64 x) (H : AH) : ACall Try.prog 57 [.cs (iS .i64 l) l.length] H (fun y H' => ∃ r, H r = none ∧ ∃ v, y = .sl r v 1 0 (encL l).length none ∧ H' = H.set r (.row (u8s (encL l)) v)) := by
  have hl10 := encN_len10 (n := l.length) (by omega)
  have hlen : ∀ k, (encN l.length ++ encIs (l.take k)).length ≤ 60000 := fun k => by
    have := encIs_len10 (l.take k) (fun x h => hr x (List.mem_of_mem_take h))
    rw [List.length_take] at this
    rw [List.length_append]; omega
  refine ACall_of tt_ok (dok _) Try.func57 rfl (by decide) rfl ?_
  (repeat' ((conv => whnf); first | refine Then.mk ?_ | refine OpsA.cons ?_ | refine OpsA.nil ?_ | refine AWq.seq ?_ | refine AWq.region ?_ | refine AWq.cond ?_ | refine AWq.block ?_ | refine AWq.skip ?_ | refine AWq.ret ?_ | refine AWq.exit ?_ | refine AWq.loop ?_ | (refine Both.mk ?_ ?_ <;> intro hc <;> (first | exact Bool.noConfusion hc | (exfalso; omega) | skip)) | (intro c hc; (try (simp only [AH.none_iff] at hc; repeat (have hn := hc.1; replace hc := hc.2))); (first | (refine i64_k hc ?_ ?_ ?_ ; omega; omega; (clear hc; intro hc; subst hc)) | (refine u64_k hc ?_ ?_ ?_ ; omega; omega; (clear hc; intro hc; subst hc)) | skip)) | (apply Exists.intro; apply And.intro; (first | (focus (repeat (first | (with_reducible assumption) | (with_reducible exact AH.set_same _ _ _))); done))) | (apply Exists.intro; apply And.intro; first | (with_reducible assumption) | ((try simp only [List.getElem?_drop, Nat.mul_one, Nat.add_zero, Nat.zero_add]); first | (with_reducible assumption) | (refine iS_get ?_; omega) | rfl)) | (apply And.intro; (first | rfl | (with_reducible assumption) | omega | (simp <;> fail) | (simp <;> omega) | (focus (repeat' (first | (with_reducible assumption) | exact one_u8s _ | rfl)); done))))) <;> (try (conv => whnf))
  refine (eUint_s l.length (by omega) _).mono ?_
  rintro y H' ⟨r, hr0, v, rfl, rfl⟩
  (repeat' ((conv => whnf); first | refine Then.mk ?_ | refine OpsA.cons ?_ | refine OpsA.nil ?_ | refine AWq.seq ?_ | refine AWq.region ?_ | refine AWq.cond ?_ | refine AWq.block ?_ | refine AWq.skip ?_ | refine AWq.ret ?_ | refine AWq.exit ?_ | refine AWq.loop ?_ | (refine Both.mk ?_ ?_ <;> intro hc <;> (first | exact Bool.noConfusion hc | (exfalso; omega) | skip)) | (intro c hc; (try (simp only [AH.none_iff] at hc; repeat (have hn := hc.1; replace hc := hc.2))); (first | (refine i64_k hc ?_ ?_ ?_ ; omega; omega; (clear hc; intro hc; subst hc)) | (refine u64_k hc ?_ ?_ ?_ ; omega; omega; (clear hc; intro hc; subst hc)) | skip)) | (apply Exists.intro; apply And.intro; (first | (focus (repeat (first | (with_reducible assumption) | (with_reducible exact AH.set_same _ _ _))); done))) | (apply Exists.intro; apply And.intro; first | (with_reducible assumption) | ((try simp only [List.getElem?_drop, Nat.mul_one, Nat.add_zero, Nat.zero_add]); first | (with_reducible assumption) | (refine iS_get ?_; omega) | rfl)) | (apply And.intro; (first | rfl | (with_reducible assumption) | omega | (simp <;> fail) | (simp <;> omega) | (focus (repeat' (first | (with_reducible assumption) | exact one_u8s _ | rfl)); done))))) <;> (try (conv => whnf))
  refine AWp_loop (σ := Nat × Nat) (3 :: 4 :: 9 :: 10 :: 11 :: 12 :: 13 :: 14 :: 15 :: 16 :: 17 :: 18 :: 19 :: 20 :: 21 :: []) (fun (k, u) => [(4, .int .i64 k), (3, .sl r u 1 0 (encN l.length ++ encIs (l.take k)).length none)]) (fun (k, u) => AH.set H r (.row (u8s (encN l.length ++ encIs (l.take k))) u)) (fun (k, u) => k ≤ l.length) (fun (k, u) => l.length - k) (0, v) rfl ?_ ?_ ?_ ?_
  · exact Nat.zero_le _
  · refine ⟨rfl, ?_, trivial⟩
    show _ = AV.sl r v 1 0 (encN l.length ++ []).length none
    rw [List.append_nil]; rfl
  · show HLe (AH.set H r (.row (u8s (encN l.length ++ [])) v)) _
    rw [List.append_nil]; exact HLe.refl _
  · rintro ⟨k, u⟩ hk
    have hk : k ≤ l.length := hk
    refine AWp.of tt_ok (dok _) rfl ?_
    have hlk := hlen k
    by_cases hk' : k < l.length
    · have hx : I64 (l.getD (k : Int).toNat 0) := by
        have : l.getD (k : Int).toNat 0 = l[k] := by rw [Int.toNat_natCast]; simp [hk']
        rw [this]; exact hr _ (List.getElem_mem hk')
      have hxl := encI_len hx
      have hst : encIs (l.take (k + 1)) = encIs (l.take k) ++ encI (l.getD (k : Int).toNat 0) := by
        have e : l.getD (k : Int).toNat 0 = l[k] := by rw [Int.toNat_natCast]; simp [hk']
        rw [e, List.take_add_one, List.getElem?_eq_getElem hk']
        unfold encIs; rw [List.flatMap_append]; simp
      (repeat' ((conv => whnf); first | refine Then.mk ?_ | refine OpsA.cons ?_ | refine OpsA.nil ?_ | refine AWq.seq ?_ | refine AWq.region ?_ | refine AWq.cond ?_ | refine AWq.block ?_ | refine AWq.skip ?_ | refine AWq.ret ?_ | refine AWq.exit ?_ | refine AWq.loop ?_ | (refine Both.mk ?_ ?_ <;> intro hc <;> (first | exact Bool.noConfusion hc | (exfalso; omega) | skip)) | (intro c hc; (try (simp only [AH.none_iff] at hc; repeat (have hn := hc.1; replace hc := hc.2))); (first | (refine i64_k hc ?_ ?_ ?_ ; omega; omega; (clear hc; intro hc; subst hc)) | (refine u64_k hc ?_ ?_ ?_ ; omega; omega; (clear hc; intro hc; subst hc)) | skip)) | (apply Exists.intro; apply And.intro; (first | (focus (repeat (first | (with_reducible assumption) | (with_reducible exact AH.set_same _ _ _))); done))) | (apply Exists.intro; apply And.intro; first | (with_reducible assumption) | ((try simp only [List.getElem?_drop, Nat.mul_one, Nat.add_zero, Nat.zero_add]); first | (with_reducible assumption) | (refine iS_get ?_; omega) | rfl)) | (apply And.intro; (first | rfl | (with_reducible assumption) | omega | (simp <;> fail) | (simp <;> omega) | (focus (repeat' (first | (with_reducible assumption) | exact one_u8s _ | rfl)); done))) | (refine ACall.to (eInt_k (l.getD (k : Int).toNat 0) hx _) ?_))) <;> (try (conv => whnf))
      refine ⟨(k + 1, u + 1), by show k + 1 ≤ l.length; omega, by show l.length - (k + 1) < l.length - k; omega, ⟨congrArg (AV.int .i64) (by omega), ?_, trivial⟩, ?_⟩
      · show _ = AV.sl r (u + 1) 1 0 (encN l.length ++ encIs (l.take (k + 1))).length none
        rw [hst, ← List.append_assoc, List.length_append (bs := encI _)]; rfl
      · show HLe (AH.set H r (.row (u8s (encN l.length ++ encIs (l.take (k + 1)))) (u + 1))) _
        rw [hst, ← List.append_assoc, ← u8s_append (encN l.length ++ _)]
        exact HLe.twice _ _ _ _
    · have hkl : k = l.length := by omega
      subst hkl
      (repeat' ((conv => whnf); first | refine Then.mk ?_ | refine OpsA.cons ?_ | refine OpsA.nil ?_ | refine AWq.seq ?_ | refine AWq.region ?_ | refine AWq.cond ?_ | refine AWq.block ?_ | refine AWq.skip ?_ | refine AWq.ret ?_ | refine AWq.exit ?_ | refine AWq.loop ?_ | (refine Both.mk ?_ ?_ <;> intro hc <;> (first | exact Bool.noConfusion hc | (exfalso; omega) | skip)) | (intro c hc; (try (simp only [AH.none_iff] at hc; repeat (have hn := hc.1; replace hc := hc.2))); (first | (refine i64_k hc ?_ ?_ ?_ ; omega; omega; (clear hc; intro hc; subst hc)) | (refine u64_k hc ?_ ?_ ?_ ; omega; omega; (clear hc; intro hc; subst hc)) | skip)) | (apply Exists.intro; apply And.intro; (first | (focus (repeat (first | (with_reducible assumption) | (with_reducible exact AH.set_same _ _ _))); done))) | (apply Exists.intro; apply And.intro; first | (with_reducible assumption) | ((try simp only [List.getElem?_drop, Nat.mul_one, Nat.add_zero, Nat.zero_add]); first | (with_reducible assumption) | (refine iS_get ?_; omega) | rfl)) | (apply And.intro; (first | rfl | (with_reducible assumption) | omega | (simp <;> fail) | (simp <;> omega) | (focus (repeat' (first | (with_reducible assumption) | exact one_u8s _ | rfl)); done))))) <;> (try (conv => whnf))
      refine ⟨u, ?_, ?_⟩
      · rw [List.take_length]; rfl
      · show AH.set H r (.row (u8s (encN l.length ++ encIs (l.take l.length))) u) = _
        rw [List.take_length]; rfl

theorem eInts_k (l : List Int) (hl : l.length ≤ 5000) (hr : ∀ x ∈ l, I64 x) (H : AH) : ACall Try.prog 57 [.cs (iS .i64 l) l.length] H (fun y H' => y = .cs (u8s (encL l)) (encL l).length ∧ H' = H) :=
  ACall.cold (es := 1) (by simp) (eInts_s l hl hr H)
end Go.Proofs.Ytebflkgpbbjhnaa
/- The walks of the reference: Encode. -/
namespace Go.Proofs.Ytebflkgpbbjhnaa
open Go.Fw Go
set_option linter.unusedVariables false
set_option linter.unusedSimpArgs false

set_option maxHeartbeats 4000000 in
set_option maxRecDepth 8000 in
theorem rencode_c (s : Sol) (hs : SOk s) (H : AH) :
    ACall Try.prog 30 [.agg [.cs (iS .i64 s.o) s.o.length, .cs (iS .i64 s.e) s.e.length, .cs (iS .i64 s.f) s.f.length, .int .i64 s.c]] H (fun y H' => y = .cs (u8s (encS s)) (encS s).length ∧ H' = H) := by
  obtain ⟨⟨o1, o2⟩, ⟨e1, e2⟩, ⟨f1, f2⟩, hc0⟩ := hs
  have b1 := encL_le o1 o2
  have b2 := encL_le e1 e2
  have b3 := encL_le f1 f2
  have b4 := encI_le hc0
  refine ACall.cold (es := 1) (by simp) ?_
  refine ACall.told ?_
  have i2 := fun H => eInts_k s.e e1 e2 H
  have i3 := fun H => eInts_k s.f f1 f2 H
  have i4 := fun H => eInt_k s.c hc0 H
  refine ACall_of tt_ok (dok _) Try.func30 rfl (by decide) rfl ?_
  (repeat' ((conv => whnf); first | refine OpsA.cons ?_ | refine OpsA.nil ?_ | refine AWq.seq ?_ | refine AWq.region ?_ | refine AWq.ret ?_ | refine DrawA.consD ?_ | refine DrawA.nil ?_ | (intro c hc; (try (simp only [AH.none_iff] at hc; repeat (have hn := hc.1; replace hc := hc.2))); (first | skip)) | (apply Exists.intro; apply And.intro; (first | (focus (repeat (first | (with_reducible exact AH.set_same _ _ _))); done))) | (apply Exists.intro; apply And.intro; first | ((try simp only [List.getElem?_drop, Nat.mul_one, Nat.add_zero, Nat.zero_add]); first | rfl)) | (apply And.intro; (first | rfl | exact Nat.le_of_ble_eq_true rfl | omega | (simp <;> fail) | (simp <;> omega) | (focus (repeat' (first | exact one_u8s _ | rfl)); done))))) <;> (try (conv => whnf))
  have hc3 : H c = none := hc
  refine Then.mk (AWq.in ?_)
  refine AWp_freezeP 1 (r := c) (v := 0) (cells := [.cs (iS .i64 s.o) s.o.length, .cs (iS .i64 s.e) s.e.length, .cs (iS .i64 s.f) s.f.length, .int .i64 s.c]) rfl rfl (AH.set_same _ _ _) ?_
  refine AWp_less H (HLe.del _ (HLe.fresh _ hc3) hc3) ?_
  refine AWp_spare fun q hq => ?_
  have i1 := ACall.onto (AH.set_same H q (.row [] 0)) (eInts_s s.o o1 o2 (H.set q (.row [] 0)))
  refine AWp.of tt_ok (dok _) rfl ?_
  (repeat' ((conv => whnf); first | refine AWq.drawM ([6], [8]) (by decide +kernel) ?_ | refine Then.mk ?_ | refine OpsA.cons ?_ | refine OpsA.nil ?_ | refine AWq.seq ?_ | refine AWq.region ?_ | refine AWq.ret ?_ | refine DrawA.consD ?_ | refine DrawA.nil ?_ | (apply Exists.intro; apply And.intro; exact i2 _) | (apply Exists.intro; apply Exists.intro; apply And.intro; exact i1) | (intro c hc; (try (simp only [AH.none_iff] at hc; repeat (have hn := hc.1; replace hc := hc.2))); (first | skip)) | (apply Exists.intro; apply And.intro; (first | (focus (repeat (first | (with_reducible exact AH.set_same _ _ _))); done))) | (apply Exists.intro; apply And.intro; first | ((try simp only [List.getElem?_drop, Nat.mul_one, Nat.add_zero, Nat.zero_add]); first | rfl)) | (apply And.intro; (first | rfl | exact Nat.le_of_ble_eq_true rfl | omega | (simp <;> fail) | (simp <;> omega) | (focus (repeat' (first | exact one_u8s _ | rfl)); done))) | (refine ACall.to (i3 _) ?_) | (refine ACall.to (i4 _) ?_))) <;> (try (conv => whnf))
  have hl : (encS s).length = (encL s.o).length + (encL s.e).length + (encL s.f).length + (encI s.c).length := by unfold encS; simp; omega
  have hu : u8s (encS s) = u8s (encL s.o) ++ u8s (encL s.e) ++ u8s (encL s.f) ++ u8s (encI s.c) := by unfold encS; simp [u8s]
  refine ⟨_, _, AVle.refl _, HLe.refl _, q, hq, 1 + 1 + 1 + 1, congrArg (fun n => AV.sl q (1 + 1 + 1 + 1) 1 0 n none) hl.symm, ?_⟩
  rw [AH.set_set, AH.set_set, AH.set_set, AH.set_set, hu]
end Go.Proofs.Ytebflkgpbbjhnaa
/- The walks of the reference's helpers, on: Pick, SameInts beside a row. -/
namespace Go.Proofs.Ytebflkgpbbjhnaa
open Go.Fw Go
set_option linter.unusedVariables false
set_option linter.unusedSimpArgs false

def pickV (l : List Int) (i : Int) (m : Nat) : Nat := if 0 ≤ i ∧ i < l.length then aro (l.getD i.toNat 0) m else 0
theorem pickV_lt {l : List Int} {i : Int} {m : Nat} (hm : 1 ≤ m) : pickV l i m < m := by
  unfold pickV
  split
  · exact aro_lt hm
  · omega
set_option maxRecDepth 8000 in
theorem pick_f (l : List Int) (hl : ∀ n ∈ l, -9223372036854775808 ≤ n ∧ n ≤ 9223372036854775807) (hll : l.length ≤ 9223372036854775807) (i : Int) (hi : -9223372036854775808 ≤ i ∧ i ≤ 9223372036854775807) (m : Nat) (hm : 1 ≤ m) (hm2 : m ≤ 1000000) (H : AH) :
    ACall Try.prog 25 [.cs (iS .i64 l) l.length, .int .i64 i, .int .i64 m] H (fun y H' => y = .int .i64 (pickV l i m) ∧ H' = H) := by
  unfold pickV
  by_cases h0 : i < 0
  · rw [if_neg (by omega)]
    refine ACall_of tt_ok (dok _) Try.func25 rfl (by decide) rfl ?_
    (repeat' ((conv => whnf); first | refine Then.mk ?_ | refine OpsA.cons ?_ | refine OpsA.nil ?_ | refine AWq.seq ?_ | refine AWq.region ?_ | refine AWq.cond ?_ | refine AWq.skip ?_ | refine AWq.ret ?_ | (refine Both.mk ?_ ?_ <;> intro hc <;> (first | exact Bool.noConfusion hc | exact absurd (by assumption) hc | exact absurd hc (by assumption) | (exfalso; omega) | skip)) | (apply Exists.intro; apply And.intro; first | (with_reducible assumption) | ((try simp only [List.getElem?_drop, Nat.mul_one, Nat.add_zero, Nat.zero_add]); first | (with_reducible assumption) | rfl)) | (apply And.intro; (first | rfl | (with_reducible assumption) | omega)))) <;> (try (conv => whnf))
  · by_cases h1 : i < l.length
    · rw [if_pos (by omega)]
      have hg : (iS .i64 l)[i.toNat]? = some (.int .i64 (l.getD i.toNat 0)) := iS_get (by omega)
      have hb : -9223372036854775808 ≤ l.getD i.toNat 0 ∧ l.getD i.toNat 0 ≤ 9223372036854775807 := by
        have hlt : i.toNat < l.length := by omega
        have : l.getD i.toNat 0 = l[i.toNat] := by rw [List.getD_eq_getElem?_getD, List.getElem?_eq_getElem hlt]; rfl
        rw [this]; exact hl _ (List.getElem_mem hlt)
      generalize l.getD i.toNat 0 = x at *
      have ha := fun H => around_f x hb.1 hb.2 m hm hm2 H
      have hil : (iS .i64 l).length = l.length := by simp
      refine ACall_of tt_ok (dok _) Try.func25 rfl (by decide) rfl ?_
      (repeat' ((conv => whnf); first | refine Then.mk ?_ | refine OpsA.cons ?_ | refine OpsA.nil ?_ | refine AWq.seq ?_ | refine AWq.region ?_ | refine AWq.cond ?_ | refine AWq.skip ?_ | refine AWq.ret ?_ | (refine Both.mk ?_ ?_ <;> intro hc <;> (first | exact Bool.noConfusion hc | exact absurd (by assumption) hc | exact absurd hc (by assumption) | (exfalso; omega) | skip)) | (apply Exists.intro; apply And.intro; first | (with_reducible assumption) | ((try simp only [List.getElem?_drop, Nat.mul_one, Nat.add_zero, Nat.zero_add]); first | (with_reducible assumption) | rfl)) | (apply And.intro; (first | rfl | (with_reducible assumption) | omega)) | (refine ACall.to (ha _) ?_))) <;> (try (conv => whnf))
    · rw [if_neg (by omega)]
      refine ACall_of tt_ok (dok _) Try.func25 rfl (by decide) rfl ?_
      (repeat' ((conv => whnf); first | refine Then.mk ?_ | refine OpsA.cons ?_ | refine OpsA.nil ?_ | refine AWq.seq ?_ | refine AWq.region ?_ | refine AWq.cond ?_ | refine AWq.skip ?_ | refine AWq.ret ?_ | (refine Both.mk ?_ ?_ <;> intro hc <;> (first | exact Bool.noConfusion hc | exact absurd (by assumption) hc | exact absurd hc (by assumption) | (exfalso; omega) | skip)) | (apply Exists.intro; apply And.intro; first | (with_reducible assumption) | ((try simp only [List.getElem?_drop, Nat.mul_one, Nat.add_zero, Nat.zero_add]); first | (with_reducible assumption) | rfl)) | (apply And.intro; (first | rfl | (with_reducible assumption) | omega)))) <;> (try (conv => whnf))

end Go.Proofs.Ytebflkgpbbjhnaa
/- The walks of balance: problems made from numbers. -/
namespace Go.Fw
open Go.RowKit
/-- Two fresh rows that nobody writes any more. -/
theorem ACall.cold2 {P : Program} {g : FuncId} {args : List AV} {H : AH} {e1 n1 e2 n2 : Nat} {c1 c2 : List AV} (h1 : c1.length = n1 * e1) (h2 : c2.length = n2 * e2)
    (h : ACall P g args H fun y H' => ∃ r1 r2 v1 v2, H r1 = none ∧ H r2 = none ∧ r1 ≠ r2 ∧ y = .tup [.sl r1 v1 e1 0 n1 none, .sl r2 v2 e2 0 n2 none] ∧ H' = (H.set r1 (.row c1 v1)).set r2 (.row c2 v2)) :
    ACall P g args H fun y H' => y = .tup [.cs c1 n1, .cs c2 n2] ∧ H' = H := by
  refine ⟨h.ent, fun κ F B w0 w cargs hI hA => (h.run κ F B w0 w cargs hI hA).mono ?_⟩
  rintro e w' ⟨x, he, y, H', κ', F', k1, k2, I, hv, r1, r2, v1, v2, hr1, hr2, hne, rfl, rfl⟩
  obtain ⟨F1, hF1, I1, ha1⟩ := I.coolAll (r := r2) (v := v2) (cells := c2) (AH.set_same _ _ _)
  rw [AH.del_set _ _ _ (by rw [AH.set_ne _ _ (Ne.symm hne)]; exact hr2)] at I1
  obtain ⟨F2, hF2, I2, ha2⟩ := I1.coolAll (r := r1) (v := v1) (cells := c1) (AH.set_same _ _ _)
  rw [AH.del_set _ _ _ hr1] at I2
  refine ⟨x, he, _, H, κ', F2, k1, (k2.trans hF1).trans hF2, I2, ?_, rfl, rfl⟩
  cases hv with
  | tup hsz hi =>
    refine .tup hsz fun i hi' => ?_
    match i, hi' with
    | 0, _ => exact ha2 _ _ _ _ _ h1 (hi 0 (by simp))
    | 1, _ => exact (ha1 _ _ _ _ _ h2 (hi 1 (by simp))).mono (KLe.refl _) hF2
end Go.Fw
namespace Go.Proofs.Ytebflkgpbbjhnaa
open Go.Fw Go
set_option linter.unusedVariables false
set_option linter.unusedSimpArgs false

def prE (n most : Nat) (l : List Int) (i : Nat) : Ed :=
  ⟨pickV l (4 * (i : Int) + 1) n, ((pickV l (4 * (i : Int) + 1) n + 1 + pickV l (4 * (i : Int) + 2) (n - 1)) % n : Nat), (pickV l (4 * (i : Int) + 3) (2 * most + 1) : Int) - most, (1 + pickV l (4 * (i : Int) + 4) 9 : Nat)⟩
def prF (n most : Nat) (l : List Int) (i : Nat) : Fx :=
  ⟨pickV l (3 * (i : Int) + 2) n, (pickV l (3 * (i : Int) + 5) (2 * most + 1) : Int) - most, (1 + pickV l (3 * (i : Int) + 4) 7 : Nat)⟩
def prN (n : Nat) (l : List Int) : Nat := if 1 < n then pickV l 0 12 else 0
def prM (n : Nat) (l : List Int) : Nat := if 0 < n then pickV l 1 5 else 0
def prES (n most : Nat) (l : List Int) : List Ed := fnL (prN n l) (prE n most l)
def prFS (n most : Nat) (l : List Int) : List Fx := fnL (prM n l) (prF n most l)
set_option maxHeartbeats 4000000 in
set_option maxRecDepth 8000 in
theorem problem_s (n most : Nat) (hn : n ≤ 10) (hm : most ≤ 65535) (l : List Int) (hl : ∀ n ∈ l, -9223372036854775808 ≤ n ∧ n ≤ 9223372036854775807) (hll : l.length ≤ maxLen) (H : AH) :
    ACall Try.prog 12 [.int .i64 n, .cs (iS .i64 l) l.length, .int .i64 most] H (fun y H' => ∃ r1 r2 v1 v2, H r1 = none ∧ H r2 = none ∧ r1 ≠ r2 ∧ y = .tup [.sl r1 v1 4 0 (prN n l) none, .sl r2 v2 3 0 (prM n l) none] ∧ H' = (H.set r1 (.row (edL (prES n most l)) v1)).set r2 (.row (fxL (prFS n most l)) v2)) := by
  have hll2 : l.length ≤ 9223372036854775807 := by unfold maxLen at hll; omega
  have hp := fun i (hi : -9223372036854775808 ≤ i ∧ i ≤ 9223372036854775807) m hm1 hm2 H => pick_f l hl hll2 i hi m hm1 hm2 H
  have p0 := pickV_lt (l := l) (i := 0) (m := 12) (by decide)
  have p1 := pickV_lt (l := l) (i := 1) (m := 5) (by decide)
  have h0 : ∀ H, ACall Try.prog 25 [.cs (iS .i64 l) l.length, .int .i64 0, .int .i64 12] H (fun y H' => y = .int .i64 (pickV l 0 12) ∧ H' = H) := fun H => hp 0 (by decide) 12 (by decide) (by decide) H
  have h1 : ∀ H, ACall Try.prog 25 [.cs (iS .i64 l) l.length, .int .i64 1, .int .i64 5] H (fun y H' => y = .int .i64 (pickV l 1 5) ∧ H' = H) := fun H => hp 1 (by decide) 5 (by decide) (by decide) H
  have hN : prN n l = if 1 < n then pickV l 0 12 else 0 := rfl
  have hM : prM n l = if 0 < n then pickV l 1 5 else 0 := rfl
  generalize pickV l 0 12 = q0 at *
  generalize pickV l 1 5 = q1 at *
  have hNl : prN n l ≤ 12 := by rw [hN]; split <;> omega
  have hMl : prM n l ≤ 5 := by rw [hM]; split <;> omega
  refine ACall_of tt_ok (dok _) Try.func12 rfl (by decide) rfl ?_
  (iterate 3 ((repeat' ((conv => whnf); first | left | refine OpsA.cons ?_ | refine OpsA.nil ?_ | refine AWq.seq ?_ | refine AWq.region ?_ | refine AWq.cond ?_ | refine AWq.block ?_ | refine AWq.skip ?_ | refine AWq.ret ?_ | refine AWq.exit ?_ | refine AWq.loop ?_ | (refine Both.mk ?_ ?_ <;> intro hc <;> (first | exact Bool.noConfusion hc | (exfalso; omega) | skip)) | (intro c hc; (try (simp only [AH.none_iff] at hc; repeat (have hn := hc.1; replace hc := hc.2))); (first | (have hc2 := Eq.trans hc (by with_reducible assumption); clear hc; subst hc2) | (refine i64_k hc ?_ ?_ ?_ ; omega; omega; (clear hc; intro hc; subst hc)) | skip)) | (apply Exists.intro; apply And.intro; (first | (focus (repeat (first | (with_reducible assumption) | (with_reducible exact AH.set_same _ _ _) | ((first | refine AH.get_ne ?_ ?_); (first | (with_reducible assumption) | exact Ne.symm (by with_reducible assumption))))); done))) | (apply And.intro; (first | rfl | (with_reducible assumption) | omega)))) <;> (try (conv => whnf)); refine Then.mk ?_))
  refine AWq.in ?_
  refine AWp_nilrow1 8 4 rfl rfl fun r1 hr1 => ?_
  refine AWp_nilrow1 9 3 rfl rfl fun r2 hr2 => ?_
  obtain ⟨hne, hr2⟩ := AH.none_set hr2
  refine AWp.of tt_ok (dok _) rfl ?_
  (repeat' ((conv => whnf); first | refine Then.mk ?_ | left | refine OpsA.cons ?_ | refine OpsA.nil ?_ | refine AWq.seq ?_ | refine AWq.region ?_ | refine AWq.cond ?_ | refine AWq.block ?_ | refine AWq.skip ?_ | refine AWq.ret ?_ | refine AWq.exit ?_ | refine AWq.loop ?_ | (refine Both.mk ?_ ?_ <;> intro hc <;> (first | exact Bool.noConfusion hc | (exfalso; omega) | skip)) | (intro c hc; (try (simp only [AH.none_iff] at hc; repeat (have hn := hc.1; replace hc := hc.2))); (first | (have hc2 := Eq.trans hc (by with_reducible assumption); clear hc; subst hc2) | (refine i64_k hc ?_ ?_ ?_ ; omega; omega; (clear hc; intro hc; subst hc)) | skip)) | (apply Exists.intro; apply And.intro; (first | (focus (repeat (first | (with_reducible assumption) | (with_reducible exact AH.set_same _ _ _) | ((first | refine AH.get_ne ?_ ?_); (first | (with_reducible assumption) | exact Ne.symm (by with_reducible assumption))))); done))) | (apply And.intro; (first | rfl | (with_reducible assumption) | omega)) | (refine ACall.to (h0 _) ?_) | (refine ACall.to (h1 _) ?_))) <;> (try (conv => whnf))
  refine AWp_loop (σ := Nat) (8 :: 11 :: 12 :: 13 :: 18 :: 19 :: 20 :: 21 :: 22 :: 23 :: 24 :: 25 :: 26 :: 27 :: 28 :: 29 :: 30 :: 31 :: 32 :: 33 :: 34 :: 35 :: 36 :: 37 :: 38 :: 39 :: 40 :: 41 :: 42 :: 43 :: 44 :: 45 :: 46 :: 47 :: 48 :: 49 :: 50 :: 51 :: 52 :: 53 :: 54 :: 55 :: 56 :: 57 :: 58 :: 59 :: 60 :: 61 :: 62 :: 63 :: 64 :: 65 :: 66 :: []) (fun i => [(11, .int .i64 i), (8, .sl r1 i 4 0 i none)]) (fun i => (H.set r1 (.row (edL (fnL i (prE n most l))) i)).set r2 (.row [] 0)) (fun i => i ≤ prN n l) (fun i => prN n l - i) 0 rfl (Nat.zero_le _) ⟨rfl, rfl, trivial⟩ (HLe.refl _) ?_
  intro i hi
  refine AWp.of tt_ok (dok _) rfl ?_
  dsimp only at hi ⊢
  have hfi : (edL (fnL i (prE n most l))).length = i * 4 := by rw [edL_len, fnL_len]
  have hg1 : ((H.set r1 (.row (edL (fnL i (prE n most l))) i)).set r2 (.row [] 0)) r1 = some (.row (edL (fnL i (prE n most l))) i) := by (focus (repeat (first | (with_reducible assumption) | (with_reducible exact AH.set_same _ _ _) | ((first | refine AH.get_ne ?_ ?_); (first | (with_reducible assumption) | exact Ne.symm (by with_reducible assumption))))); done)
  by_cases hilt : i < prN n l
  · have h1n : 1 < n := by rw [hN] at hilt; split at hilt <;> omega
    rw [if_pos h1n] at hN
    have pA := hp (4 * (i : Int) + 1) (by omega) n (by omega) (by omega)
    have pB := hp (4 * (i : Int) + 2) (by omega) (n - 1) (by omega) (by omega)
    have pD := hp (4 * (i : Int) + 3) (by omega) (2 * most + 1) (by omega) (by omega)
    have pW := hp (4 * (i : Int) + 4) (by omega) 9 (by omega) (by omega)
    have lA := pickV_lt (l := l) (i := 4 * (i : Int) + 1) (m := n) (by omega)
    have lB := pickV_lt (l := l) (i := 4 * (i : Int) + 2) (m := n - 1) (by omega)
    have lD := pickV_lt (l := l) (i := 4 * (i : Int) + 3) (m := 2 * most + 1) (by omega)
    have lW := pickV_lt (l := l) (i := 4 * (i : Int) + 4) (m := 9) (by omega)
    have hst : edL (fnL (i + 1) (prE n most l)) = edL (fnL i (prE n most l)) ++ edA (prE n most l i) := by rw [fnL_snoc]; exact (fL_snoc edA _ _).symm
    have hpe : edA (prE n most l i) = [.int .i64 (pickV l (4 * (i : Int) + 1) n), .int .i64 ((pickV l (4 * (i : Int) + 1) n + 1 + pickV l (4 * (i : Int) + 2) (n - 1)) % n : Nat), .int .i64 ((pickV l (4 * (i : Int) + 3) (2 * most + 1) : Int) - most), .int .i64 (1 + pickV l (4 * (i : Int) + 4) 9 : Nat)] := rfl
    rw [hpe] at hst
    have c1 : ((n - 1 : Nat) : Int) = (n : Int) - 1 := by omega
    have c2 : ((2 * most + 1 : Nat) : Int) = 2 * (most : Int) + 1 := by omega
    rw [c1] at pB
    rw [c2] at pD
    generalize pickV l (4 * (i : Int) + 1) n = a at *
    generalize pickV l (4 * (i : Int) + 2) (n - 1) = b at *
    generalize pickV l (4 * (i : Int) + 3) (2 * most + 1) = d at *
    generalize pickV l (4 * (i : Int) + 4) 9 = w at *
    have em : ((a : Int) + 1 + b).tmod n = ((a + 1 + b) % n : Nat) := by rw [Int.tmod_eq_emod_of_nonneg (by omega), Int.natCast_emod]; rfl
    have ew : 1 + (w : Int) = ((1 + w : Nat) : Int) := by omega
    rw [← ew, ← em] at hst
    have pW : ∀ H, ACall Try.prog 25 [.cs (iS .i64 l) l.length, .int .i64 (4 * (i : Int) + 4), .int .i64 9] H (fun y H' => y = .int .i64 w ∧ H' = H) := pW
    generalize edL (fnL i (prE n most l)) = R1 at *
    generalize hR2 : edL (fnL (i + 1) (prE n most l)) = R2 at *
    (repeat' ((conv => whnf); first | refine Then.mk ?_ | left | refine OpsA.cons ?_ | refine OpsA.nil ?_ | refine AWq.seq ?_ | refine AWq.region ?_ | refine AWq.cond ?_ | refine AWq.block ?_ | refine AWq.skip ?_ | refine AWq.ret ?_ | refine AWq.exit ?_ | refine AWq.loop ?_ | (refine Both.mk ?_ ?_ <;> intro hc <;> (first | exact Bool.noConfusion hc | (exfalso; omega) | skip)) | (intro c hc; (try (simp only [AH.none_iff] at hc; repeat (have hn := hc.1; replace hc := hc.2))); (first | (have hc2 := Eq.trans hc (by with_reducible assumption); clear hc; subst hc2) | (refine i64_k hc ?_ ?_ ?_ ; omega; omega; (clear hc; intro hc; subst hc)) | skip)) | (apply Exists.intro; apply And.intro; (first | (focus (repeat (first | (with_reducible assumption) | (with_reducible exact AH.set_same _ _ _) | ((first | refine AH.get_ne ?_ ?_); (first | (with_reducible assumption) | exact Ne.symm (by with_reducible assumption))))); done))) | (apply And.intro; (first | rfl | (with_reducible assumption) | omega)) | (refine ACall.to (pA _) ?_) | (refine ACall.to (pB _) ?_) | (refine ACall.to (pD _) ?_) | (refine ACall.to (pW _) ?_))) <;> (try (conv => whnf))
    refine ⟨i + 1, hilt, by omega, ⟨congrArg (AV.int .i64) (by omega), rfl, trivial⟩, HLe.of_eq ?_⟩
    rw [hR2, hst]
    exact (AH.set_back _ (Ne.symm hne) _ _ _).symm
  · have hie : i = prN n l := by omega
    have hex : q0 ≤ i ∨ n ≤ 1 := by rw [hie, hN]; split <;> omega
    rw [hie]
    obtain ⟨E, hE⟩ : ∃ E, E = edL (prES n most l) := ⟨_, rfl⟩
    have hEe : edL (fnL (prN n l) (prE n most l)) = E := hE.symm
    rw [hEe]
    rw [← hE]
    generalize hK : prN n l = K at *
    subst hie
    clear hfi hg1 hEe
    (repeat' ((conv => whnf); first | refine Then.mk ?_ | left | refine OpsA.cons ?_ | refine OpsA.nil ?_ | refine AWq.seq ?_ | refine AWq.region ?_ | refine AWq.cond ?_ | refine AWq.block ?_ | refine AWq.skip ?_ | refine AWq.ret ?_ | refine AWq.exit ?_ | refine AWq.loop ?_ | (refine Both.mk ?_ ?_ <;> intro hc <;> (first | exact Bool.noConfusion hc | (exfalso; omega) | skip)) | (intro c hc; (try (simp only [AH.none_iff] at hc; repeat (have hn := hc.1; replace hc := hc.2))); (first | (have hc2 := Eq.trans hc (by with_reducible assumption); clear hc; subst hc2) | (refine i64_k hc ?_ ?_ ?_ ; omega; omega; (clear hc; intro hc; subst hc)) | skip)) | (apply Exists.intro; apply And.intro; (first | (focus (repeat (first | (with_reducible assumption) | (with_reducible exact AH.set_same _ _ _) | ((first | refine AH.get_ne ?_ ?_); (first | (with_reducible assumption) | exact Ne.symm (by with_reducible assumption))))); done))) | (apply And.intro; (first | rfl | (with_reducible assumption) | omega)) | (refine ACall.to (h0 _) ?_) | (refine ACall.to (h1 _) ?_))) <;> (try (conv => whnf))
    all_goals
      refine AWp_loop (σ := Nat) (9 :: 15 :: 69 :: 70 :: 71 :: 72 :: 73 :: 74 :: 75 :: 76 :: 77 :: 78 :: 79 :: 80 :: 81 :: 82 :: 83 :: 84 :: 85 :: 86 :: 87 :: 88 :: 89 :: 90 :: 91 :: 92 :: 93 :: 94 :: 95 :: 96 :: 97 :: 98 :: 99 :: 100 :: 101 :: 102 :: 103 :: []) (fun j => [(15, .int .i64 j), (9, .sl r2 j 3 0 j none)]) (fun j => (H.set r1 (.row E i)).set r2 (.row (fxL (fnL j (prF n most l))) j)) (fun j => j ≤ prM n l) (fun j => prM n l - j) 0 rfl (Nat.zero_le _) ⟨rfl, rfl, trivial⟩ (HLe.refl _) ?_
      intro j hj
      refine AWp.of tt_ok (dok _) rfl ?_
      dsimp only at hj ⊢
      have hfj : (fxL (fnL j (prF n most l))).length = j * 3 := by rw [fxL_len, fnL_len]
      have hg2 : ((H.set r1 (.row E i)).set r2 (.row (fxL (fnL j (prF n most l))) j)) r2 = some (.row (fxL (fnL j (prF n most l))) j) := AH.set_same _ _ _
      by_cases hjlt : j < prM n l
      · have h1n : 0 < n := by rw [hM] at hjlt; split at hjlt <;> omega
        rw [if_pos h1n] at hM
        have pA := hp (3 * (j : Int) + 2) (by omega) n (by omega) (by omega)
        have pD := hp (3 * (j : Int) + 5) (by omega) (2 * most + 1) (by omega) (by omega)
        have pW := hp (3 * (j : Int) + 4) (by omega) 7 (by omega) (by omega)
        have lA := pickV_lt (l := l) (i := 3 * (j : Int) + 2) (m := n) (by omega)
        have lD := pickV_lt (l := l) (i := 3 * (j : Int) + 5) (m := 2 * most + 1) (by omega)
        have lW := pickV_lt (l := l) (i := 3 * (j : Int) + 4) (m := 7) (by omega)
        have hst : fxL (fnL (j + 1) (prF n most l)) = fxL (fnL j (prF n most l)) ++ fxA (prF n most l j) := by rw [fnL_snoc]; exact (fL_snoc fxA _ _).symm
        have hpe : fxA (prF n most l j) = [.int .i64 (pickV l (3 * (j : Int) + 2) n), .int .i64 ((pickV l (3 * (j : Int) + 5) (2 * most + 1) : Int) - most), .int .i64 (1 + pickV l (3 * (j : Int) + 4) 7 : Nat)] := rfl
        rw [hpe] at hst
        have c2 : ((2 * most + 1 : Nat) : Int) = 2 * (most : Int) + 1 := by omega
        rw [c2] at pD
        generalize pickV l (3 * (j : Int) + 2) n = a at *
        generalize pickV l (3 * (j : Int) + 5) (2 * most + 1) = d at *
        generalize pickV l (3 * (j : Int) + 4) 7 = w at *
        have ew : 1 + (w : Int) = ((1 + w : Nat) : Int) := by omega
        rw [← ew] at hst
        have pW : ∀ H, ACall Try.prog 25 [.cs (iS .i64 l) l.length, .int .i64 (3 * (j : Int) + 4), .int .i64 7] H (fun y H' => y = .int .i64 w ∧ H' = H) := pW
        generalize fxL (fnL j (prF n most l)) = R1 at *
        generalize hR2 : fxL (fnL (j + 1) (prF n most l)) = R2 at *
        (repeat' ((conv => whnf); first | refine Then.mk ?_ | left | refine OpsA.cons ?_ | refine OpsA.nil ?_ | refine AWq.seq ?_ | refine AWq.region ?_ | refine AWq.cond ?_ | refine AWq.block ?_ | refine AWq.skip ?_ | refine AWq.ret ?_ | refine AWq.exit ?_ | refine AWq.loop ?_ | (refine Both.mk ?_ ?_ <;> intro hc <;> (first | exact Bool.noConfusion hc | (exfalso; omega) | skip)) | (intro c hc; (try (simp only [AH.none_iff] at hc; repeat (have hn := hc.1; replace hc := hc.2))); (first | (have hc2 := Eq.trans hc (by with_reducible assumption); clear hc; subst hc2) | (refine i64_k hc ?_ ?_ ?_ ; omega; omega; (clear hc; intro hc; subst hc)) | skip)) | (apply Exists.intro; apply And.intro; (first | (focus (repeat (first | (with_reducible assumption) | (with_reducible exact AH.set_same _ _ _) | ((first | refine AH.get_ne ?_ ?_); (first | (with_reducible assumption) | exact Ne.symm (by with_reducible assumption))))); done))) | (apply And.intro; (first | rfl | (with_reducible assumption) | omega)) | (refine ACall.to (pA _) ?_) | (refine ACall.to (pD _) ?_) | (refine ACall.to (pW _) ?_))) <;> (try (conv => whnf))
        refine ⟨j + 1, hjlt, by omega, ⟨congrArg (AV.int .i64) (by omega), rfl, trivial⟩, HLe.of_eq ?_⟩
        rw [hR2, hst]
        exact (AH.set_set _ _ _ _).symm
      · have hje : j = prM n l := by omega
        have hex2 : q1 ≤ j ∨ n ≤ 0 := by rw [hje, hM]; split <;> omega
        (repeat' ((conv => whnf); first | refine Then.mk ?_ | left | refine OpsA.cons ?_ | refine OpsA.nil ?_ | refine AWq.seq ?_ | refine AWq.region ?_ | refine AWq.cond ?_ | refine AWq.block ?_ | refine AWq.skip ?_ | refine AWq.ret ?_ | refine AWq.exit ?_ | refine AWq.loop ?_ | (refine Both.mk ?_ ?_ <;> intro hc <;> (first | exact Bool.noConfusion hc | (exfalso; omega) | skip)) | (intro c hc; (try (simp only [AH.none_iff] at hc; repeat (have hn := hc.1; replace hc := hc.2))); (first | (have hc2 := Eq.trans hc (by with_reducible assumption); clear hc; subst hc2) | (refine i64_k hc ?_ ?_ ?_ ; omega; omega; (clear hc; intro hc; subst hc)) | skip)) | (apply Exists.intro; apply And.intro; (first | (focus (repeat (first | (with_reducible assumption) | (with_reducible exact AH.set_same _ _ _) | ((first | refine AH.get_ne ?_ ?_); (first | (with_reducible assumption) | exact Ne.symm (by with_reducible assumption))))); done))) | (apply And.intro; (first | rfl | (with_reducible assumption) | omega)))) <;> (try (conv => whnf))
        all_goals
          refine ⟨r1, r2, i, j, hr1, hr2, Ne.symm hne, ?_, ?_⟩
          · rw [← hje]
          · rw [hje]; rfl
theorem problem_c (n most : Nat) (hn : n ≤ 10) (hm : most ≤ 65535) (l : List Int) (hl : ∀ n ∈ l, -9223372036854775808 ≤ n ∧ n ≤ 9223372036854775807) (hll : l.length ≤ maxLen) (H : AH) :
    ACall Try.prog 12 [.int .i64 n, .cs (iS .i64 l) l.length, .int .i64 most] H (fun y H' => y = .tup [.cs (edL (prES n most l)) (prES n most l).length, .cs (fxL (prFS n most l)) (prFS n most l).length] ∧ H' = H) := by
  refine ACall.cold2 (e1 := 4) (e2 := 3) (by simp) (by simp) ?_
  have h1 : (prES n most l).length = prN n l := fnL_len _ _
  have h2 : (prFS n most l).length = prM n l := fnL_len _ _
  rw [h1, h2]
  exact problem_s n most hn hm l hl hll H
end Go.Proofs.Ytebflkgpbbjhnaa
/- The walks of balance: Check. -/
namespace Go.Proofs.Ytebflkgpbbjhnaa
open Go.Fw Go
set_option linter.unusedVariables false
set_option linter.unusedSimpArgs false

set_option maxRecDepth 8000 in
theorem grow_c (n : Nat) (hn : n ≤ 1000000) (H : AH) : ACall Try.prog 72 [.nils, .int .i64 n] H (fun y H' => ∃ r, H r = none ∧ ∃ v, y = .sl r v 1 0 0 none ∧ H' = H.set r (.row [] v)) := by
  refine ACall.warmN (es := 1) (n := 0) (cells := []) rfl ?_
  by_cases h : n = 0
  · subst h
    refine ACall_of tt_ok (dok _) Try.func72 rfl (by decide) rfl ?_
    (repeat' ((conv => whnf); first | refine Then.mk ?_ | refine OpsA.cons ?_ | refine OpsA.nil ?_ | refine AWq.seq ?_ | refine AWq.region ?_ | refine AWq.cond ?_ | refine AWq.skip ?_ | refine AWq.ret ?_ | (refine Both.mk ?_ ?_ <;> intro hc <;> (first | exact Bool.noConfusion hc | exact absurd hc (by assumption) | (exfalso; omega) | skip)) | (intro c hc; (try (simp only [AH.none_iff] at hc; repeat (have hn := hc.1; replace hc := hc.2))); (first | (refine i64_k hc ?_ ?_ ?_ ; omega; omega; (clear hc; intro hc; subst hc)) | skip)) | (apply And.intro; (first | rfl | (with_reducible assumption) | omega)))) <;> (try (conv => whnf))
    exact .inl ⟨rfl, rfl, rfl⟩
  · refine ACall_of tt_ok (dok _) Try.func72 rfl (by decide) rfl ?_
    (repeat' ((conv => whnf); first | refine Then.mk ?_ | refine OpsA.cons ?_ | refine OpsA.nil ?_ | refine AWq.seq ?_ | refine AWq.region ?_ | refine AWq.cond ?_ | refine AWq.skip ?_ | refine AWq.ret ?_ | (refine Both.mk ?_ ?_ <;> intro hc <;> (first | exact Bool.noConfusion hc | exact absurd hc (by assumption) | (exfalso; omega) | skip)) | (intro c hc; (try (simp only [AH.none_iff] at hc; repeat (have hn := hc.1; replace hc := hc.2))); (first | (refine i64_k hc ?_ ?_ ?_ ; omega; omega; (clear hc; intro hc; subst hc)) | skip)) | (apply And.intro; (first | rfl | (with_reducible assumption) | omega)))) <;> (try (conv => whnf))
    exact .inr ⟨c, by assumption, 0, rfl, rfl⟩
set_option maxRecDepth 8000 in
theorem concat_c (a b : List Int) (ha : a.length ≤ 100000) (hb : b.length ≤ 100000) (H : AH) :
    ACall Try.prog 45 [.cs [.cs (iS .i64 a) a.length, .cs (iS .i64 b) b.length] 2] H (fun y H' => y = .cs (iS .i64 (a ++ b)) (a ++ b).length ∧ H' = H) := by
  refine ACall.cold (es := 1) (by simp) ?_
  have hgr := fun H => grow_c (a.length + b.length) (by omega) H
  have hla := iS_length .i64 a
  have hlb := iS_length .i64 b
  refine ACall_of tt_ok (dok _) Try.func45 rfl (by decide) rfl ?_
  (repeat' ((conv => whnf); first | refine Then.mk ?_ | refine OpsA.cons ?_ | refine OpsA.nil ?_ | refine AWq.seq ?_ | refine AWq.region ?_ | refine AWq.cond ?_ | refine AWq.block ?_ | refine AWq.skip ?_ | refine AWq.ret ?_ | refine AWq.exit ?_ | refine AWq.loop ?_ | (refine Both.mk ?_ ?_ <;> intro hc <;> (first | exact Bool.noConfusion hc | exact absurd hc (by assumption) | (exfalso; omega) | skip)) | (intro c hc; (try (simp only [AH.none_iff] at hc; repeat (have hn := hc.1; replace hc := hc.2))); (first | (refine i64_k hc ?_ ?_ ?_ ; omega; omega; (clear hc; intro hc; subst hc)) | skip)) | (apply Exists.intro; apply And.intro; (first | (focus (repeat (first | (with_reducible assumption) | (with_reducible exact AH.set_same _ _ _))); done))) | (apply Exists.intro; apply And.intro; first | (with_reducible assumption) | ((try simp only [List.getElem?_drop, Nat.mul_one, Nat.add_zero, Nat.zero_add]); first | (with_reducible assumption) | rfl)) | (apply And.intro; (first | rfl | (with_reducible assumption) | exact Nat.le_of_ble_eq_true rfl | omega | (simp <;> omega) | (focus (repeat' (first | (with_reducible assumption) | exact one_iS _ _ | rfl)); done))))) <;> (try (conv => whnf))
  refine AWp_loop (σ := Nat × Nat) (3 :: 5 :: 11 :: 12 :: 13 :: 14 :: 15 :: 16 :: 17 :: 18 :: 19 :: 20 :: 21 :: 22 :: []) (fun s => [(11, .int .i64 s.1), (3, .int .i64 s.2)]) (fun s => H) (fun s => s.1 ≤ 2 ∧ s.2 = (if 0 < s.1 then a.length else 0) + (if 1 < s.1 then b.length else 0)) (fun s => 2 - s.1) (0, 0) rfl ⟨Nat.zero_le _, rfl⟩ ⟨rfl, rfl, trivial⟩ (HLe.refl _) ?_
  rintro ⟨i, s⟩ ⟨hi, hs⟩
  dsimp only at hi hs ⊢
  refine AWp.of tt_ok (dok _) rfl ?_
  rcases (show i = 0 ∨ i = 1 ∨ i = 2 by omega) with rfl | rfl | rfl
  · have hs : s = 0 := by simpa using hs
    subst hs
    (repeat' ((conv => whnf); first | refine Then.mk ?_ | refine OpsA.cons ?_ | refine OpsA.nil ?_ | refine AWq.seq ?_ | refine AWq.region ?_ | refine AWq.cond ?_ | refine AWq.block ?_ | refine AWq.skip ?_ | refine AWq.ret ?_ | refine AWq.exit ?_ | refine AWq.loop ?_ | (refine Both.mk ?_ ?_ <;> intro hc <;> (first | exact Bool.noConfusion hc | exact absurd hc (by assumption) | (exfalso; omega) | skip)) | (intro c hc; (try (simp only [AH.none_iff] at hc; repeat (have hn := hc.1; replace hc := hc.2))); (first | (refine i64_k hc ?_ ?_ ?_ ; omega; omega; (clear hc; intro hc; subst hc)) | skip)) | (apply Exists.intro; apply And.intro; (first | (focus (repeat (first | (with_reducible assumption) | (with_reducible exact AH.set_same _ _ _))); done))) | (apply Exists.intro; apply And.intro; first | (with_reducible assumption) | ((try simp only [List.getElem?_drop, Nat.mul_one, Nat.add_zero, Nat.zero_add]); first | (with_reducible assumption) | rfl)) | (apply And.intro; (first | rfl | (with_reducible assumption) | exact Nat.le_of_ble_eq_true rfl | omega | (simp <;> omega) | (focus (repeat' (first | (with_reducible assumption) | exact one_iS _ _ | rfl)); done))))) <;> (try (conv => whnf))
    exact ⟨(1, a.length), ⟨by show 1 ≤ 2; decide, by simp⟩, by show 2 - 1 < 2 - 0; decide, ⟨rfl, congrArg (AV.int .i64) (by dsimp only; omega), trivial⟩, HLe.refl _⟩
  · have hs : s = a.length := by simpa using hs
    (repeat' ((conv => whnf); first | refine Then.mk ?_ | refine OpsA.cons ?_ | refine OpsA.nil ?_ | refine AWq.seq ?_ | refine AWq.region ?_ | refine AWq.cond ?_ | refine AWq.block ?_ | refine AWq.skip ?_ | refine AWq.ret ?_ | refine AWq.exit ?_ | refine AWq.loop ?_ | (refine Both.mk ?_ ?_ <;> intro hc <;> (first | exact Bool.noConfusion hc | exact absurd hc (by assumption) | (exfalso; omega) | skip)) | (intro c hc; (try (simp only [AH.none_iff] at hc; repeat (have hn := hc.1; replace hc := hc.2))); (first | (refine i64_k hc ?_ ?_ ?_ ; omega; omega; (clear hc; intro hc; subst hc)) | skip)) | (apply Exists.intro; apply And.intro; (first | (focus (repeat (first | (with_reducible assumption) | (with_reducible exact AH.set_same _ _ _))); done))) | (apply Exists.intro; apply And.intro; first | (with_reducible assumption) | ((try simp only [List.getElem?_drop, Nat.mul_one, Nat.add_zero, Nat.zero_add]); first | (with_reducible assumption) | rfl)) | (apply And.intro; (first | rfl | (with_reducible assumption) | exact Nat.le_of_ble_eq_true rfl | omega | (simp <;> omega) | (focus (repeat' (first | (with_reducible assumption) | exact one_iS _ _ | rfl)); done))))) <;> (try (conv => whnf))
    exact ⟨(2, a.length + b.length), ⟨by show 2 ≤ 2; decide, by simp⟩, by show 2 - 2 < 2 - 1; decide, ⟨rfl, congrArg (AV.int .i64) (by dsimp only; omega), trivial⟩, HLe.refl _⟩
  · have hs : s = a.length + b.length := by simpa using hs
    subst hs
    (repeat' ((conv => whnf); first | refine Then.mk ?_ | refine OpsA.cons ?_ | refine OpsA.nil ?_ | refine AWq.seq ?_ | refine AWq.region ?_ | refine AWq.cond ?_ | refine AWq.block ?_ | refine AWq.skip ?_ | refine AWq.ret ?_ | refine AWq.exit ?_ | refine AWq.loop ?_ | (refine Both.mk ?_ ?_ <;> intro hc <;> (first | exact Bool.noConfusion hc | exact absurd hc (by assumption) | (exfalso; omega) | skip)) | (intro c hc; (try (simp only [AH.none_iff] at hc; repeat (have hn := hc.1; replace hc := hc.2))); (first | (refine i64_k hc ?_ ?_ ?_ ; omega; omega; (clear hc; intro hc; subst hc)) | skip)) | (apply Exists.intro; apply And.intro; (first | (focus (repeat (first | (with_reducible assumption) | (with_reducible exact AH.set_same _ _ _))); done))) | (apply Exists.intro; apply And.intro; first | (with_reducible assumption) | ((try simp only [List.getElem?_drop, Nat.mul_one, Nat.add_zero, Nat.zero_add]); first | (with_reducible assumption) | rfl)) | (apply And.intro; (first | rfl | (with_reducible assumption) | exact Nat.le_of_ble_eq_true rfl | omega | (simp <;> omega) | (focus (repeat' (first | (with_reducible assumption) | exact one_iS _ _ | rfl)); done))))) <;> (try (conv => whnf))
    refine (hgr _).mono ?_
    rintro y H' ⟨r, hr, v, rfl, rfl⟩
    (repeat' ((conv => whnf); first | refine Then.mk ?_ | refine OpsA.cons ?_ | refine OpsA.nil ?_ | refine AWq.seq ?_ | refine AWq.region ?_ | refine AWq.cond ?_ | refine AWq.block ?_ | refine AWq.skip ?_ | refine AWq.ret ?_ | refine AWq.exit ?_ | refine AWq.loop ?_ | (refine Both.mk ?_ ?_ <;> intro hc <;> (first | exact Bool.noConfusion hc | exact absurd hc (by assumption) | (exfalso; omega) | skip)) | (intro c hc; (try (simp only [AH.none_iff] at hc; repeat (have hn := hc.1; replace hc := hc.2))); (first | (refine i64_k hc ?_ ?_ ?_ ; omega; omega; (clear hc; intro hc; subst hc)) | skip)) | (apply Exists.intro; apply And.intro; (first | (focus (repeat (first | (with_reducible assumption) | (with_reducible exact AH.set_same _ _ _))); done))) | (apply Exists.intro; apply And.intro; first | (with_reducible assumption) | ((try simp only [List.getElem?_drop, Nat.mul_one, Nat.add_zero, Nat.zero_add]); first | (with_reducible assumption) | rfl)) | (apply And.intro; (first | rfl | (with_reducible assumption) | exact Nat.le_of_ble_eq_true rfl | omega | (simp <;> omega) | (focus (repeat' (first | (with_reducible assumption) | exact one_iS _ _ | rfl)); done))))) <;> (try (conv => whnf))
    refine AWp_loop (σ := Nat × List Int) (6 :: 8 :: 27 :: 28 :: 29 :: 30 :: 31 :: 32 :: 33 :: 34 :: []) (fun s => [(27, .int .i64 s.1), (6, .sl r (v + s.1) 1 0 s.2.length none)]) (fun s => H.set r (.row (iS .i64 s.2) (v + s.1))) (fun s => s.1 ≤ 2 ∧ s.2 = (if 0 < s.1 then a else []) ++ if 1 < s.1 then b else []) (fun s => 2 - s.1) (0, []) rfl ⟨Nat.zero_le _, rfl⟩ ⟨rfl, rfl, trivial⟩ (HLe.refl _) ?_
    rintro ⟨i, s⟩ ⟨hi, hs⟩
    dsimp only at hi hs ⊢
    refine AWp.of tt_ok (dok _) rfl ?_
    rcases (show i = 0 ∨ i = 1 ∨ i = 2 by omega) with rfl | rfl | rfl
    · have hs : s = [] := by simpa using hs
      subst hs
      (repeat' ((conv => whnf); first | refine Then.mk ?_ | refine OpsA.cons ?_ | refine OpsA.nil ?_ | refine AWq.seq ?_ | refine AWq.region ?_ | refine AWq.cond ?_ | refine AWq.block ?_ | refine AWq.skip ?_ | refine AWq.ret ?_ | refine AWq.exit ?_ | refine AWq.loop ?_ | (refine Both.mk ?_ ?_ <;> intro hc <;> (first | exact Bool.noConfusion hc | exact absurd hc (by assumption) | (exfalso; omega) | skip)) | (intro c hc; (try (simp only [AH.none_iff] at hc; repeat (have hn := hc.1; replace hc := hc.2))); (first | (refine i64_k hc ?_ ?_ ?_ ; omega; omega; (clear hc; intro hc; subst hc)) | skip)) | (apply Exists.intro; apply And.intro; (first | (focus (repeat (first | (with_reducible assumption) | (with_reducible exact AH.set_same _ _ _))); done))) | (apply Exists.intro; apply And.intro; first | (with_reducible assumption) | ((try simp only [List.getElem?_drop, Nat.mul_one, Nat.add_zero, Nat.zero_add]); first | (with_reducible assumption) | rfl)) | (apply And.intro; (first | rfl | (with_reducible assumption) | exact Nat.le_of_ble_eq_true rfl | omega | (simp <;> omega) | (focus (repeat' (first | (with_reducible assumption) | exact one_iS _ _ | rfl)); done))))) <;> (try (conv => whnf))
      refine ⟨(1, a), ⟨by show 1 ≤ 2; decide, by simp⟩, by show 2 - 1 < 2 - 0; decide, ⟨rfl, ?_, trivial⟩, ?_⟩
      · show AV.sl r (v + 0 + 1) 1 0 (0 + a.length) none = .sl r (v + 1) 1 0 a.length none
        rw [Nat.zero_add]
      · exact HLe.of_eq (AH.set_set _ _ _ _).symm
    · have hs : a = s := by simpa using hs.symm
      subst hs
      (repeat' ((conv => whnf); first | refine Then.mk ?_ | refine OpsA.cons ?_ | refine OpsA.nil ?_ | refine AWq.seq ?_ | refine AWq.region ?_ | refine AWq.cond ?_ | refine AWq.block ?_ | refine AWq.skip ?_ | refine AWq.ret ?_ | refine AWq.exit ?_ | refine AWq.loop ?_ | (refine Both.mk ?_ ?_ <;> intro hc <;> (first | exact Bool.noConfusion hc | exact absurd hc (by assumption) | (exfalso; omega) | skip)) | (intro c hc; (try (simp only [AH.none_iff] at hc; repeat (have hn := hc.1; replace hc := hc.2))); (first | (refine i64_k hc ?_ ?_ ?_ ; omega; omega; (clear hc; intro hc; subst hc)) | skip)) | (apply Exists.intro; apply And.intro; (first | (focus (repeat (first | (with_reducible assumption) | (with_reducible exact AH.set_same _ _ _))); done))) | (apply Exists.intro; apply And.intro; first | (with_reducible assumption) | ((try simp only [List.getElem?_drop, Nat.mul_one, Nat.add_zero, Nat.zero_add]); first | (with_reducible assumption) | rfl)) | (apply And.intro; (first | rfl | (with_reducible assumption) | exact Nat.le_of_ble_eq_true rfl | omega | (simp <;> omega) | (focus (repeat' (first | (with_reducible assumption) | exact one_iS _ _ | rfl)); done))))) <;> (try (conv => whnf))
      refine ⟨(2, a ++ b), ⟨by show 2 ≤ 2; decide, by simp⟩, by show 2 - 2 < 2 - 1; decide, ⟨rfl, ?_, trivial⟩, ?_⟩
      · show AV.sl r (v + 1 + 1) 1 0 (a.length + b.length) none = .sl r (v + 2) 1 0 (a ++ b).length none
        rw [List.length_append]
      · dsimp only
        rw [← iS_append]
        exact HLe.of_eq (AH.set_set _ _ _ _).symm
    · have hs : s = a ++ b := by simpa using hs
      subst hs
      (repeat' ((conv => whnf); first | refine Then.mk ?_ | refine OpsA.cons ?_ | refine OpsA.nil ?_ | refine AWq.seq ?_ | refine AWq.region ?_ | refine AWq.cond ?_ | refine AWq.block ?_ | refine AWq.skip ?_ | refine AWq.ret ?_ | refine AWq.exit ?_ | refine AWq.loop ?_ | (refine Both.mk ?_ ?_ <;> intro hc <;> (first | exact Bool.noConfusion hc | exact absurd hc (by assumption) | (exfalso; omega) | skip)) | (intro c hc; (try (simp only [AH.none_iff] at hc; repeat (have hn := hc.1; replace hc := hc.2))); (first | (refine i64_k hc ?_ ?_ ?_ ; omega; omega; (clear hc; intro hc; subst hc)) | skip)) | (apply Exists.intro; apply And.intro; (first | (focus (repeat (first | (with_reducible assumption) | (with_reducible exact AH.set_same _ _ _))); done))) | (apply Exists.intro; apply And.intro; first | (with_reducible assumption) | ((try simp only [List.getElem?_drop, Nat.mul_one, Nat.add_zero, Nat.zero_add]); first | (with_reducible assumption) | rfl)) | (apply And.intro; (first | rfl | (with_reducible assumption) | exact Nat.le_of_ble_eq_true rfl | omega | (simp <;> omega) | (focus (repeat' (first | (with_reducible assumption) | exact one_iS _ _ | rfl)); done))))) <;> (try (conv => whnf))

/-- The flows are set. -/
def setFl : List Ac → List Int → List Ac
  | [], _ => []
  | x :: A, [] => x :: A
  | x :: A, f :: L => ⟨x.a, x.b, x.d, x.w, f⟩ :: setFl A L
theorem setFl_nil : ∀ A, setFl A [] = A
  | [] => rfl
  | x :: A => rfl
theorem setFl_len : ∀ A L, (setFl A L).length = A.length
  | [], _ => rfl
  | x :: A, [] => rfl
  | x :: A, f :: L => by simp [setFl, setFl_len A L]
theorem setFl_get : ∀ (A : List Ac) (L : List Int) (i : Nat), L.length ≤ i → (setFl A L)[i]? = A[i]?
  | [], _, _, _ => rfl
  | x :: A, [], _, _ => rfl
  | x :: A, f :: L, 0, h => by simp at h
  | x :: A, f :: L, i + 1, h => by simp only [setFl, List.getElem?_cons_succ]; exact setFl_get A L i (by simpa using h)
theorem setFl_snoc : ∀ (A : List Ac) (L : List Int) (x : Ac) (f : Int), A[L.length]? = some x → setFl A (L ++ [f]) = (setFl A L).set L.length ⟨x.a, x.b, x.d, x.w, f⟩
  | [], L, x, f, h => by simp at h
  | y :: A, [], x, f, h => by simp at h; subst h; simp [setFl, setFl_nil]
  | y :: A, g :: L, x, f, h => by
    simp only [List.cons_append, setFl, List.length_cons, List.set_cons_succ]
    rw [setFl_snoc A L x f (by simpa using h)]
/-- What the flows are worth. -/
def valF : List Ac → List Int → Int
  | x :: A, f :: L => -(f * x.d) + valF A L
  | _, _ => 0
theorem valF_snoc : ∀ (A : List Ac) (L : List Int) (x : Ac) (f : Int), A[L.length]? = some x → valF A (L ++ [f]) = valF A L - f * x.d
  | [], L, x, f, h => by simp at h
  | y :: A, [], x, f, h => by simp at h; subst h; cases A <;> simp [valF]
  | y :: A, g :: L, x, f, h => by
    simp only [List.cons_append, valF]
    rw [valF_snoc A L x f (by simpa using h)]
    omega
def inW (x : Ac) (f : Int) : Prop := -x.w ≤ f ∧ f ≤ x.w
instance (x : Ac) (f : Int) : Decidable (inW x f) := by unfold inW; exact inferInstance
def allW (A : List Ac) (L : List Int) : Prop := ∀ i x, A[i]? = some x → i < L.length → inW x (L.getD i 0)
theorem valF_bd : ∀ (A : List Ac) (L : List Int), (∀ x ∈ A, (-65535 ≤ x.d ∧ x.d ≤ 65535) ∧ x.w ≤ 65536) → allW A L → -(4294967296 * (L.length : Int)) ≤ valF A L ∧ valF A L ≤ 4294967296 * (L.length : Int)
  | [], L, _, _ => by simp only [valF]; omega
  | x :: A, [], _, _ => by simp [valF]
  | x :: A, f :: L, h, hw => by
    have ih := valF_bd A L (fun y hy => h y (by simp [hy])) (fun i y hy hi => by
      have := hw (i + 1) y (by simpa using hy) (by simpa using hi)
      simpa using this)
    have h1 := hw 0 x rfl (by simp)
    have h2 := h x (by simp)
    have h1 : -x.w ≤ f ∧ f ≤ x.w := h1
    have key : -4294967296 ≤ f * x.d ∧ f * x.d ≤ 4294967296 := by
      have a1 : (65536 - f) * (65535 - x.d) ≥ 0 := Int.mul_nonneg (by omega) (by omega)
      have a2 : (65536 + f) * (65535 + x.d) ≥ 0 := Int.mul_nonneg (by omega) (by omega)
      have a3 : (65536 - f) * (65535 + x.d) ≥ 0 := Int.mul_nonneg (by omega) (by omega)
      have a4 : (65536 + f) * (65535 - x.d) ≥ 0 := Int.mul_nonneg (by omega) (by omega)
      simp only [Int.sub_mul, Int.add_mul, Int.mul_sub, Int.mul_add] at a1 a2 a3 a4
      omega
    simp only [valF, List.length_cons]
    omega
end Go.Proofs.Ytebflkgpbbjhnaa
/- The walk of balance: Check. -/
namespace Go.Proofs.Ytebflkgpbbjhnaa
open Go.Fw Go
set_option linter.unusedVariables false
set_option linter.unusedSimpArgs false

/-- What Check accepts. -/
structure ChkP (n : Nat) (es : List Ed) (fs : List Fx) (O E F : List Int) (c : Int) : Prop where
  l1 : O.length = n
  l2 : E.length = es.length
  l3 : F.length = fs.length
  al : allW (net0 n es fs) (E ++ F)
  co : costR es fs O = (c, 0)
  va : valF (net0 n es fs) (E ++ F) = c
  ne : ∀ v, v < n → netN (setFl (net0 n es fs) (E ++ F)) v = 0
theorem allW_snoc {A : List Ac} {L : List Int} {x : Ac} {f : Int} (hx : A[L.length]? = some x) (h : allW A L) (hf : inW x f) : allW A (L ++ [f]) := by
  intro i y hy hi
  rw [List.length_append] at hi
  simp at hi
  by_cases e : i = L.length
  · subst e
    rw [hx] at hy; cases hy
    simpa using hf
  · rw [List.getD_eq_getElem?_getD, List.getElem?_append_left (by omega), ← List.getD_eq_getElem?_getD]
    exact h i y hy (by omega)
theorem getD_app {L : List Int} {i : Nat} (h : i < L.length) : L.take (i + 1) = L.take i ++ [L.getD i 0] := by
  rw [List.take_add_one, List.getElem?_eq_getElem h, List.getD_eq_getElem?_getD, List.getElem?_eq_getElem h]; rfl
theorem setFl_ok {n : Nat} : ∀ {A : List Ac} {L : List Int}, (∀ x ∈ A, AcOk n x) → allW A L → ∀ x ∈ setFl A L, AcOk n x
  | [], L, h, _ => by simp [setFl]
  | x :: A, [], h, _ => h
  | x :: A, f :: L, h, hw => by
    intro y hy
    simp only [setFl, List.mem_cons] at hy
    rcases hy with rfl | hy
    · obtain ⟨xa, xb, d1, d2, w1, w2, f1, f2⟩ := h x (by simp)
      have h1 : inW x f := hw 0 x rfl (by simp)
      exact ⟨xa, xb, d1, d2, w1, w2, h1.1, h1.2⟩
    · refine setFl_ok (A := A) (L := L) (fun z hz => h z (by simp [hz])) (fun i z hz hi => ?_) y hy
      have := hw (i + 1) z (by simpa using hz) (by simpa using hi)
      simpa using this
set_option maxHeartbeats 4000000 in
set_option maxRecDepth 8000 in
theorem check_c (n : Nat) (es : List Ed) (fs : List Fx) (hv : validV n es fs = 0) (O E F : List Int) (c : Int) (hO : O.length ≤ 1000000) (hE' : E.length ≤ 1000000) (hF' : F.length ≤ 1000000) (e : Int) (he1 : ChkP n es fs O E F c → e = 0) (he2 : ¬ ChkP n es fs O E F c → e = 17) (H : AH) :
    ACall Try.prog 22 [.int .i64 n, .cs (edL es) es.length, .cs (fxL fs) fs.length, .agg [.cs (iS .i64 O) O.length, .cs (iS .i64 E) E.length, .cs (iS .i64 F) F.length, .int .i64 c]] H (fun y H' => y = .int .i64 e ∧ H' = H) := by
  obtain ⟨⟨_, hn64⟩, ⟨he, hf⟩, hE, hF⟩ := validV_ok hv
  have hv1 := fun H => valid_c n es fs (by omega) (by omega) H
  rw [hv] at hv1
  refine ACall.back ?_
  have hJ0 := net0_ok hE hF
  have hlen0 : (net0 n es fs).length = es.length + fs.length := by unfold net0; simp
  by_cases hl : O.length = n ∧ E.length = es.length ∧ F.length = fs.length
  · obtain ⟨l1, l2, l3⟩ := hl
    have hcc := fun H => concat_c E F (by omega) (by omega) H
    obtain ⟨L, hL⟩ : ∃ L, L = E ++ F := ⟨_, rfl⟩
    have hLl : L.length = es.length + fs.length := by rw [hL, List.length_append]; omega
    rw [← hL] at hcc
    have hil := iS_length .i64 L
    obtain ⟨R, hR⟩ : ∃ R, R = iS .i64 L := ⟨_, rfl⟩
    rw [← hR] at hcc hil
    refine ACall_of tt_ok (dok _) Try.func22 rfl (by decide) rfl ?_
    (repeat' ((conv => whnf); first | left | refine OpsA.cons ?_ | refine OpsA.nil ?_ | refine AWq.seq ?_ | refine AWq.region ?_ | refine AWq.cond ?_ | refine AWq.block ?_ | refine AWq.skip ?_ | refine AWq.ret ?_ | refine AWq.exit ?_ | refine AWq.loop ?_ | (refine Both.mk ?_ ?_ <;> intro hc <;> (first | exact Bool.noConfusion hc | exact absurd (by with_reducible rfl) hc | (exfalso; omega) | skip)) | (intro c hc; (try (simp only [AH.none_iff] at hc; repeat (have hn := hc.1; replace hc := hc.2))); (first | (refine i64_k hc ?_ ?_ ?_ ; omega; omega; (clear hc; intro hc; subst hc)) | skip)) | (apply Exists.intro; apply And.intro; (first | (focus (repeat (first | (with_reducible assumption) | (with_reducible exact AH.set_same _ _ _))); done))) | (apply Exists.intro; apply And.intro; first | (with_reducible assumption) | ((try simp only [List.getElem?_drop, Nat.mul_one, Nat.add_zero, Nat.zero_add]); first | (with_reducible assumption) | rfl)) | (apply And.intro; (first | rfl | (with_reducible assumption) | omega | (simp <;> omega))))) <;> (try (conv => whnf))
    (obtain ⟨c7, hq_⟩ : ∃ c7, c7 = c := ⟨_, rfl⟩); subst hq_
    have hc7 : H c7 = none := hc
    refine Then.mk ?_
    (repeat' ((conv => whnf); first | refine Then.mk ?_ | left | refine OpsA.cons ?_ | refine OpsA.nil ?_ | refine AWq.seq ?_ | refine AWq.region ?_ | refine AWq.cond ?_ | refine AWq.block ?_ | refine AWq.skip ?_ | refine AWq.ret ?_ | refine AWq.exit ?_ | refine AWq.loop ?_ | (refine Both.mk ?_ ?_ <;> intro hc <;> (first | exact Bool.noConfusion hc | exact absurd (by with_reducible rfl) hc | (exfalso; omega) | skip)) | (intro c hc; (try (simp only [AH.none_iff] at hc; repeat (have hn := hc.1; replace hc := hc.2))); (first | (refine i64_k hc ?_ ?_ ?_ ; omega; omega; (clear hc; intro hc; subst hc)) | skip)) | (apply Exists.intro; apply And.intro; (first | (focus (repeat (first | (with_reducible assumption) | (with_reducible exact AH.set_same _ _ _))); done))) | (apply Exists.intro; apply And.intro; first | (with_reducible assumption) | ((try simp only [List.getElem?_drop, Nat.mul_one, Nat.add_zero, Nat.zero_add]); first | (with_reducible assumption) | rfl)) | (apply And.intro; (first | rfl | (with_reducible assumption) | omega | (simp <;> omega))) | (refine ACall.to (hv1 _) ?_))) <;> (try (conv => whnf))
    refine (start_c n (by omega) es fs he hf hE hF _).mono ?_
    rintro y H' ⟨g, ra, hg, hra, hgra, rfl, rfl⟩
    obtain ⟨A0, hA0⟩ : ∃ A0, A0 = net0 n es fs := ⟨_, rfl⟩
    rw [← hA0] at hJ0 hlen0 ⊢
    obtain ⟨S, hS⟩ : ∃ S, S = stH (H.set c7 (.row [.cs (iS .i64 O) O.length, .cs (iS .i64 E) E.length, .cs (iS .i64 F) F.length, .int .i64 c] 0)) n g ra A0 := ⟨_, rfl⟩
    have hSra : S ra = some (.row (acL A0) A0.length) := by rw [hS]; unfold stH; rw [AH.set_ne _ _ (Ne.symm hgra), AH.set_same]
    have hSg : S g = some (.row [.int .i64 n, .sl ra A0.length 5 0 A0.length none] 0) := by rw [hS]; unfold stH; rw [AH.set_same]
    have ng7 := (AH.none_set hg).1
    have na7 := (AH.none_set hra).1
    have hSc : S c7 = some (.row [.cs (iS .i64 O) O.length, .cs (iS .i64 E) E.length, .cs (iS .i64 F) F.length, .int .i64 c] 0) := by rw [hS]; unfold stH; rw [AH.set_ne _ _ (Ne.symm ng7), AH.set_ne _ _ (Ne.symm na7), AH.set_same]
    have hHS : HLe H S := by
      rw [hS]; unfold stH
      exact HLe.set_of _ _ (HLe.set_of _ _ (HLe.fresh _ hc7) (AH.none_set hra).2) (AH.none_set hg).2
    have hHra : H ra = none := (AH.none_set hra).2
    (repeat' ((conv => whnf); first | left | refine OpsA.cons ?_ | refine OpsA.nil ?_ | refine AWq.seq ?_ | refine AWq.region ?_ | refine AWq.cond ?_ | refine AWq.block ?_ | refine AWq.skip ?_ | refine AWq.ret ?_ | refine AWq.exit ?_ | refine AWq.loop ?_ | (refine Both.mk ?_ ?_ <;> intro hc <;> (first | exact Bool.noConfusion hc | exact absurd (by with_reducible rfl) hc | (exfalso; omega) | skip)) | (intro c hc; (try (simp only [AH.none_iff] at hc; repeat (have hn := hc.1; replace hc := hc.2))); (first | (refine i64_k hc ?_ ?_ ?_ ; omega; omega; (clear hc; intro hc; subst hc)) | skip)) | (apply Exists.intro; apply And.intro; (first | (focus (repeat (first | (with_reducible assumption) | (with_reducible exact AH.set_same _ _ _))); done))) | (apply Exists.intro; apply And.intro; first | (with_reducible assumption) | ((try simp only [List.getElem?_drop, Nat.mul_one, Nat.add_zero, Nat.zero_add]); first | (with_reducible assumption) | rfl)) | (apply And.intro; (first | rfl | (with_reducible assumption) | omega | (simp <;> omega))))) <;> (try (conv => whnf))
    refine Then.mk (AWq.in ?_)
    refine AWp_less S (HLe.of_eq hS) ?_
    refine AWp.of tt_ok (dok _) rfl ?_
    (repeat' ((conv => whnf); first | refine Then.mk ?_ | left | refine OpsA.cons ?_ | refine OpsA.nil ?_ | refine AWq.seq ?_ | refine AWq.region ?_ | refine AWq.cond ?_ | refine AWq.block ?_ | refine AWq.skip ?_ | refine AWq.ret ?_ | refine AWq.exit ?_ | refine AWq.loop ?_ | (refine Both.mk ?_ ?_ <;> intro hc <;> (first | exact Bool.noConfusion hc | exact absurd (by with_reducible rfl) hc | (exfalso; omega) | skip)) | (intro c hc; (try (simp only [AH.none_iff] at hc; repeat (have hn := hc.1; replace hc := hc.2))); (first | (refine i64_k hc ?_ ?_ ?_ ; omega; omega; (clear hc; intro hc; subst hc)) | skip)) | (apply Exists.intro; apply And.intro; (first | (focus (repeat (first | (with_reducible assumption) | (with_reducible exact AH.set_same _ _ _))); done))) | (apply Exists.intro; apply And.intro; first | (with_reducible assumption) | ((try simp only [List.getElem?_drop, Nat.mul_one, Nat.add_zero, Nat.zero_add]); first | (with_reducible assumption) | rfl)) | (apply And.intro; (first | rfl | (with_reducible assumption) | omega | (simp <;> omega))) | (refine ACall.to (hcc _) ?_))) <;> (try (conv => whnf))
    refine AWp_loop (σ := Nat) (8 :: 11 :: 12 :: 13 :: 14 :: 56 :: 57 :: 58 :: 59 :: 60 :: 61 :: 62 :: 63 :: 64 :: 65 :: 66 :: 67 :: 68 :: 69 :: 70 :: 71 :: 72 :: 73 :: 74 :: 75 :: 76 :: 77 :: 78 :: 79 :: 80 :: 81 :: 82 :: 83 :: 84 :: 85 :: 86 :: 87 :: []) (fun i => [(56, .int .i64 i), (11, .int .i64 (valF A0 (L.take i)))]) (fun i => S.set ra (.row (acL (setFl A0 (L.take i))) A0.length)) (fun i => i ≤ L.length ∧ allW A0 (L.take i)) (fun i => L.length - i) 0 rfl ⟨Nat.zero_le _, fun j x _ hj => by simp at hj⟩ ⟨rfl, congrArg (AV.int .i64) (by cases A0 <;> rfl), trivial⟩ (HLe.of_eq (by rw [List.take_zero, setFl_nil]; exact AH.set_id hSra)) ?_
    rintro i ⟨hi, hall⟩
    refine AWp.of tt_ok (dok _) rfl ?_
    dsimp only at hi ⊢
    have hA0s : ∀ x ∈ A0, (-65535 ≤ x.d ∧ x.d ≤ 65535) ∧ x.w ≤ 65536 := fun x hx => by
      obtain ⟨xa, xb, d1, d2, w1, w2, f1, f2⟩ := hJ0.ok x hx
      exact ⟨⟨d1, d2⟩, w2⟩
    have hvb := valF_bd A0 (L.take i) hA0s hall
    have htl : ((L.take i).length : Int) ≤ 16384 := by rw [List.length_take]; omega
    by_cases hil2 : i < L.length
    · obtain ⟨x, hx⟩ : ∃ x, A0[i]? = some x := ⟨_, List.getElem?_eq_getElem (by omega)⟩
      obtain ⟨xa, xb, d1, d2, w1, w2, f1, f2⟩ := hJ0.ok x (List.mem_of_getElem? hx)
      have htli : (L.take i).length = i := by rw [List.length_take]; omega
      have hx2 : (setFl A0 (L.take i))[i]? = some x := by rw [setFl_get _ _ _ (by omega)]; exact hx
      have gf : R[(i : Int).toNat]? = some (.int .i64 (L.getD i 0)) := by rw [hR]; exact iS_get hil2
      have htk := getD_app hil2
      have hsn := setFl_snoc A0 (L.take i) x (L.getD i 0) (by rw [htli]; exact hx)
      have hvn := valF_snoc A0 (L.take i) x (L.getD i 0) (by rw [htli]; exact hx)
      have hwn : inW x (L.getD i 0) → allW A0 (L.take i ++ [L.getD i 0]) := allW_snoc (by rw [htli]; exact hx) hall
      rw [htli] at hsn
      rw [← htk] at hsn hvn hwn
      have hg0 : (S.set ra (.row (acL (setFl A0 (L.take i))) A0.length)) g = some (.row [.int .i64 n, .sl ra A0.length 5 0 A0.length none] 0) := by rw [AH.set_ne _ _ hgra]; exact hSg
      have hcl := acL_len (setFl A0 (L.take i))
      rw [setFl_len] at hcl
      have hsl := setFl_len A0 (L.take i)
      have gw : (acL (setFl A0 (L.take i)))[(i : Int).toNat * 5 + 3]? = some (.int .i64 x.w) := acL_get hx2 3 (by decide)
      have gd : (wrA (acL (setFl A0 (L.take i))) (0 + (i : Int).toNat * 5 + 4) [.int .i64 (L.getD i 0)])[(i : Int).toNat * 5 + 2]? = some (.int .i64 x.d) := by
        rw [acL_wrZ hx2]
        exact acL_get (i := i) (x := ⟨x.a, x.b, x.d, x.w, L.getD i 0⟩) (List.getElem?_set_self (by rw [setFl_len]; omega)) 2 (by decide)
      have hst : acL (setFl A0 (L.take (i + 1))) = wrA (acL (setFl A0 (L.take i))) (0 + (i : Int).toNat * 5 + 4) [.int .i64 (L.getD i 0)] := by rw [acL_wrZ hx2, hsn]
      have hno : ¬ inW x (L.getD i 0) → ¬ ChkP n es fs O E F c := fun h k => h (by
        have := k.al i x (by rw [← hA0]; exact hx) (by rw [← hL]; exact hil2)
        rw [hL]; exact this)
      generalize L.getD i 0 = f at *
      generalize setFl A0 (L.take i) = A1 at *
      generalize valF A0 (L.take i) = vv at *
      by_cases hin : -x.w ≤ f ∧ f ≤ x.w
      · have key : -4294967296 ≤ f * x.d ∧ f * x.d ≤ 4294967296 := by
          have a1 : (65536 - f) * (65535 - x.d) ≥ 0 := Int.mul_nonneg (by omega) (by omega)
          have a2 : (65536 + f) * (65535 + x.d) ≥ 0 := Int.mul_nonneg (by omega) (by omega)
          have a3 : (65536 - f) * (65535 + x.d) ≥ 0 := Int.mul_nonneg (by omega) (by omega)
          have a4 : (65536 + f) * (65535 - x.d) ≥ 0 := Int.mul_nonneg (by omega) (by omega)
          simp only [Int.sub_mul, Int.add_mul, Int.mul_sub, Int.mul_add] at a1 a2 a3 a4
          omega
        have hwi := fun H => within1_c x.w (by omega) f true (decide_eq_true hin) H
        (iterate 4 ((repeat' ((conv => whnf); first | left | refine OpsA.cons ?_ | refine OpsA.nil ?_ | refine AWq.seq ?_ | refine AWq.region ?_ | refine AWq.cond ?_ | refine AWq.block ?_ | refine AWq.skip ?_ | refine AWq.ret ?_ | refine AWq.exit ?_ | refine AWq.loop ?_ | (refine Both.mk ?_ ?_ <;> intro hc <;> (first | exact Bool.noConfusion hc | exact absurd (by with_reducible rfl) hc | (exfalso; omega) | skip)) | (intro c hc; (try (simp only [AH.none_iff] at hc; repeat (have hn := hc.1; replace hc := hc.2))); (first | (refine i64_k hc ?_ ?_ ?_ ; omega; omega; (clear hc; intro hc; subst hc)) | skip)) | (apply Exists.intro; apply And.intro; (first | (focus (repeat (first | (with_reducible assumption) | (with_reducible exact AH.set_same _ _ _))); done))) | (apply Exists.intro; apply And.intro; first | (with_reducible assumption) | ((try simp only [List.getElem?_drop, Nat.mul_one, Nat.add_zero, Nat.zero_add]); first | (with_reducible assumption) | rfl)) | (apply And.intro; (first | rfl | (with_reducible assumption) | omega | (simp <;> omega))))) <;> (try (conv => whnf)); refine Then.mk ?_))
        (repeat' ((conv => whnf); first | left | refine OpsA.cons ?_ | refine OpsA.nil ?_ | refine AWq.seq ?_ | refine AWq.region ?_ | refine AWq.cond ?_ | refine AWq.block ?_ | refine AWq.skip ?_ | refine AWq.ret ?_ | refine AWq.exit ?_ | refine AWq.loop ?_ | (refine Both.mk ?_ ?_ <;> intro hc <;> (first | exact Bool.noConfusion hc | exact absurd (by with_reducible rfl) hc | (exfalso; omega) | skip)) | (intro c hc; (try (simp only [AH.none_iff] at hc; repeat (have hn := hc.1; replace hc := hc.2))); (first | (refine i64_k hc ?_ ?_ ?_ ; omega; omega; (clear hc; intro hc; subst hc)) | skip)) | (apply Exists.intro; apply And.intro; (first | (focus (repeat (first | (with_reducible assumption) | (with_reducible exact AH.set_same _ _ _))); done))) | (apply Exists.intro; apply And.intro; first | (with_reducible assumption) | ((try simp only [List.getElem?_drop, Nat.mul_one, Nat.add_zero, Nat.zero_add]); first | (with_reducible assumption) | rfl)) | (apply And.intro; (first | rfl | (with_reducible assumption) | omega | (simp <;> omega))) | (refine ACall.to (hwi _) ?_))) <;> (try (conv => whnf))
        refine Then.mk ?_
        (iterate 1 ((repeat' ((conv => whnf); first | left | refine OpsA.cons ?_ | refine OpsA.nil ?_ | refine AWq.seq ?_ | refine AWq.region ?_ | refine AWq.cond ?_ | refine AWq.block ?_ | refine AWq.skip ?_ | refine AWq.ret ?_ | refine AWq.exit ?_ | refine AWq.loop ?_ | (refine Both.mk ?_ ?_ <;> intro hc <;> (first | exact Bool.noConfusion hc | exact absurd (by with_reducible rfl) hc | (exfalso; omega) | skip)) | (intro c hc; (try (simp only [AH.none_iff] at hc; repeat (have hn := hc.1; replace hc := hc.2))); (first | (refine i64_k hc ?_ ?_ ?_ ; omega; omega; (clear hc; intro hc; subst hc)) | skip)) | (apply Exists.intro; apply And.intro; (first | (focus (repeat (first | (with_reducible assumption) | (with_reducible exact AH.set_same _ _ _))); done))) | (apply Exists.intro; apply And.intro; first | (with_reducible assumption) | ((try simp only [List.getElem?_drop, Nat.mul_one, Nat.add_zero, Nat.zero_add]); first | (with_reducible assumption) | rfl)) | (apply And.intro; (first | rfl | (with_reducible assumption) | omega | (simp <;> omega))))) <;> (try (conv => whnf)); refine Then.mk ?_))
        (repeat' ((conv => whnf); first | left | refine OpsA.cons ?_ | refine OpsA.nil ?_ | refine AWq.seq ?_ | refine AWq.region ?_ | refine AWq.cond ?_ | refine AWq.block ?_ | refine AWq.skip ?_ | refine AWq.ret ?_ | refine AWq.exit ?_ | refine AWq.loop ?_ | (refine Both.mk ?_ ?_ <;> intro hc <;> (first | exact Bool.noConfusion hc | exact absurd (by with_reducible rfl) hc | (exfalso; omega) | skip)) | (intro c hc; (try (simp only [AH.none_iff] at hc; repeat (have hn := hc.1; replace hc := hc.2))); (first | (refine i64_k hc ?_ ?_ ?_ ; omega; omega; (clear hc; intro hc; subst hc)) | skip)) | (apply Exists.intro; apply And.intro; (first | (focus (repeat (first | (with_reducible assumption) | (with_reducible exact AH.set_same _ _ _))); done))) | (apply Exists.intro; apply And.intro; first | (with_reducible assumption) | ((try simp only [List.getElem?_drop, Nat.mul_one, Nat.add_zero, Nat.zero_add]); first | (with_reducible assumption) | rfl)) | (apply And.intro; (first | rfl | (with_reducible assumption) | omega | (simp <;> omega))))) <;> (try (conv => whnf))
        refine Then.mk (AWq.in ?_)
        have hA2l : (acL (setFl A0 (L.take (i + 1)))).length = A0.length * 5 := by rw [acL_len, setFl_len]
        rw [← hst] at gd
        refine AWp_less (S.set ra (.row (acL (setFl A0 (L.take (i + 1)))) A0.length)) (HLe.of_eq (by rw [hst]; exact (AH.set_set _ _ _ _).symm)) ?_
        refine AWp.of tt_ok (dok _) rfl ?_
        generalize hA2 : acL (setFl A0 (L.take (i + 1))) = R2 at *
        (repeat' ((conv => whnf); first | refine Then.mk ?_ | left | refine OpsA.cons ?_ | refine OpsA.nil ?_ | refine AWq.seq ?_ | refine AWq.region ?_ | refine AWq.cond ?_ | refine AWq.block ?_ | refine AWq.skip ?_ | refine AWq.ret ?_ | refine AWq.exit ?_ | refine AWq.loop ?_ | (refine Both.mk ?_ ?_ <;> intro hc <;> (first | exact Bool.noConfusion hc | exact absurd (by with_reducible rfl) hc | (exfalso; omega) | skip)) | (intro c hc; (try (simp only [AH.none_iff] at hc; repeat (have hn := hc.1; replace hc := hc.2))); (first | (refine i64_k hc ?_ ?_ ?_ ; omega; omega; (clear hc; intro hc; subst hc)) | skip)) | (apply Exists.intro; apply And.intro; (first | (focus (repeat (first | (with_reducible assumption) | (with_reducible exact AH.set_same _ _ _))); done))) | (apply Exists.intro; apply And.intro; first | (with_reducible assumption) | ((try simp only [List.getElem?_drop, Nat.mul_one, Nat.add_zero, Nat.zero_add]); first | (with_reducible assumption) | rfl)) | (apply And.intro; (first | rfl | (with_reducible assumption) | omega | (simp <;> omega))))) <;> (try (conv => whnf))
        refine ⟨i + 1, ⟨hil2, hwn hin⟩, by omega, ⟨congrArg (AV.int .i64) (by omega), congrArg (AV.int .i64) (by rw [hvn]), trivial⟩, HLe.of_eq ?_⟩
        rw [hA2]
      · have hwi := fun H => within1_c x.w (by omega) f false (decide_eq_false hin) H
        have hen := he2 (hno hin)
        subst hen
        (repeat' ((conv => whnf); first | refine Then.mk ?_ | left | refine OpsA.cons ?_ | refine OpsA.nil ?_ | refine AWq.seq ?_ | refine AWq.region ?_ | refine AWq.cond ?_ | refine AWq.block ?_ | refine AWq.skip ?_ | refine AWq.ret ?_ | refine AWq.exit ?_ | refine AWq.loop ?_ | (refine Both.mk ?_ ?_ <;> intro hc <;> (first | exact Bool.noConfusion hc | exact absurd (by with_reducible rfl) hc | (exfalso; omega) | skip)) | (intro c hc; (try (simp only [AH.none_iff] at hc; repeat (have hn := hc.1; replace hc := hc.2))); (first | (refine i64_k hc ?_ ?_ ?_ ; omega; omega; (clear hc; intro hc; subst hc)) | skip)) | (apply Exists.intro; apply And.intro; (first | (focus (repeat (first | (with_reducible assumption) | (with_reducible exact AH.set_same _ _ _))); done))) | (apply Exists.intro; apply And.intro; first | (with_reducible assumption) | ((try simp only [List.getElem?_drop, Nat.mul_one, Nat.add_zero, Nat.zero_add]); first | (with_reducible assumption) | rfl)) | (apply And.intro; (first | rfl | (with_reducible assumption) | omega | (simp <;> omega))) | (refine ACall.to (hwi _) ?_))) <;> (try (conv => whnf))
        exact HLe.set_of _ _ hHS hHra
    · have hie : i = L.length := by omega
      rw [hie, List.take_of_length_le (Nat.le_refl _)] at hall
      have hte : L.take i = L := List.take_of_length_le (by omega)
      rw [hte] at hvb ⊢
      obtain ⟨A, hA⟩ : ∃ A, A = setFl A0 L := ⟨_, rfl⟩
      have hAok : ∀ x ∈ A, AcOk n x := by rw [hA]; exact setFl_ok hJ0.ok hall
      have hAl : A.length = A0.length := by rw [hA, setFl_len]
      rw [← hA]
      obtain ⟨vv, hvv⟩ : ∃ vv, vv = valF A0 L := ⟨_, rfl⟩
      rw [← hvv] at hvb ⊢
      have hk7 : (S.set ra (.row (acL A) A0.length)) c7 = some (.row [.cs (iS .i64 O) O.length, .cs (iS .i64 E) E.length, .cs (iS .i64 F) F.length, .int .i64 c] 0) := by rw [AH.set_ne _ _ (Ne.symm na7)]; exact hSc
      have hNet : NetAt (S.set ra (.row (acL A) A0.length)) n A g 0 ra A0.length none := ⟨by rw [AH.set_ne _ _ hgra, hAl]; exact hSg, AH.set_same _ _ _, hgra⟩
      have hnet := net_c n (by omega) A hAok (by omega) _ g 0 ra A0.length none hNet
      have hHG : HLe H (S.set ra (.row (acL A) A0.length)) := HLe.set_of _ _ hHS hHra
      obtain ⟨G, hG⟩ : ∃ G, G = S.set ra (.row (acL A) A0.length) := ⟨_, rfl⟩
      rw [← hG] at hk7 hnet hHG ⊢
      have hcost := fun H => cost_c es fs O (by omega) (by omega) (by omega) H
      have hcon := fun H => contains0_c (fun x => decide (x ≠ 0)) 48 (fnL n (netN A)) (by simp; omega) H (fun x _ => chk1_c x H)
      have htn : dL n (netN A) = List.take ((n : Int).toNat * 1) (dL (n + 1) (netN A)) := by
        rw [Int.toNat_natCast, Nat.mul_one]
        unfold dL iS
        rw [← List.map_take]
        congr 1
        unfold fnL
        rw [← List.map_take, List.take_range]
        congr 2; omega
      rw [fnL_len] at hcon
      have hcon : ∀ H, ACall Try.prog 47 [.cs (List.take ((n : Int).toNat * 1) (dL (n + 1) (netN A))) (n : Int).toNat, .fn (.func 48) [] []] H (fun y H' => y = .bool ((fnL n (netN A)).any fun x => decide (x ≠ 0)) ∧ H' = H) := fun H => by
        rw [← htn]; exact hcon H
      have hdl := dL_len (n + 1) (netN A)
      have hany : ((fnL n (netN A)).any fun x => decide (x ≠ 0)) = false ↔ ∀ v, v < n → netN A v = 0 := by
        rw [List.any_eq_false]
        constructor
        · intro h v hv
          have := h (netN A v) (List.mem_map.2 ⟨v, by simpa using hv, rfl⟩)
          simpa using this
        · intro h x hx
          obtain ⟨v, hv, rfl⟩ := List.mem_map.1 hx
          simpa using h v (by simpa using hv)
      have hP : ChkP n es fs O E F c ↔ (costR es fs O).2 = 0 ∧ (costR es fs O).1 = c ∧ vv = c ∧ ((fnL n (netN A)).any fun x => decide (x ≠ 0)) = false := by
        rw [hany]
        constructor
        · intro k
          refine ⟨by rw [k.co], by rw [k.co], ?_, ?_⟩
          · rw [hvv, hL, hA0]; exact k.va
          · rw [hA, hL, hA0]; exact k.ne
        · rintro ⟨k1, k2, k3, k4⟩
          refine ⟨l1, l2, l3, ?_, Prod.ext k2 k1, ?_, ?_⟩
          · rw [← hL, ← hA0]; exact hall
          · rw [← hL, ← hA0, ← hvv]; exact k3
          · rw [← hL, ← hA0, ← hA]; exact k4
      generalize ((fnL n (netN A)).any fun x => decide (x ≠ 0)) = bb at *
      generalize costR es fs O = cr at *
      obtain ⟨cr1, cr2⟩ := cr
      dsimp only at hP hcost
      by_cases hgood : cr2 = 0 ∧ cr1 = c ∧ vv = c ∧ bb = false
      · have hen := he1 (hP.2 hgood)
        obtain ⟨rfl, rfl, rfl, rfl⟩ := hgood
        subst hen
        (repeat' ((conv => whnf); first | refine Then.mk ?_ | left | refine OpsA.cons ?_ | refine OpsA.nil ?_ | refine AWq.seq ?_ | refine AWq.region ?_ | refine AWq.cond ?_ | refine AWq.block ?_ | refine AWq.skip ?_ | refine AWq.ret ?_ | refine AWq.exit ?_ | refine AWq.loop ?_ | (refine Both.mk ?_ ?_ <;> intro hc <;> (first | exact Bool.noConfusion hc | exact absurd (by with_reducible rfl) hc | (exfalso; omega) | skip)) | (intro c hc; (try (simp only [AH.none_iff] at hc; repeat (have hn := hc.1; replace hc := hc.2))); (first | (refine i64_k hc ?_ ?_ ?_ ; omega; omega; (clear hc; intro hc; subst hc)) | skip)) | (apply Exists.intro; apply And.intro; (first | (focus (repeat (first | (with_reducible assumption) | (with_reducible exact AH.set_same _ _ _))); done))) | (apply Exists.intro; apply And.intro; first | (with_reducible assumption) | ((try simp only [List.getElem?_drop, Nat.mul_one, Nat.add_zero, Nat.zero_add]); first | (with_reducible assumption) | rfl)) | (apply And.intro; (first | rfl | (with_reducible assumption) | omega | (simp <;> omega))) | (refine ACall.to (hcost _) ?_) | (refine ACall.to (hnet) ?_) | (refine ACall.to (hcon _) ?_))) <;> (try (conv => whnf))
        all_goals exact hHG
      · have hen := he2 (fun k => hgood (hP.1 k))
        subst hen
        cases bb with
        | true =>
          (repeat' ((conv => whnf); first | refine Then.mk ?_ | left | refine OpsA.cons ?_ | refine OpsA.nil ?_ | refine AWq.seq ?_ | refine AWq.region ?_ | refine AWq.cond ?_ | refine AWq.block ?_ | refine AWq.skip ?_ | refine AWq.ret ?_ | refine AWq.exit ?_ | refine AWq.loop ?_ | (refine Both.mk ?_ ?_ <;> intro hc <;> (first | exact Bool.noConfusion hc | exact absurd (by with_reducible rfl) hc | (exfalso; omega) | skip)) | (intro c hc; (try (simp only [AH.none_iff] at hc; repeat (have hn := hc.1; replace hc := hc.2))); (first | (refine i64_k hc ?_ ?_ ?_ ; omega; omega; (clear hc; intro hc; subst hc)) | skip)) | (apply Exists.intro; apply And.intro; (first | (focus (repeat (first | (with_reducible assumption) | (with_reducible exact AH.set_same _ _ _))); done))) | (apply Exists.intro; apply And.intro; first | (with_reducible assumption) | ((try simp only [List.getElem?_drop, Nat.mul_one, Nat.add_zero, Nat.zero_add]); first | (with_reducible assumption) | rfl)) | (apply And.intro; (first | rfl | (with_reducible assumption) | omega | (simp <;> omega))) | (refine ACall.to (hcost _) ?_) | (refine ACall.to (hnet) ?_) | (refine ACall.to (hcon _) ?_))) <;> (try (conv => whnf))
          all_goals exact hHG
        | false =>
          have hg2 : ¬ (cr2 = 0 ∧ cr1 = c ∧ vv = c) := fun k => hgood ⟨k.1, k.2.1, k.2.2, rfl⟩
          (repeat' ((conv => whnf); first | refine Then.mk ?_ | left | refine OpsA.cons ?_ | refine OpsA.nil ?_ | refine AWq.seq ?_ | refine AWq.region ?_ | refine AWq.cond ?_ | refine AWq.block ?_ | refine AWq.skip ?_ | refine AWq.ret ?_ | refine AWq.exit ?_ | refine AWq.loop ?_ | (refine Both.mk ?_ ?_ <;> intro hc <;> (first | exact Bool.noConfusion hc | exact absurd (by with_reducible rfl) hc | (exfalso; omega) | skip)) | (intro c hc; (try (simp only [AH.none_iff] at hc; repeat (have hn := hc.1; replace hc := hc.2))); (first | (refine i64_k hc ?_ ?_ ?_ ; omega; omega; (clear hc; intro hc; subst hc)) | skip)) | (apply Exists.intro; apply And.intro; (first | (focus (repeat (first | (with_reducible assumption) | (with_reducible exact AH.set_same _ _ _))); done))) | (apply Exists.intro; apply And.intro; first | (with_reducible assumption) | ((try simp only [List.getElem?_drop, Nat.mul_one, Nat.add_zero, Nat.zero_add]); first | (with_reducible assumption) | rfl)) | (apply And.intro; (first | rfl | (with_reducible assumption) | omega | (simp <;> omega))) | (refine ACall.to (hcost _) ?_) | (refine ACall.to (hnet) ?_) | (refine ACall.to (hcon _) ?_))) <;> (try (conv => whnf))
          all_goals exact hHG
  · have hen := he2 (fun k => hl ⟨k.l1, k.l2, k.l3⟩)
    subst hen
    refine ACall_of tt_ok (dok _) Try.func22 rfl (by decide) rfl ?_
    (repeat' ((conv => whnf); first | refine Then.mk ?_ | left | refine OpsA.cons ?_ | refine OpsA.nil ?_ | refine AWq.seq ?_ | refine AWq.region ?_ | refine AWq.cond ?_ | refine AWq.block ?_ | refine AWq.skip ?_ | refine AWq.ret ?_ | refine AWq.exit ?_ | refine AWq.loop ?_ | (refine Both.mk ?_ ?_ <;> intro hc <;> (first | exact Bool.noConfusion hc | exact absurd (by with_reducible rfl) hc | (exfalso; omega) | skip)) | (intro c hc; (try (simp only [AH.none_iff] at hc; repeat (have hn := hc.1; replace hc := hc.2))); (first | (refine i64_k hc ?_ ?_ ?_ ; omega; omega; (clear hc; intro hc; subst hc)) | skip)) | (apply Exists.intro; apply And.intro; (first | (focus (repeat (first | (with_reducible assumption) | (with_reducible exact AH.set_same _ _ _))); done))) | (apply Exists.intro; apply And.intro; first | (with_reducible assumption) | ((try simp only [List.getElem?_drop, Nat.mul_one, Nat.add_zero, Nat.zero_add]); first | (with_reducible assumption) | rfl)) | (apply And.intro; (first | rfl | (with_reducible assumption) | omega | (simp <;> omega))) | (refine ACall.to (hv1 _) ?_))) <;> (try (conv => whnf))
    all_goals exact HLe.fresh _ (by assumption)
end Go.Proofs.Ytebflkgpbbjhnaa
/- The plain law of balance: Solve's answer is the best one. -/
namespace Go.Proofs.Ytebflkgpbbjhnaa
open Go.Fw Go
set_option linter.unusedVariables false
set_option linter.unusedSimpArgs false

theorem Alk.cons {x : Ac} {A B : List Ac} (h : Alk (x :: A) B) : ∃ g B', B = addF x g :: B' ∧ Alk A B' := by
  obtain ⟨g, hg⟩ := (h 0).1 x rfl
  cases B with
  | nil => simp at hg
  | cons y B =>
    simp at hg
    subst hg
    refine ⟨g, B, rfl, fun i => ⟨fun z hz => ?_, fun hn => ?_⟩⟩
    · have := (h (i + 1)).1 z (by simpa using hz)
      simpa using this
    · have := (h (i + 1)).2 (by simpa using hn)
      simpa using this
theorem Alk.sum {g : Ac → Int} (hg : ∀ x z, g (addF x z) = g x) : ∀ {A B : List Ac}, Alk A B → (B.map g).sum = (A.map g).sum
  | [], B, h => by
    have := h.len
    have : B = [] := List.eq_nil_of_length_eq_zero (by simpa using this)
    rw [this]
  | x :: A, B, h => by
    obtain ⟨z, B', rfl, h'⟩ := h.cons
    rw [List.map_cons, List.sum_cons, List.map_cons, List.sum_cons, hg, Alk.sum hg h']
/-- Offsets with 0 for the further node. -/
def nul (n : Nat) (q : Nat → Int) : Nat → Int := fun v => if v = n then 0 else q v
theorem cost_net {n : Nat} {es : List Ed} {fs : List Fx} (hE : ∀ x ∈ es, vE n x) (hF : ∀ x ∈ fs, vF n x) (q : Nat → Int) : costA (nul n q) (net0 n es fs) = costP es fs q := by
  unfold costA costP net0
  rw [List.map_append, List.sum_append, List.map_map, List.map_map]
  congr 1
  · refine congrArg List.sum (List.map_congr_left fun x hx => ?_)
    obtain ⟨v1, v2, v3, v4, v5⟩ := hE x hx
    show x.w * absI (nul n q x.a.toNat - nul n q x.b.toNat - x.d) = costE q x
    unfold nul costE
    rw [if_neg (by omega), if_neg (by omega)]
  · refine congrArg List.sum (List.map_congr_left fun x hx => ?_)
    obtain ⟨v1, v4, v5⟩ := hF x hx
    show x.w * absI (nul n q x.a.toNat - nul n q n - x.v) = costF q x
    unfold nul costF
    rw [if_neg (by omega), if_pos rfl, Int.sub_zero]
theorem cost_alk {n : Nat} {es : List Ed} {fs : List Fx} (hE : ∀ x ∈ es, vE n x) (hF : ∀ x ∈ fs, vF n x) {A : List Ac} (h : Alk (net0 n es fs) A) (q : Nat → Int) : costA (nul n q) A = costP es fs q := by
  rw [← cost_net hE hF]
  exact h.sum fun x z => rfl

theorem Sv.bs {n : Nat} {es : List Ed} {fs : List Fx} {A : List Ac} {d o : Nat → Int} (h : Sv n es fs A d o) {v : Nat} (hv : v ≤ n) : 0 ≤ bsN n o v ∧ bsN n o v ≤ n := by
  have h1 := h.bi.lo v hv
  have h2 := h.bi.up v hv
  unfold bsN; split <;> omega
theorem Sv.at {n : Nat} {es : List Ed} {fs : List Fx} {A : List Ac} {d o : Nat → Int} (h : Sv n es fs A d o) {v : Nat} (hv : v < n) : ofL (fnL n (offS n d o)) v = d v - d (bsN n o v).toNat := by
  unfold ofL
  rw [List.getD_eq_getElem?_getD, fnL_get _ hv]; rfl
theorem Sv.off {n : Nat} {es : List Ed} {fs : List Fx} {A : List Ac} {d o : Nat → Int} (h : Sv n es fs A d o) {x : Ac} (hx : x ∈ A) : off (nul n (ofL (fnL n (offS n d o)))) x = off d x := by
  obtain ⟨xa, xb, _, _, _, _, _, _⟩ := h.ok x hx
  have key : ∀ v, v ≤ n → nul n (ofL (fnL n (offS n d o))) v = d v - d (bsN n o v).toNat := fun v hv => by
    unfold nul
    by_cases e : v = n
    · rw [if_pos e, e]
      have : bsN n o n = n := by unfold bsN; rw [h.bi.last]; rfl
      rw [this, Int.toNat_natCast]; omega
    · rw [if_neg e]; exact h.at (by omega)
  have hb : bsN n o x.a = bsN n o x.b := by unfold bsN; rw [h.eq x hx]
  unfold Proofs.Ytebflkgpbbjhnaa.off
  rw [key _ xa, key _ xb, hb]; omega
theorem Sv.bd {n : Nat} {es : List Ed} {fs : List Fx} {A : List Ac} {d o : Nat → Int} (h : Sv n es fs A d o) {v : Nat} (hn : n ≤ 64) (hv : v < n) : -4259840 ≤ ofL (fnL n (offS n d o)) v ∧ ofL (fnL n (offS n d o)) v ≤ 4259840 := by
  rw [h.at hv]
  obtain ⟨b1, b2⟩ := h.bs (v := v) (by omega)
  have l1 := h.lo v (by omega)
  have u1 := h.up v (by omega)
  have l2 := h.lo (bsN n o v).toNat (by omega)
  have u2 := h.up (bsN n o v).toNat (by omega)
  omega
theorem Sv.range {n : Nat} {es : List Ed} {fs : List Fx} {A : List Ac} {d o : Nat → Int} (h : Sv n es fs A d o) (hn : n ≤ 64) : ∀ x ∈ fnL n (offS n d o), -1073741824 ≤ x ∧ x ≤ 1073741824 := by
  intro x hx
  obtain ⟨v, hv, rfl⟩ := List.mem_map.1 hx
  have hv : v < n := by simpa using hv
  have h1 := h.bd hn hv
  have h2 := h.at hv
  have : offS n d o v = d v - d (bsN n o v).toNat := rfl
  omega
/-- Its cost is what its flows are worth. -/
theorem Sv.cost {n : Nat} {es : List Ed} {fs : List Fx} {A : List Ac} {d o : Nat → Int} (h : Sv n es fs A d o) (hE : ∀ x ∈ es, vE n x) (hF : ∀ x ∈ fs, vF n x) : costP es fs (ofL (fnL n (offS n d o))) = valA A := by
  rw [← cost_alk hE hF h.alk, equal h.ok (o := d) (fun v hv => by rw [h.net v hv, Int.mul_zero]) h.fe]
  unfold costA
  exact congrArg List.sum (List.map_congr_left fun x hx => by rw [h.off hx])
/-- No other offsets cost less. -/
theorem Sv.min {n : Nat} {es : List Ed} {fs : List Fx} {A : List Ac} {d o : Nat → Int} (h : Sv n es fs A d o) (hE : ∀ x ∈ es, vE n x) (hF : ∀ x ∈ fs, vF n x) (q : Nat → Int) : costP es fs (ofL (fnL n (offS n d o))) ≤ costP es fs q := by
  rw [h.cost hE hF, ← cost_alk hE hF h.alk]
  exact weak h.ok fun v hv => by rw [h.net v hv, Int.mul_zero]
theorem Sv.costR {n : Nat} {es : List Ed} {fs : List Fx} {A : List Ac} {d o : Nat → Int} (h : Sv n es fs A d o) (hE : ∀ x ∈ es, vE n x) (hF : ∀ x ∈ fs, vF n x) (hv : validV n es fs = 0) : Proofs.Ytebflkgpbbjhnaa.costR es fs (fnL n (offS n d o)) = (costP es fs (ofL (fnL n (offS n d o))), 0) := by
  obtain ⟨⟨_, hn⟩, _, _, _⟩ := validV_ok hv
  unfold Proofs.Ytebflkgpbbjhnaa.costR
  rw [fnL_len, hv, if_neg (by simp), if_pos (h.range (by omega))]
theorem Sv.flows {n : Nat} {es : List Ed} {fs : List Fx} {A : List Ac} {d o : Nat → Int} (h : Sv n es fs A d o) (hE : ∀ x ∈ es, vE n x) (hF : ∀ x ∈ fs, vF n x) : setFl (net0 n es fs) (flE es A ++ flF es A) = A ∧ allW (net0 n es fs) (flE es A ++ flF es A) ∧ valF (net0 n es fs) (flE es A ++ flF es A) = valA A ∧ (flE es A).length = es.length ∧ (flF es A).length = fs.length := by
  have hl := h.alk.len
  have hl0 : (net0 n es fs).length = es.length + fs.length := by unfold net0; simp
  have hEF : flE es A ++ flF es A = A.map (·.f) := by
    unfold flE flF; rw [← List.map_append, List.take_append_drop]
  rw [hEF]
  have gen : ∀ {A0 A : List Ac}, Alk A0 A → (∀ x ∈ A, -x.w ≤ x.f ∧ x.f ≤ x.w) → setFl A0 (A.map (·.f)) = A ∧ allW A0 (A.map (·.f)) ∧ valF A0 (A.map (·.f)) = valA A := by
    intro A0
    induction A0 with
    | nil =>
      intro A hal _
      have : A = [] := List.eq_nil_of_length_eq_zero (by simpa using hal.len)
      subst this
      exact ⟨rfl, fun i x hx => by simp at hx, rfl⟩
    | cons x A0 ih =>
      intro A hal hw
      obtain ⟨z, B, rfl, h'⟩ := hal.cons
      obtain ⟨i1, i2, i3⟩ := ih h' fun y hy => hw y (by simp [hy])
      have hw0 := hw _ (List.mem_cons_self ..)
      refine ⟨?_, fun i y hy hi => ?_, ?_⟩
      · simp only [List.map_cons, setFl, i1]; rfl
      · cases i with
        | zero => simp at hy; subst hy; exact hw0
        | succ i =>
          have := i2 i y (by simpa using hy) (by simpa using hi)
          simpa using this
      · simp only [List.map_cons, valF, i3]; rfl
  obtain ⟨g1, g2, g3⟩ := gen h.alk fun x hx => ⟨(h.ok x hx).f1, (h.ok x hx).f2⟩
  refine ⟨g1, g2, g3, ?_, ?_⟩
  · unfold flE; rw [List.length_map, List.length_take]; omega
  · unfold flF; rw [List.length_map, List.length_drop]; omega
theorem Sv.chk {n : Nat} {es : List Ed} {fs : List Fx} {A : List Ac} {d o : Nat → Int} (h : Sv n es fs A d o) (hE : ∀ x ∈ es, vE n x) (hF : ∀ x ∈ fs, vF n x) (hv : validV n es fs = 0) : ChkP n es fs (fnL n (offS n d o)) (flE es A) (flF es A) (Proofs.Ytebflkgpbbjhnaa.costR es fs (fnL n (offS n d o))).1 := by
  obtain ⟨f1, f2, f3, f4, f5⟩ := h.flows hE hF
  have hc := h.costR hE hF hv
  refine ⟨fnL_len _ _, f4, f5, f2, by rw [hc], ?_, fun v hv => ?_⟩
  · rw [hc, f3, h.cost hE hF]
  · rw [f1]; exact h.net v (by omega)
end Go.Proofs.Ytebflkgpbbjhnaa
/- The walks of balance: Solve's answer is accepted; the example. -/
namespace Go.Proofs.Ytebflkgpbbjhnaa
open Go.Fw Go
set_option linter.unusedVariables false
set_option linter.unusedSimpArgs false

theorem check_solved {n : Nat} {es : List Ed} {fs : List Fx} {A : List Ac} {d o : Nat → Int} (h : Sv n es fs A d o) (hv : validV n es fs = 0) (H : AH) :
    ACall Try.prog 22 [.int .i64 n, .cs (edL es) es.length, .cs (fxL fs) fs.length, .agg [.cs (iS .i64 (fnL n (offS n d o))) n, .cs (iS .i64 (flE es A)) es.length, .cs (iS .i64 (flF es A)) fs.length, .int .i64 (costR es fs (fnL n (offS n d o))).1]] H (fun y H' => y = .int .i64 0 ∧ H' = H) := by
  obtain ⟨⟨_, hn⟩, ⟨he, hf⟩, hE, hF⟩ := validV_ok hv
  obtain ⟨_, _, _, f4, f5⟩ := h.flows hE hF
  have hc := check_c n es fs hv (fnL n (offS n d o)) (flE es A) (flF es A) (costR es fs (fnL n (offS n d o))).1 (by rw [fnL_len]; omega) (by omega) (by omega) 0 (fun _ => rfl) (fun k => absurd (h.chk hE hF hv) k) H
  rw [fnL_len, f4, f5] at hc
  exact hc
set_option maxRecDepth 8000 in
theorem lives17_c (H : AH) : ACall Try.prog 19 [] H (fun y H' => y = .bool true ∧ H' = H) := by
  obtain ⟨es, hes⟩ : ∃ es : List Ed, es = [⟨0, 1, 5, 2⟩] := ⟨_, rfl⟩
  obtain ⟨fs, hfs⟩ : ∃ fs : List Fx, fs = [⟨0, 0, 1⟩, ⟨1, 3, 1⟩] := ⟨_, rfl⟩
  have hv : validV (2 : Nat) es fs = 0 := by rw [hes, hfs]; decide
  obtain ⟨_, _, hE, hF⟩ := validV_ok hv
  have hsolve := fun H => solve_c 2 es fs hv H
  have c1 := fun H => cost_c es fs [0, -5] (by rw [hes]; decide) (by rw [hfs]; decide) (by decide) H
  have c2 := fun H => cost_c es fs [8, 3] (by rw [hes]; decide) (by rw [hfs]; decide) (by decide) H
  have e1 : costR es fs [0, -5] = (8, 0) := by rw [hes, hfs]; decide
  have e2 : costR es fs [8, 3] = (8, 0) := by rw [hes, hfs]; decide
  rw [e1] at c1
  rw [e2] at c2
  have p1 : costP es fs (ofL [0, -5]) = 8 := by rw [hes, hfs]; decide
  have hlow : ∀ q : Nat → Int, 8 ≤ costP es fs q := fun q => by
    rw [hes, hfs]
    unfold costP
    simp only [List.map_cons, List.map_nil, List.sum_cons, List.sum_nil, costE, costF]
    show 8 ≤ 2 * absI (q 0 - q 1 - 5) + 0 + (1 * absI (q 0 - 0) + (1 * absI (q 1 - 3) + 0))
    unfold absI
    split <;> split <;> split <;> omega
  have hchk := fun A d o (h : Sv 2 es fs A d o) H => check_solved h hv H
  have hR : edL es = [.int .i64 0, .int .i64 1, .int .i64 5, .int .i64 2] := by rw [hes]; rfl
  have hR2 : fxL fs = [.int .i64 0, .int .i64 0, .int .i64 1, .int .i64 1, .int .i64 3, .int .i64 1] := by rw [hfs]; rfl
  have l1 : es.length = 1 := by rw [hes]; rfl
  have l2 : fs.length = 2 := by rw [hfs]; rfl
  rw [l1, l2, hR, hR2] at hsolve c1 c2 hchk
  refine ACall.back ?_
  refine ACall_of tt_ok (dok _) Try.func19 rfl (by decide) rfl ?_
  (repeat' ((conv => whnf); first | refine Then.mk ?_ | left | refine OpsA.cons ?_ | refine OpsA.nil ?_ | refine AWq.seq ?_ | refine AWq.region ?_ | refine AWq.ret ?_ | (refine Both.mk ?_ ?_ <;> intro hc <;> (first | exact absurd (by with_reducible rfl) hc | skip)) | (intro c hc; (try (simp only [AH.none_iff] at hc; repeat (have hn := hc.1; replace hc := hc.2))); (first | skip)) | (apply Exists.intro; apply And.intro; (first | (focus (repeat (first | (with_reducible assumption) | (with_reducible exact AH.set_same _ _ _))); done))) | (apply Exists.intro; apply And.intro; first | (with_reducible assumption) | ((try simp only [List.getElem?_drop, Nat.mul_one, Nat.add_zero, Nat.zero_add]); first | (with_reducible assumption) | rfl)) | (apply And.intro; (first | rfl | (with_reducible assumption) | exact Nat.le_of_ble_eq_true rfl)))) <;> (try (conv => whnf))
  refine ACall.mono (hsolve _) ?_
  rintro y H' ⟨A, d, o, hSv, rfl, rfl⟩
  have hk := fun H => hchk A d o hSv H
  have hm1 := hSv.min hE hF (ofL [0, -5])
  have hm2 := hlow (ofL (fnL 2 (offS 2 d o)))
  have hcr := hSv.costR hE hF hv
  have hco : (costR es fs (fnL 2 (offS 2 d o))).1 = 8 := by rw [hcr]; show costP es fs _ = 8; omega
  unfold solV
  rw [hco, l1, l2]
  rw [hco] at hk
  (repeat' ((conv => whnf); first | refine Then.mk ?_ | left | refine OpsA.cons ?_ | refine OpsA.nil ?_ | refine AWq.seq ?_ | refine AWq.region ?_ | refine AWq.ret ?_ | (refine Both.mk ?_ ?_ <;> intro hc <;> (first | exact absurd (by with_reducible rfl) hc | skip)) | (intro c hc; (try (simp only [AH.none_iff] at hc; repeat (have hn := hc.1; replace hc := hc.2))); (first | skip)) | (apply Exists.intro; apply And.intro; (first | (focus (repeat (first | (with_reducible assumption) | (with_reducible exact AH.set_same _ _ _))); done))) | (apply Exists.intro; apply And.intro; first | (with_reducible assumption) | ((try simp only [List.getElem?_drop, Nat.mul_one, Nat.add_zero, Nat.zero_add]); first | (with_reducible assumption) | rfl)) | (apply And.intro; (first | rfl | (with_reducible assumption) | exact Nat.le_of_ble_eq_true rfl)) | (refine ACall.to (c1 _) ?_) | (refine ACall.to (c2 _) ?_) | (refine ACall.to (hk _) ?_))) <;> (try (conv => whnf))
  (first | ((repeat' (first | (with_reducible exact HLe.refl _) | (with_reducible assumption) | refine HLe.set_of _ _ ?_ ?_)); done))
end Go.Proofs.Ytebflkgpbbjhnaa
/- The walks of balance: real, plain. -/
namespace Go.Proofs.Ytebflkgpbbjhnaa
open Go.Fw Go
set_option linter.unusedVariables false
set_option linter.unusedSimpArgs false

theorem edL_get {l : List Ed} {i : Nat} {x : Ed} (h : l[i]? = some x) (j : Nat) (hj : j < 4) : (edL l)[i * 4 + j]? = (edA x)[j]? := fL_get edA_len h hj
theorem fxL_get {l : List Fx} {i : Nat} {x : Fx} (h : l[i]? = some x) (j : Nat) (hj : j < 3) : (fxL l)[i * 3 + j]? = (fxA x)[j]? := fL_get fxA_len h hj
set_option maxHeartbeats 4000000 in
set_option maxRecDepth 8000 in
theorem real_s (es : List Ed) (fs : List Fx) (he : es.length ≤ 1000000) (hf : fs.length ≤ 1000000) (H : AH) :
    ACall Try.prog 13 [.cs (edL es) es.length, .cs (fxL fs) fs.length] H (fun y H' => ∃ r1 r2 v1 v2, H r1 = none ∧ H r2 = none ∧ r1 ≠ r2 ∧ y = .tup [.sl r1 v1 4 0 es.length none, .sl r2 v2 3 0 fs.length none] ∧ H' = (H.set r1 (.row (edL es) v1)).set r2 (.row (fxL fs) v2)) := by
  have hel := edL_len es
  have hfl := fxL_len fs
  refine ACall_of tt_ok (dok _) Try.func13 rfl (by decide) rfl ?_
  (iterate 3 ((repeat' ((conv => whnf); first | left | refine OpsA.cons ?_ | refine OpsA.nil ?_ | refine AWq.seq ?_ | refine AWq.region ?_ | refine AWq.cond ?_ | refine AWq.block ?_ | refine AWq.skip ?_ | refine AWq.ret ?_ | refine AWq.exit ?_ | refine AWq.loop ?_ | refine DrawA.consD ?_ | refine DrawA.nil ?_ | refine AWq.draw (by decide +kernel) ?_ | (refine Both.mk ?_ ?_ <;> intro hc <;> (first | exact Bool.noConfusion hc | (exfalso; omega) | skip)) | (intro c hc; (try (simp only [AH.none_iff] at hc; repeat (have hn := hc.1; replace hc := hc.2))); (first | (refine i64_k hc ?_ ?_ ?_ ; omega; omega; (clear hc; intro hc; subst hc)) | skip)) | (apply Exists.intro; apply And.intro; (first | (focus (repeat (first | (with_reducible assumption) | (with_reducible exact AH.set_same _ _ _) | ((first | refine AH.get_ne ?_ ?_); (first | (with_reducible assumption) | exact Ne.symm (by with_reducible assumption))))); done))) | (apply Exists.intro; apply And.intro; first | (with_reducible assumption) | ((try simp only [List.getElem?_drop, Nat.mul_one, Nat.add_zero, Nat.zero_add]); first | (with_reducible assumption) | rfl)) | (apply And.intro; (first | rfl | (with_reducible assumption) | exact Nat.le_of_ble_eq_true rfl | omega | (simp <;> omega))))) <;> (try (conv => whnf)); refine Then.mk ?_))
  refine AWq.in ?_
  refine AWp_nilrow1 6 4 rfl rfl fun r1 hr1 => ?_
  refine AWp_nilrow1 7 3 rfl rfl fun r2 hr2 => ?_
  obtain ⟨hne, hr2⟩ := AH.none_set hr2
  refine AWp.of tt_ok (dok _) rfl ?_
  (repeat' ((conv => whnf); first | refine Then.mk ?_ | left | refine OpsA.cons ?_ | refine OpsA.nil ?_ | refine AWq.seq ?_ | refine AWq.region ?_ | refine AWq.cond ?_ | refine AWq.block ?_ | refine AWq.skip ?_ | refine AWq.ret ?_ | refine AWq.exit ?_ | refine AWq.loop ?_ | refine DrawA.consD ?_ | refine DrawA.nil ?_ | refine AWq.draw (by decide +kernel) ?_ | (refine Both.mk ?_ ?_ <;> intro hc <;> (first | exact Bool.noConfusion hc | (exfalso; omega) | skip)) | (intro c hc; (try (simp only [AH.none_iff] at hc; repeat (have hn := hc.1; replace hc := hc.2))); (first | (refine i64_k hc ?_ ?_ ?_ ; omega; omega; (clear hc; intro hc; subst hc)) | skip)) | (apply Exists.intro; apply And.intro; (first | (focus (repeat (first | (with_reducible assumption) | (with_reducible exact AH.set_same _ _ _) | ((first | refine AH.get_ne ?_ ?_); (first | (with_reducible assumption) | exact Ne.symm (by with_reducible assumption))))); done))) | (apply Exists.intro; apply And.intro; first | (with_reducible assumption) | ((try simp only [List.getElem?_drop, Nat.mul_one, Nat.add_zero, Nat.zero_add]); first | (with_reducible assumption) | rfl)) | (apply And.intro; (first | rfl | (with_reducible assumption) | exact Nat.le_of_ble_eq_true rfl | omega | (simp <;> omega))))) <;> (try (conv => whnf))
  refine AWp_loop (σ := Nat) (6 :: 8 :: 10 :: 11 :: 12 :: 13 :: 14 :: 15 :: 16 :: 17 :: 18 :: 19 :: 20 :: 21 :: 22 :: 23 :: 24 :: 25 :: 26 :: 27 :: 28 :: 29 :: 30 :: 31 :: 32 :: 33 :: 34 :: 35 :: 36 :: 37 :: 38 :: 39 :: []) (fun i => [(8, .int .i64 i), (6, .sl r1 i 4 0 i none)]) (fun i => (H.set r1 (.row (edL (es.take i)) i)).set r2 (.row [] 0)) (fun i => i ≤ es.length) (fun i => es.length - i) 0 rfl (Nat.zero_le _) ⟨rfl, rfl, trivial⟩ (HLe.refl _) ?_
  intro i hi
  refine AWp.of tt_ok (dok _) rfl ?_
  dsimp only at hi ⊢
  have hfi : (edL (es.take i)).length = i * 4 := by rw [edL_len, List.length_take, Nat.min_eq_left hi]
  have hg1 : ((H.set r1 (.row (edL (es.take i)) i)).set r2 (.row [] 0)) r1 = some (.row (edL (es.take i)) i) := by (focus (repeat (first | (with_reducible assumption) | (with_reducible exact AH.set_same _ _ _) | ((first | refine AH.get_ne ?_ ?_); (first | (with_reducible assumption) | exact Ne.symm (by with_reducible assumption))))); done)
  by_cases hilt : i < es.length
  · obtain ⟨x, hx⟩ : ∃ x, es[i]? = some x := ⟨_, List.getElem?_eq_getElem hilt⟩
    have g0 : (edL es)[(i : Int).toNat * 4]? = some (.int .i64 x.a) := edL_get hx 0 (by decide)
    have g1 : (edL es)[(i : Int).toNat * 4 + 1]? = some (.int .i64 x.b) := edL_get hx 1 (by decide)
    have g2 : (edL es)[(i : Int).toNat * 4 + 2]? = some (.int .i64 x.d) := edL_get hx 2 (by decide)
    have g3 : (edL es)[(i : Int).toNat * 4 + 3]? = some (.int .i64 x.w) := edL_get hx 3 (by decide)
    have hst : edL (es.take (i + 1)) = edL (es.take i) ++ [.int .i64 x.a, .int .i64 x.b, .int .i64 x.d, .int .i64 x.w] := by rw [take_snoc hx]; exact (fL_snoc edA _ _).symm
    generalize edL (es.take i) = R1 at *
    generalize hR2 : edL (es.take (i + 1)) = R2 at *
    (repeat' ((conv => whnf); first | refine Then.mk ?_ | left | refine OpsA.cons ?_ | refine OpsA.nil ?_ | refine AWq.seq ?_ | refine AWq.region ?_ | refine AWq.cond ?_ | refine AWq.block ?_ | refine AWq.skip ?_ | refine AWq.ret ?_ | refine AWq.exit ?_ | refine AWq.loop ?_ | refine DrawA.consD ?_ | refine DrawA.nil ?_ | refine AWq.draw (by decide +kernel) ?_ | (refine Both.mk ?_ ?_ <;> intro hc <;> (first | exact Bool.noConfusion hc | (exfalso; omega) | skip)) | (intro c hc; (try (simp only [AH.none_iff] at hc; repeat (have hn := hc.1; replace hc := hc.2))); (first | (refine i64_k hc ?_ ?_ ?_ ; omega; omega; (clear hc; intro hc; subst hc)) | skip)) | (apply Exists.intro; apply And.intro; (first | (focus (repeat (first | (with_reducible assumption) | (with_reducible exact AH.set_same _ _ _) | ((first | refine AH.get_ne ?_ ?_); (first | (with_reducible assumption) | exact Ne.symm (by with_reducible assumption))))); done))) | (apply Exists.intro; apply And.intro; first | (with_reducible assumption) | ((try simp only [List.getElem?_drop, Nat.mul_one, Nat.add_zero, Nat.zero_add]); first | (with_reducible assumption) | rfl)) | (apply And.intro; (first | rfl | (with_reducible assumption) | exact Nat.le_of_ble_eq_true rfl | omega | (simp <;> omega))))) <;> (try (conv => whnf))
    refine ⟨i + 1, hilt, by omega, ⟨congrArg (AV.int .i64) (by omega), rfl, trivial⟩, HLe.of_eq ?_⟩
    rw [hR2, hst]
    exact (AH.set_back _ (Ne.symm hne) _ _ _).symm
  · have hie : i = es.length := by omega
    have hte : es.take i = es := List.take_of_length_le (by omega)
    rw [hte]
    clear hfi hg1 hte
    (repeat' ((conv => whnf); first | refine Then.mk ?_ | left | refine OpsA.cons ?_ | refine OpsA.nil ?_ | refine AWq.seq ?_ | refine AWq.region ?_ | refine AWq.cond ?_ | refine AWq.block ?_ | refine AWq.skip ?_ | refine AWq.ret ?_ | refine AWq.exit ?_ | refine AWq.loop ?_ | refine DrawA.consD ?_ | refine DrawA.nil ?_ | refine AWq.draw (by decide +kernel) ?_ | (refine Both.mk ?_ ?_ <;> intro hc <;> (first | exact Bool.noConfusion hc | (exfalso; omega) | skip)) | (intro c hc; (try (simp only [AH.none_iff] at hc; repeat (have hn := hc.1; replace hc := hc.2))); (first | (refine i64_k hc ?_ ?_ ?_ ; omega; omega; (clear hc; intro hc; subst hc)) | skip)) | (apply Exists.intro; apply And.intro; (first | (focus (repeat (first | (with_reducible assumption) | (with_reducible exact AH.set_same _ _ _) | ((first | refine AH.get_ne ?_ ?_); (first | (with_reducible assumption) | exact Ne.symm (by with_reducible assumption))))); done))) | (apply Exists.intro; apply And.intro; first | (with_reducible assumption) | ((try simp only [List.getElem?_drop, Nat.mul_one, Nat.add_zero, Nat.zero_add]); first | (with_reducible assumption) | rfl)) | (apply And.intro; (first | rfl | (with_reducible assumption) | exact Nat.le_of_ble_eq_true rfl | omega | (simp <;> omega))))) <;> (try (conv => whnf))
    refine AWp_loop (σ := Nat) (7 :: 9 :: 40 :: 41 :: 42 :: 43 :: 44 :: 45 :: 46 :: 47 :: 48 :: 49 :: 50 :: 51 :: 52 :: 53 :: 54 :: 55 :: 56 :: 57 :: 58 :: 59 :: 60 :: 61 :: 62 :: 63 :: 64 :: []) (fun j => [(9, .int .i64 j), (7, .sl r2 j 3 0 j none)]) (fun j => (H.set r1 (.row (edL es) i)).set r2 (.row (fxL (fs.take j)) j)) (fun j => j ≤ fs.length) (fun j => fs.length - j) 0 rfl (Nat.zero_le _) ⟨rfl, rfl, trivial⟩ (HLe.refl _) ?_
    intro j hj
    refine AWp.of tt_ok (dok _) rfl ?_
    dsimp only at hj ⊢
    have hfj : (fxL (fs.take j)).length = j * 3 := by rw [fxL_len, List.length_take, Nat.min_eq_left hj]
    have hg2 : ((H.set r1 (.row (edL es) i)).set r2 (.row (fxL (fs.take j)) j)) r2 = some (.row (fxL (fs.take j)) j) := AH.set_same _ _ _
    by_cases hjlt : j < fs.length
    · obtain ⟨x, hx⟩ : ∃ x, fs[j]? = some x := ⟨_, List.getElem?_eq_getElem hjlt⟩
      have g0 : (fxL fs)[(j : Int).toNat * 3]? = some (.int .i64 x.a) := fxL_get hx 0 (by decide)
      have g1 : (fxL fs)[(j : Int).toNat * 3 + 1]? = some (.int .i64 x.v) := fxL_get hx 1 (by decide)
      have g2 : (fxL fs)[(j : Int).toNat * 3 + 2]? = some (.int .i64 x.w) := fxL_get hx 2 (by decide)
      have hst : fxL (fs.take (j + 1)) = fxL (fs.take j) ++ [.int .i64 x.a, .int .i64 x.v, .int .i64 x.w] := by rw [take_snoc hx]; exact (fL_snoc fxA _ _).symm
      generalize fxL (fs.take j) = R1 at *
      generalize hR2 : fxL (fs.take (j + 1)) = R2 at *
      (repeat' ((conv => whnf); first | refine Then.mk ?_ | left | refine OpsA.cons ?_ | refine OpsA.nil ?_ | refine AWq.seq ?_ | refine AWq.region ?_ | refine AWq.cond ?_ | refine AWq.block ?_ | refine AWq.skip ?_ | refine AWq.ret ?_ | refine AWq.exit ?_ | refine AWq.loop ?_ | refine DrawA.consD ?_ | refine DrawA.nil ?_ | refine AWq.draw (by decide +kernel) ?_ | (refine Both.mk ?_ ?_ <;> intro hc <;> (first | exact Bool.noConfusion hc | (exfalso; omega) | skip)) | (intro c hc; (try (simp only [AH.none_iff] at hc; repeat (have hn := hc.1; replace hc := hc.2))); (first | (refine i64_k hc ?_ ?_ ?_ ; omega; omega; (clear hc; intro hc; subst hc)) | skip)) | (apply Exists.intro; apply And.intro; (first | (focus (repeat (first | (with_reducible assumption) | (with_reducible exact AH.set_same _ _ _) | ((first | refine AH.get_ne ?_ ?_); (first | (with_reducible assumption) | exact Ne.symm (by with_reducible assumption))))); done))) | (apply Exists.intro; apply And.intro; first | (with_reducible assumption) | ((try simp only [List.getElem?_drop, Nat.mul_one, Nat.add_zero, Nat.zero_add]); first | (with_reducible assumption) | rfl)) | (apply And.intro; (first | rfl | (with_reducible assumption) | exact Nat.le_of_ble_eq_true rfl | omega | (simp <;> omega))))) <;> (try (conv => whnf))
      refine ⟨j + 1, hjlt, by omega, ⟨congrArg (AV.int .i64) (by omega), rfl, trivial⟩, HLe.of_eq ?_⟩
      rw [hR2, hst]
      exact (AH.set_set _ _ _ _).symm
    · have hje : j = fs.length := by omega
      (repeat' ((conv => whnf); first | refine Then.mk ?_ | left | refine OpsA.cons ?_ | refine OpsA.nil ?_ | refine AWq.seq ?_ | refine AWq.region ?_ | refine AWq.cond ?_ | refine AWq.block ?_ | refine AWq.skip ?_ | refine AWq.ret ?_ | refine AWq.exit ?_ | refine AWq.loop ?_ | refine DrawA.consD ?_ | refine DrawA.nil ?_ | refine AWq.draw (by decide +kernel) ?_ | (refine Both.mk ?_ ?_ <;> intro hc <;> (first | exact Bool.noConfusion hc | (exfalso; omega) | skip)) | (intro c hc; (try (simp only [AH.none_iff] at hc; repeat (have hn := hc.1; replace hc := hc.2))); (first | (refine i64_k hc ?_ ?_ ?_ ; omega; omega; (clear hc; intro hc; subst hc)) | skip)) | (apply Exists.intro; apply And.intro; (first | (focus (repeat (first | (with_reducible assumption) | (with_reducible exact AH.set_same _ _ _) | ((first | refine AH.get_ne ?_ ?_); (first | (with_reducible assumption) | exact Ne.symm (by with_reducible assumption))))); done))) | (apply Exists.intro; apply And.intro; first | (with_reducible assumption) | ((try simp only [List.getElem?_drop, Nat.mul_one, Nat.add_zero, Nat.zero_add]); first | (with_reducible assumption) | rfl)) | (apply And.intro; (first | rfl | (with_reducible assumption) | exact Nat.le_of_ble_eq_true rfl | omega | (simp <;> omega))))) <;> (try (conv => whnf))
      refine ⟨r1, r2, i, j, hr1, hr2, Ne.symm hne, ?_, ?_⟩
      · rw [← hje, ← hie]
      · rw [show fs.take j = fs from List.take_of_length_le (by omega)]
theorem real_c (es : List Ed) (fs : List Fx) (he : es.length ≤ 1000000) (hf : fs.length ≤ 1000000) (H : AH) :
    ACall Try.prog 13 [.cs (edL es) es.length, .cs (fxL fs) fs.length] H (fun y H' => y = .tup [.cs (edL es) es.length, .cs (fxL fs) fs.length] ∧ H' = H) :=
  ACall.cold2 (e1 := 4) (e2 := 3) (by simp) (by simp) (real_s es fs he hf H)
set_option maxRecDepth 8000 in
theorem plain_c (l1 l2 l3 : List AV) (n1 n2 n3 : Nat) (c : Int) (H : AH) :
    ACall Try.prog 16 [.agg [.cs l1 n1, .cs l2 n2, .cs l3 n3, .int .i64 c]] H (fun y H' => y = .agg [.cs l1 n1, .cs l2 n2, .cs l3 n3, .int .i64 c] ∧ H' = H) := by
  refine ACall.back ?_
  refine ACall_of tt_ok (dok _) Try.func16 rfl (by decide) rfl ?_
  (repeat' ((conv => whnf); first | refine Then.mk ?_ | left | refine OpsA.cons ?_ | refine OpsA.nil ?_ | refine AWq.seq ?_ | refine AWq.region ?_ | refine AWq.ret ?_ | (intro c hc; (try (simp only [AH.none_iff] at hc; repeat (have hn := hc.1; replace hc := hc.2))); (first | skip)) | (apply Exists.intro; apply And.intro; (first | (focus (repeat (first | (with_reducible assumption) | (with_reducible exact AH.set_same _ _ _) | ((first | refine AH.get_ne ?_ ?_); (first | (with_reducible assumption) | exact Ne.symm (by with_reducible assumption))))); done))) | (apply Exists.intro; apply And.intro; first | (with_reducible assumption) | ((try simp only [List.getElem?_drop, Nat.mul_one, Nat.add_zero, Nat.zero_add]); first | (with_reducible assumption) | rfl)) | (apply And.intro; (first | rfl | (with_reducible assumption) | exact Nat.le_of_ble_eq_true rfl)))) <;> (try (conv => whnf))
  (first | ((repeat' (first | (with_reducible exact HLe.refl _) | (with_reducible assumption) | refine HLe.set_of _ _ ?_ ?_)); done))
end Go.Proofs.Ytebflkgpbbjhnaa
/- The law BalanceScales: the contract of the law's function. -/
namespace Go.Proofs.Ytebflkgpbbjhnaa
open Go.Fw Go
set_option linter.unusedVariables false
set_option linter.unusedSimpArgs false

/-- Solve's cost, the least one. -/
structure Least (es : List Ed) (fs : List Fx) (c : Int) : Prop where
  hit : ∃ q, costP es fs q = c
  low : ∀ q, c ≤ costP es fs q
theorem Least.one {es : List Ed} {fs : List Fx} {c d : Int} (h : Least es fs c) (k : Least es fs d) : c = d := by
  obtain ⟨p, hp⟩ := h.hit
  obtain ⟨q, hq⟩ := k.hit
  have := h.low q
  have := k.low p
  omega
theorem Least.bd {n : Nat} {es : List Ed} {fs : List Fx} {A : List Ac} {d o : Nat → Int} (h : Sv n es fs A d o) (hv : validV n es fs = 0) : 0 ≤ (Proofs.Ytebflkgpbbjhnaa.costR es fs (fnL n (offS n d o))).1 ∧ (Proofs.Ytebflkgpbbjhnaa.costR es fs (fnL n (offS n d o))).1 ≤ 2305913377907200000 := by
  obtain ⟨⟨_, hn⟩, ⟨he, hf⟩, hE, hF⟩ := validV_ok hv
  rw [h.costR hE hF hv]
  have hr := h.range (by omega)
  have h1 := sum_bd (l := es.map (costE (ofL (fnL n (offS n d o))))) (b := 140741783257088) (fun z hz => by
    obtain ⟨y, hy, rfl⟩ := List.mem_map.1 hz
    exact costE_bd hr (by rw [fnL_len]; exact hE y hy))
  have h2 := sum_bd (l := fs.map (costF (ofL (fnL n (offS n d o))))) (b := 140741783257088) (fun z hz => by
    obtain ⟨y, hy, rfl⟩ := List.mem_map.1 hz
    exact costF_bd hr (by rw [fnL_len]; exact hF y hy))
  rw [List.length_map] at h1 h2
  show 0 ≤ costP es fs _ ∧ costP es fs _ ≤ _
  unfold costP
  omega
theorem pr_valid {n most : Nat} (hn : n ≤ 10) (hm : most ≤ 65535) (l : List Int) : (∀ x ∈ prES n most l, (vE n x ∧ (-(most : Int) ≤ x.d ∧ x.d ≤ most) ∧ x.w ≤ 9)) ∧ (∀ x ∈ prFS n most l, (vF n x ∧ (-(most : Int) ≤ x.v ∧ x.v ≤ most) ∧ x.w ≤ 9)) ∧ (prES n most l).length ≤ 12 ∧ (prFS n most l).length ≤ 5 := by
  have p0 := pickV_lt (l := l) (i := 0) (m := 12) (by decide)
  have p1 := pickV_lt (l := l) (i := 1) (m := 5) (by decide)
  refine ⟨fun x hx => ?_, fun x hx => ?_, ?_, ?_⟩
  · obtain ⟨i, hi, rfl⟩ := List.mem_map.1 hx
    have hi : i < prN n l := by simpa using hi
    have h1n : 1 < n := by unfold prN at hi; split at hi <;> omega
    have lA := pickV_lt (l := l) (i := 4 * (i : Int) + 1) (m := n) (by omega)
    have lB := pickV_lt (l := l) (i := 4 * (i : Int) + 2) (m := n - 1) (by omega)
    have lD := pickV_lt (l := l) (i := 4 * (i : Int) + 3) (m := 2 * most + 1) (by omega)
    have lW := pickV_lt (l := l) (i := 4 * (i : Int) + 4) (m := 9) (by omega)
    unfold prE vE
    dsimp only
    generalize pickV l (4 * (i : Int) + 1) n = a at *
    generalize pickV l (4 * (i : Int) + 2) (n - 1) = b at *
    have hab : a ≠ (a + 1 + b) % n := by
      by_cases h : a + 1 + b < n
      · rw [Nat.mod_eq_of_lt h]; omega
      · rw [Nat.mod_eq_sub_mod (by omega), Nat.mod_eq_of_lt (by omega)]; omega
    have hlt := Nat.mod_lt (a + 1 + b) (show n > 0 by omega)
    generalize (a + 1 + b) % n = m at *
    refine ⟨⟨by omega, by omega, by omega, by omega, by omega⟩, by omega, by omega⟩
  · obtain ⟨i, hi, rfl⟩ := List.mem_map.1 hx
    have hi : i < prM n l := by simpa using hi
    have h1n : 0 < n := by unfold prM at hi; split at hi <;> omega
    have lA := pickV_lt (l := l) (i := 3 * (i : Int) + 2) (m := n) (by omega)
    have lD := pickV_lt (l := l) (i := 3 * (i : Int) + 5) (m := 2 * most + 1) (by omega)
    have lW := pickV_lt (l := l) (i := 3 * (i : Int) + 4) (m := 7) (by omega)
    unfold prF vF
    dsimp only
    refine ⟨⟨by omega, by omega, by omega⟩, by omega, by omega⟩
  · unfold prES; rw [fnL_len]; unfold prN; split <;> omega
  · unfold prFS; rw [fnL_len]; unfold prM; split <;> omega
theorem valid0 {n : Nat} {es : List Ed} {fs : List Fx} (hn : n ≤ 64) (he : es.length ≤ 8192) (hf : fs.length ≤ 8192) (hE : ∀ x ∈ es, vE n x) (hF : ∀ x ∈ fs, vF n x) : validV n es fs = 0 := by
  unfold validV
  rw [if_neg (by omega), if_neg (by omega), if_pos ⟨hE, hF⟩]
end Go.Proofs.Ytebflkgpbbjhnaa
/- Answers that may be written. -/
namespace Go.Proofs.Ytebflkgpbbjhnaa
open Go.Fw Go
set_option linter.unusedVariables false
set_option linter.unusedSimpArgs false

theorem wrap_I64 (x : Int) : I64 (IntKind.i64.wrap x) := by rw [IntKind.wrap_i64]; unfold I64; omega
theorem upV_ok {q : Nat} {by' : Int} {L : List Int} (h : ∀ x ∈ L, I64 x) : ∀ x ∈ upV q by' L, I64 x := by
  intro x hx
  unfold upV at hx
  split at hx
  · rcases List.mem_or_eq_of_mem_set hx with h1 | h1
    · exact h x h1
    · rw [h1]; exact wrap_I64 _
  · exact h x hx
theorem bentV_ok {at' by' : Int} {s : Sol} (hb : I64 by') (h1 : s.o.length ≤ 100) (h2 : s.e.length ≤ 100) (h3 : s.f.length ≤ 100) (h : SOk s) : SOk (bentV at' by' s) := by
  obtain ⟨⟨_, o2⟩, ⟨_, e2⟩, ⟨_, f2⟩, hc⟩ := h
  obtain ⟨l1, l2, l3⟩ := bentV_len at' by' s
  have app : ∀ (L : List Int) (z : Int), (∀ x ∈ L, I64 x) → I64 z → ∀ x ∈ L ++ [z], I64 x := fun L z hL hz x hx => by
    rcases List.mem_append.1 hx with h | h
    · exact hL x h
    · rw [List.mem_singleton.1 h]; exact hz
  have h0 : I64 0 := by unfold I64; omega
  refine ⟨⟨by omega, ?_⟩, ⟨by omega, ?_⟩, ⟨by omega, ?_⟩, ?_⟩ <;> unfold bentV <;> (repeat' split) <;> first | exact o2 | exact e2 | exact f2 | exact hc | exact wrap_I64 _ | exact upV_ok o2 | exact upV_ok e2 | exact upV_ok f2 | exact app _ _ o2 hb | exact app _ _ e2 h0 | exact app _ _ f2 hb
theorem Sv.sok {n : Nat} {es : List Ed} {fs : List Fx} {A : List Ac} {d o : Nat → Int} (h : Sv n es fs A d o) (hv : validV n es fs = 0) (he : es.length ≤ 100) (hf : fs.length ≤ 100) : SOk ⟨fnL n (offS n d o), flE es A, flF es A, (Proofs.Ytebflkgpbbjhnaa.costR es fs (fnL n (offS n d o))).1⟩ := by
  obtain ⟨⟨_, hn⟩, _, hE, hF⟩ := validV_ok hv
  obtain ⟨_, _, _, f4, f5⟩ := h.flows hE hF
  have hb := Least.bd h hv
  have hfl : ∀ x ∈ A, I64 x.f := fun x hx => by
    obtain ⟨_, _, _, _, w1, w2, g1, g2⟩ := h.ok x hx
    unfold I64; omega
  refine ⟨⟨by dsimp only; rw [fnL_len]; omega, fun x hx => ?_⟩, ⟨by dsimp only; omega, fun x hx => ?_⟩, ⟨by dsimp only; omega, fun x hx => ?_⟩, by unfold I64; dsimp only; omega⟩
  · have := h.range (by omega) x hx
    unfold I64; omega
  · obtain ⟨y, hy, rfl⟩ := List.mem_map.1 hx
    exact hfl y (List.mem_of_mem_take hy)
  · obtain ⟨y, hy, rfl⟩ := List.mem_map.1 hx
    exact hfl y (List.mem_of_mem_drop hy)
end Go.Proofs.Ytebflkgpbbjhnaa
/- The walks of the reference: Loose. -/
namespace Go.Proofs.Ytebflkgpbbjhnaa
open Go.Fw Go
set_option linter.unusedVariables false
set_option linter.unusedSimpArgs false

/-- Truths of a function. -/
def qL (n : Nat) (b : Nat → Bool) : List AV := fnL n fun v => AV.bool (b v)
@[simp] theorem qL_len (n : Nat) (b : Nat → Bool) : (qL n b).length = n := by simp [qL]
end Go.Proofs.Ytebflkgpbbjhnaa
/- A row within a value, frozen. -/
set_option linter.unusedVariables false
namespace Go.Fw
open Go.RowKit

/-- A row in a value, told as a constant. -/
def Fr (r v : Nat) (cells : List AV) (a a' : AV) : Prop := ∀ (κ : KM) (F F' : FM) (x : Value), FLe F F' → (∀ (es m : Nat) (lim : Option Nat) (y : Value), cells.length = m * es → VR κ F (.sl r v es 0 m lim) y → VR κ F' (.cs cells m) y) → VR κ F a x → VR κ F' a' x
theorem Fr.refl {r v : Nat} {cells : List AV} (a : AV) : Fr r v cells a a := fun κ F F' x hF _ hx => hx.mono (KLe.refl _) hF
theorem Fr.sl {r v es m : Nat} {lim : Option Nat} {cells : List AV} (h : cells.length = m * es) : Fr r v cells (.sl r v es 0 m lim) (.cs cells m) := fun κ F F' x _ hs hx => hs _ _ _ _ h hx
theorem Fr.cs {r v n : Nat} {cells l m : List AV} (hl : m.length = l.length) (h : ∀ i (hi : i < l.length) (hj : i < m.length), Fr r v cells l[i] m[i]) : Fr r v cells (.cs l n) (.cs m n) := fun κ F F' x hF hs hx => by
  cases hx with
  | cs0 a c =>
    have : m = [] := by apply List.eq_nil_of_length_eq_zero; rw [hl]; rfl
    rw [this]; exact .cs0 _ _
  | cs hFb hle hc hi => exact .cs (hF _ _ hFb) (by rw [hl]; exact hle) hc fun i hj => h i (by rw [← hl]; exact hj) hj κ F F' _ hF hs (hi i (by rw [← hl]; exact hj))
theorem AWp_freezeIn {P : Program} {N : Nat} {ro : Option Nat} {ws : Nat → Bool} {c : Code} {K R : St → AH → Prop} {X : Nat → St → AH → Prop} {s : St} {H : AH} (t : Nat) {r v : Nat} {cells : List AV} {a a' : AV} (hts : ws t = true)
    (he : s.e t = a) (hH : H r = some (.row cells v)) (hfr : Fr r v cells a a')
    (h : AWp N P ro ws c K R X ⟨retold [t] a' s.e, s.d⟩ (H.del r)) : AWp N P ro ws c K R X s H := by
  refine ⟨fun κ F B w0 w a I hE => ?_⟩
  obtain ⟨F', hF, I', hall⟩ := I.coolAll hH
  have hag : Agree ws s ⟨retold [t] a' s.e, s.d⟩ := by
    intro u hu
    simp only [retold]
    cases hm : memA [t] u with
    | false => rfl
    | true =>
      have : u = t := by have := (memA_iff _ _).1 hm; simpa using this
      rw [this, hts] at hu; cases hu
  have hE' : ER κ F' N ⟨retold [t] a' s.e, s.d⟩ a := by
    refine ⟨fun u => ?_, hE.size, hE.d⟩
    simp only [retold]
    cases hm : memA [t] u with
    | false => exact (hE.e u).mono (KLe.refl _) hF
    | true =>
      have hut : u = t := by have := (memA_iff _ _).1 hm; simpa using this
      have hx := hE.e u
      rw [hut, he] at hx
      rw [hut]
      exact hfr κ F F' _ hF (fun es m lim y hl hy => hall _ _ _ _ _ hl hy) hx
  exact wpIn_mono (h.out κ F' B w0 w a I' hE') (fun e a w hq => QOk.from (KLe.refl _) hF hag hq)

end Go.Fw
/- The law BalanceBytes: the contract of the law's function. -/
namespace Go.Proofs.Ytebflkgpbbjhnaa
open Go.Fw Go
set_option linter.unusedVariables false
set_option linter.unusedSimpArgs false

theorem encS_le {s : Sol} (h : SOk s) (h1 : s.o.length ≤ 200) (h2 : s.e.length ≤ 200) (h3 : s.f.length ≤ 200) : (encS s).length ≤ 7000 := by
  have b1 := encL_le h.o.1 h.o.2
  have b2 := encL_le h.e.1 h.e.2
  have b3 := encL_le h.f.1 h.f.2
  have b4 := encI_le h.c
  unfold encS; simp only [List.length_append]; omega
theorem encS_le100 {s : Sol} (h : SOk s) (h1 : s.o.length ≤ 100) (h2 : s.e.length ≤ 100) (h3 : s.f.length ≤ 100) : (encS s).length ≤ 3500 := by
  have b1 := encL_le h.o.1 h.o.2
  have b2 := encL_le h.e.1 h.e.2
  have b3 := encL_le h.f.1 h.f.2
  have b4 := encI_le h.c
  unfold encS; simp only [List.length_append]; omega
theorem texts_c (b : List UInt8) (hb : b.length ≤ 5000) :
    (∃ s : Sol, (∀ H, ACall Try.prog 28 [.cs (u8s b) b.length] H (fun y H' => y = .tup [.agg s.av, .int .i64 0] ∧ H' = H)) ∧
      (∀ H, ACall Try.prog 30 [.agg s.av] H (fun y H' => y = .cs (u8s b) b.length ∧ H' = H))) ∨
    (∀ H, ACall Try.prog 28 [.cs (u8s b) b.length] H (fun y H' => y = .tup [.agg [.nils, .nils, .nils, .int .i64 0], .int .i64 2] ∧ H' = H)) := by
  have hd := dSol_ok hb
  have hc := fun H => decode_c b (by omega) hd H
  have re := fun H => rencode_c (dSol b) hd H
  by_cases h : endE (ds4 b) = 0 ∧ encS (dSol b) = b
  · refine Or.inl ⟨dSol b, fun H => ?_, fun H => ?_⟩
    · have := hc H
      rw [if_pos h] at this
      exact this
    · have := re H
      rw [h.2] at this
      exact this
  · refine Or.inr fun H => ?_
    have := hc H
    rw [if_neg h] at this
    exact this
theorem decode_enc {s : Sol} (h : SOk s) (h1 : s.o.length ≤ 200) (h2 : s.e.length ≤ 200) (h3 : s.f.length ≤ 200) (H : AH) :
    ACall Try.prog 28 [.cs (u8s (encS s)) (encS s).length] H (fun y H' => y = .tup [.agg [.cs (iS .i64 s.o) s.o.length, .cs (iS .i64 s.e) s.e.length, .cs (iS .i64 s.f) s.f.length, .int .i64 s.c], .int .i64 0] ∧ H' = H) := by
  obtain ⟨d1, d2⟩ := dSol_enc h
  have hl := encS_le h h1 h2 h3
  have := decode_c (encS s) (by omega) (by rw [d1]; exact h) H
  rw [d1, if_pos ⟨d2, rfl⟩] at this
  exact this
theorem ints_enc {s : Sol} (h : SOk s) (h1 : s.o.length ≤ 200) (h2 : s.e.length ≤ 200) (h3 : s.f.length ≤ 200) (p : Nat) (H : AH) :
    ACall Try.prog 32 [.ptr p 0 0] (RdH H p 0 (encS s)) (fun y H' => y = .cs (iS .i64 s.o) s.o.length ∧ H' = RdH H p 0 (encL s.e ++ encL s.f ++ encI s.c)) := by
  have hl := encS_le h h1 h2 h3
  refine rInts_ok p (by omega) ?_ H
  unfold encS
  rw [List.append_assoc, List.append_assoc, ← List.append_assoc (encL s.e)]
  exact rdInts_enc h.o.2 (by have := h.o.1; omega) _
set_option maxHeartbeats 8000000 in
set_option maxRecDepth 8000 in
theorem BalanceBytes_c (x0 : Int) (hx0 : -9223372036854775808 ≤ x0 ∧ x0 ≤ 9223372036854775807) (l1 : List Int) (hl1 : l1.length ≤ maxLen) (hr1 : ∀ n ∈ l1, -9223372036854775808 ≤ n ∧ n ≤ 9223372036854775807) (x2 : Int) (hx2 : -9223372036854775808 ≤ x2 ∧ x2 ≤ 9223372036854775807) (x3 : Int) (hx3 : -9223372036854775808 ≤ x3 ∧ x3 ≤ 9223372036854775807) (b4 : List UInt8) (hb4 : b4.length ≤ maxLen) (x5 : Int) (hx5 : 0 ≤ x5 ∧ x5 ≤ 255) :
    ACall Try.prog 9 [.int .i64 x0, .cs (iS .i64 l1) l1.length, .int .i64 x2, .int .i64 x3, .cs (u8s b4) b4.length, .int .u8 x5] (fun _ => none) (fun y _ => y = .bool true) := by
  have ha1 : ∀ H, ACall Try.prog 11 [.int .i64 x0, .int .i64 6] H (fun y H' => y = .int .i64 (aro x0 6) ∧ H' = H) := fun H => around_f x0 hx0.1 hx0.2 6 (by decide) (by decide) H
  have hn := aro_lt (n := x0) (m := 6) (by decide)
  generalize aro x0 6 = n at *
  have hpr : ∀ H, ACall Try.prog 12 [.int .i64 n, .cs (iS .i64 l1) l1.length, .int .i64 65535] H (fun y H' => y = .tup [.cs (edL (prES n 65535 l1)) (prES n 65535 l1).length, .cs (fxL (prFS n 65535 l1)) (prFS n 65535 l1).length] ∧ H' = H) := fun H => problem_c n 65535 (by omega) (by decide) l1 hr1 hl1 H
  obtain ⟨v1, v2, v3, v4⟩ := pr_valid (n := n) (most := 65535) (by omega) (by decide) l1
  generalize prES n 65535 l1 = es at *
  generalize prFS n 65535 l1 = fs at *
  have hvz : validV n es fs = 0 := valid0 (by omega) (by omega) (by omega) (fun x hx => (v1 x hx).1) (fun x hx => (v2 x hx).1)
  have r1 := fun H => real_c es fs (by omega) (by omega) H
  have s1 := fun H => solve_c n es fs hvz H
  generalize (fun _ => none : AH) = H0
  refine ACall_of tt_ok (dok _) Try.func9 rfl (by decide) rfl ?_
  (repeat' ((conv => whnf); first | refine Then.mk ?_ | left | refine OpsA.cons ?_ | refine OpsA.nil ?_ | refine AWq.seq ?_ | refine AWq.region ?_ | refine AWq.cond ?_ | refine AWq.block ?_ | refine AWq.skip ?_ | refine AWq.ret ?_ | refine AWq.exit ?_ | refine AWq.loop ?_ | refine DrawA.consD ?_ | refine DrawA.nil ?_ | refine AWq.draw (by decide +kernel) ?_ | (refine Both.mk ?_ ?_ <;> intro hc <;> (first | exact Bool.noConfusion hc | exact absurd (by with_reducible rfl) hc | exact (hc : False).elim | exact absurd (by assumption) hc | exact absurd hc (by assumption) | (exfalso; omega) | skip)) | (intro c hc; (try (simp only [AH.none_iff] at hc; repeat (have hn := hc.1; replace hc := hc.2))); (first | (refine i64_k hc ?_ ?_ ?_ ; omega; omega; (clear hc; intro hc; subst hc)) | skip)) | (apply Exists.intro; apply And.intro; (first | (focus (repeat (first | (with_reducible assumption) | (with_reducible exact AH.set_same _ _ _))); done))) | (apply Exists.intro; apply And.intro; first | (with_reducible assumption) | ((try simp only [List.getElem?_drop, Nat.mul_one, Nat.add_zero, Nat.zero_add]); first | (with_reducible assumption) | rfl)) | (apply Exists.intro; apply And.intro; (focus (intro G; ((conv => whnf); (try left); (conv => whnf); first | (intro c hc; subst hc; exact And.intro rfl rfl))))) | (apply And.intro; (first | rfl | (with_reducible assumption) | exact Nat.le_of_ble_eq_true rfl | omega | (simp <;> fail) | (simp <;> omega) | (focus (repeat' (first | (with_reducible assumption) | exact one_u8s _ | rfl | apply one_take | apply one_drop)); done))) | (refine ACall.to (ha1 _) ?_) | (refine ACall.to (hpr _) ?_) | (refine ACall.to (r1 _) ?_))) <;> (try (conv => whnf))
  refine ACall.mono (s1 _) ?_
  rintro y H2 ⟨A, dd, oo, hSv, rfl, rfl⟩
  obtain ⟨⟨_, hn64⟩, _, hE, hF⟩ := validV_ok hvz
  obtain ⟨_, _, _, f4, f5⟩ := hSv.flows hE hF
  have oka := hSv.sok hvz (by omega) (by omega)
  obtain ⟨sa, hsa⟩ : ∃ sa : Sol, sa = ⟨fnL n (offS n dd oo), flE es A, flF es A, (costR es fs (fnL n (offS n dd oo))).1⟩ := ⟨_, rfl⟩
  rw [← hsa] at oka
  have hsv : solV n es fs A dd oo = .tup [.agg [.cs (iS .i64 sa.o) sa.o.length, .cs (iS .i64 sa.e) sa.e.length, .cs (iS .i64 sa.f) sa.f.length, .int .i64 sa.c], .int .i64 0] := by
    unfold solV; rw [hsa]; dsimp only; rw [fnL_len, f4, f5]
  have z1 : sa.o.length ≤ 100 := by rw [hsa]; dsimp only; rw [fnL_len]; omega
  have z2 : sa.e.length ≤ 100 := by rw [hsa]; dsimp only; omega
  have z3 : sa.f.length ≤ 100 := by rw [hsa]; dsimp only; omega
  rw [hsv]
  clear hsv hSv hsa s1 f4 f5
  have hb1 := fun H => bent_c sa (by omega) (by omega) (by omega) x2 x3 hx2 hx3 H
  have k1 := bentV_len x2 x3 sa
  have okb := bentV_ok (at' := x2) (by' := x3) hx3 z1 z2 z3 oka
  generalize bentV x2 x3 sa = sb at *
  (repeat' ((conv => whnf); first | left | refine OpsA.cons ?_ | refine OpsA.nil ?_ | refine AWq.seq ?_ | refine AWq.region ?_ | refine AWq.cond ?_ | refine AWq.block ?_ | refine AWq.skip ?_ | refine AWq.ret ?_ | refine AWq.exit ?_ | refine AWq.loop ?_ | refine DrawA.consD ?_ | refine DrawA.nil ?_ | refine AWq.draw (by decide +kernel) ?_ | (refine Both.mk ?_ ?_ <;> intro hc <;> (first | exact Bool.noConfusion hc | exact absurd (by with_reducible rfl) hc | exact (hc : False).elim | exact absurd (by assumption) hc | exact absurd hc (by assumption) | (exfalso; omega) | skip)) | (intro c hc; (try (simp only [AH.none_iff] at hc; repeat (have hn := hc.1; replace hc := hc.2))); (first | (refine i64_k hc ?_ ?_ ?_ ; omega; omega; (clear hc; intro hc; subst hc)) | skip)) | (apply Exists.intro; apply And.intro; (first | (focus (repeat (first | (with_reducible assumption) | (with_reducible exact AH.set_same _ _ _))); done))) | (apply Exists.intro; apply And.intro; first | (with_reducible assumption) | ((try simp only [List.getElem?_drop, Nat.mul_one, Nat.add_zero, Nat.zero_add]); first | (with_reducible assumption) | rfl)) | (apply Exists.intro; apply And.intro; (focus (intro G; ((conv => whnf); (try left); (conv => whnf); first | (intro c hc; subst hc; exact And.intro rfl rfl))))) | (apply And.intro; (first | rfl | (with_reducible assumption) | exact Nat.le_of_ble_eq_true rfl | omega | (simp <;> fail) | (simp <;> omega) | (focus (repeat' (first | (with_reducible assumption) | exact one_u8s _ | rfl | apply one_take | apply one_drop)); done))))) <;> (try (conv => whnf))
  refine Then.mk (AWq.in ?_)
  refine AWp_segP 16 [.cs (iS .i64 sa.o) sa.o.length, .cs (iS .i64 sa.e) sa.e.length, .cs (iS .i64 sa.f) sa.f.length, .int .i64 sa.c] rfl rfl (by assumption) rfl rfl ?_
  refine AWp.of tt_ok (dok _) rfl ?_
  (repeat' ((conv => whnf); first | refine Then.mk ?_ | left | refine OpsA.cons ?_ | refine OpsA.nil ?_ | refine AWq.seq ?_ | refine AWq.region ?_ | refine AWq.cond ?_ | refine AWq.block ?_ | refine AWq.skip ?_ | refine AWq.ret ?_ | refine AWq.exit ?_ | refine AWq.loop ?_ | refine DrawA.consD ?_ | refine DrawA.nil ?_ | refine AWq.draw (by decide +kernel) ?_ | (apply Exists.intro; apply And.intro; exact plain_c _ _ _ _ _ _ _ _) | (apply Exists.intro; apply And.intro; exact hb1 _) | (refine Both.mk ?_ ?_ <;> intro hc <;> (first | exact Bool.noConfusion hc | exact absurd (by with_reducible rfl) hc | exact (hc : False).elim | exact absurd (by assumption) hc | exact absurd hc (by assumption) | (exfalso; omega) | skip)) | (intro c hc; (try (simp only [AH.none_iff] at hc; repeat (have hn := hc.1; replace hc := hc.2))); (first | (refine i64_k hc ?_ ?_ ?_ ; omega; omega; (clear hc; intro hc; subst hc)) | skip)) | (apply Exists.intro; apply And.intro; (first | (focus (repeat (first | (with_reducible assumption) | (with_reducible exact AH.set_same _ _ _))); done))) | (apply Exists.intro; apply And.intro; first | (with_reducible assumption) | ((try simp only [List.getElem?_drop, Nat.mul_one, Nat.add_zero, Nat.zero_add]); first | (with_reducible assumption) | rfl)) | (apply Exists.intro; apply And.intro; (focus (intro G; ((conv => whnf); (try left); (conv => whnf); first | (intro c hc; subst hc; exact And.intro rfl rfl))))) | (apply And.intro; (first | rfl | (with_reducible assumption) | exact Nat.le_of_ble_eq_true rfl | omega | (simp <;> fail) | (simp <;> omega) | (focus (repeat' (first | (with_reducible assumption) | exact one_u8s _ | rfl | apply one_take | apply one_drop)); done))) | (refine ACall.to (plain_c _ _ _ _ _ _ _ _) ?_))) <;> (try (conv => whnf))
  refine AWp_loop (σ := Nat) (12 :: 19 :: 20 :: 21 :: 22 :: 23 :: 24 :: 61 :: 62 :: 63 :: 64 :: 65 :: 66 :: 67 :: 68 :: 69 :: 70 :: 71 :: 72 :: 73 :: 74 :: 75 :: 76 :: 77 :: 78 :: 79 :: 80 :: 81 :: 82 :: 83 :: 84 :: 85 :: 86 :: 87 :: 88 :: 89 :: 90 :: 91 :: 92 :: 93 :: 94 :: 95 :: 96 :: 97 :: 98 :: 99 :: 100 :: 101 :: 102 :: 103 :: 104 :: 105 :: 106 :: 107 :: 108 :: 109 :: 110 :: 111 :: 112 :: 113 :: 114 :: 115 :: 116 :: []) (fun k => [(19, .int .i64 k)]) (fun k => H2) (fun k => k ≤ 2) (fun k => 2 - k) 0 rfl (Nat.zero_le _) ⟨rfl, trivial⟩ (HLe.refl _) ?_
  intro k hk
  refine AWp.of tt_ok (dok _) rfl ?_
  dsimp only at hk ⊢
  rcases (show k = 0 ∨ k = 1 ∨ k = 2 by omega) with rfl | rfl | rfl
  · have en := fun H => encode_c sa oka H
    have de := fun H => decode_enc oka (by omega) (by omega) (by omega) H
    have re := fun H => rencode_c sa oka H
    have hl := encS_le oka (by omega) (by omega) (by omega)
    (iterate 2 ((repeat' ((conv => whnf); first | left | refine OpsA.cons ?_ | refine OpsA.nil ?_ | refine AWq.seq ?_ | refine AWq.region ?_ | refine AWq.cond ?_ | refine AWq.block ?_ | refine AWq.skip ?_ | refine AWq.ret ?_ | refine AWq.exit ?_ | refine AWq.loop ?_ | refine DrawA.consD ?_ | refine DrawA.nil ?_ | refine AWq.draw (by decide +kernel) ?_ | (refine Both.mk ?_ ?_ <;> intro hc <;> (first | exact Bool.noConfusion hc | exact absurd (by with_reducible rfl) hc | exact (hc : False).elim | exact absurd (by assumption) hc | exact absurd hc (by assumption) | (exfalso; omega) | skip)) | (intro c hc; (try (simp only [AH.none_iff] at hc; repeat (have hn := hc.1; replace hc := hc.2))); (first | (refine i64_k hc ?_ ?_ ?_ ; omega; omega; (clear hc; intro hc; subst hc)) | skip)) | (apply Exists.intro; apply And.intro; (first | (focus (repeat (first | (with_reducible assumption) | (with_reducible exact AH.set_same _ _ _))); done))) | (apply Exists.intro; apply And.intro; first | (with_reducible assumption) | ((try simp only [List.getElem?_drop, Nat.mul_one, Nat.add_zero, Nat.zero_add]); first | (with_reducible assumption) | rfl)) | (apply Exists.intro; apply And.intro; (focus (intro G; ((conv => whnf); (try left); (conv => whnf); first | (intro c hc; subst hc; exact And.intro rfl rfl))))) | (apply And.intro; (first | rfl | (with_reducible assumption) | exact Nat.le_of_ble_eq_true rfl | omega | (simp <;> fail) | (simp <;> omega) | (focus (repeat' (first | (with_reducible assumption) | exact one_u8s _ | rfl | apply one_take | apply one_drop)); done))))) <;> (try (conv => whnf)); refine Then.mk ?_))
    (repeat' ((conv => whnf); first | left | refine OpsA.cons ?_ | refine OpsA.nil ?_ | refine AWq.seq ?_ | refine AWq.region ?_ | refine AWq.cond ?_ | refine AWq.block ?_ | refine AWq.skip ?_ | refine AWq.ret ?_ | refine AWq.exit ?_ | refine AWq.loop ?_ | refine DrawA.consD ?_ | refine DrawA.nil ?_ | refine AWq.draw (by decide +kernel) ?_ | (refine Both.mk ?_ ?_ <;> intro hc <;> (first | exact Bool.noConfusion hc | exact absurd (by with_reducible rfl) hc | exact (hc : False).elim | exact absurd (by assumption) hc | exact absurd hc (by assumption) | (exfalso; omega) | skip)) | (intro c hc; (try (simp only [AH.none_iff] at hc; repeat (have hn := hc.1; replace hc := hc.2))); (first | (refine i64_k hc ?_ ?_ ?_ ; omega; omega; (clear hc; intro hc; subst hc)) | skip)) | (apply Exists.intro; apply And.intro; (first | (focus (repeat (first | (with_reducible assumption) | (with_reducible exact AH.set_same _ _ _))); done))) | (apply Exists.intro; apply And.intro; first | (with_reducible assumption) | ((try simp only [List.getElem?_drop, Nat.mul_one, Nat.add_zero, Nat.zero_add]); first | (with_reducible assumption) | rfl)) | (apply Exists.intro; apply And.intro; (focus (intro G; ((conv => whnf); (try left); (conv => whnf); first | (intro c hc; subst hc; exact And.intro rfl rfl))))) | (apply And.intro; (first | rfl | (with_reducible assumption) | exact Nat.le_of_ble_eq_true rfl | omega | (simp <;> fail) | (simp <;> omega) | (focus (repeat' (first | (with_reducible assumption) | exact one_u8s _ | rfl | apply one_take | apply one_drop)); done))))) <;> (try (conv => whnf))
    refine Then.mk (AWq.in ?_)
    refine AWp_segP 20 sa.av rfl rfl (by assumption) rfl rfl ?_
    refine AWp.of tt_ok (dok _) rfl ?_
    (repeat' ((conv => whnf); first | left | refine OpsA.cons ?_ | refine OpsA.nil ?_ | refine AWq.seq ?_ | refine AWq.region ?_ | refine AWq.cond ?_ | refine AWq.block ?_ | refine AWq.skip ?_ | refine AWq.ret ?_ | refine AWq.exit ?_ | refine AWq.loop ?_ | refine DrawA.consD ?_ | refine DrawA.nil ?_ | refine AWq.draw (by decide +kernel) ?_ | (refine Both.mk ?_ ?_ <;> intro hc <;> (first | exact Bool.noConfusion hc | exact absurd (by with_reducible rfl) hc | exact (hc : False).elim | exact absurd (by assumption) hc | exact absurd hc (by assumption) | (exfalso; omega) | skip)) | (intro c hc; (try (simp only [AH.none_iff] at hc; repeat (have hn := hc.1; replace hc := hc.2))); (first | (refine i64_k hc ?_ ?_ ?_ ; omega; omega; (clear hc; intro hc; subst hc)) | skip)) | (apply Exists.intro; apply And.intro; (first | (focus (repeat (first | (with_reducible assumption) | (with_reducible exact AH.set_same _ _ _))); done))) | (apply Exists.intro; apply And.intro; first | (with_reducible assumption) | ((try simp only [List.getElem?_drop, Nat.mul_one, Nat.add_zero, Nat.zero_add]); first | (with_reducible assumption) | rfl)) | (apply Exists.intro; apply And.intro; (focus (intro G; ((conv => whnf); (try left); (conv => whnf); first | (intro c hc; subst hc; exact And.intro rfl rfl))))) | (apply And.intro; (first | rfl | (with_reducible assumption) | exact Nat.le_of_ble_eq_true rfl | omega | (simp <;> fail) | (simp <;> omega) | (focus (repeat' (first | (with_reducible assumption) | exact one_u8s _ | rfl | apply one_take | apply one_drop)); done))) | (refine ACall.to (en _) ?_))) <;> (try (conv => whnf))
    refine Then.mk ?_
    (repeat' ((conv => whnf); first | left | refine OpsA.cons ?_ | refine OpsA.nil ?_ | refine AWq.seq ?_ | refine AWq.region ?_ | refine AWq.cond ?_ | refine AWq.block ?_ | refine AWq.skip ?_ | refine AWq.ret ?_ | refine AWq.exit ?_ | refine AWq.loop ?_ | refine DrawA.consD ?_ | refine DrawA.nil ?_ | refine AWq.draw (by decide +kernel) ?_ | (refine Both.mk ?_ ?_ <;> intro hc <;> (first | exact Bool.noConfusion hc | exact absurd (by with_reducible rfl) hc | exact (hc : False).elim | exact absurd (by assumption) hc | exact absurd hc (by assumption) | (exfalso; omega) | skip)) | (intro c hc; (try (simp only [AH.none_iff] at hc; repeat (have hn := hc.1; replace hc := hc.2))); (first | (refine i64_k hc ?_ ?_ ?_ ; omega; omega; (clear hc; intro hc; subst hc)) | skip)) | (apply Exists.intro; apply And.intro; (first | (focus (repeat (first | (with_reducible assumption) | (with_reducible exact AH.set_same _ _ _))); done))) | (apply Exists.intro; apply And.intro; first | (with_reducible assumption) | ((try simp only [List.getElem?_drop, Nat.mul_one, Nat.add_zero, Nat.zero_add]); first | (with_reducible assumption) | rfl)) | (apply Exists.intro; apply And.intro; (focus (intro G; ((conv => whnf); (try left); (conv => whnf); first | (intro c hc; subst hc; exact And.intro rfl rfl))))) | (apply And.intro; (first | rfl | (with_reducible assumption) | exact Nat.le_of_ble_eq_true rfl | omega | (simp <;> fail) | (simp <;> omega) | (focus (repeat' (first | (with_reducible assumption) | exact one_u8s _ | rfl | apply one_take | apply one_drop)); done))) | (refine ACall.to (de _) ?_))) <;> (try (conv => whnf))
    refine Then.mk (AWq.in ?_)
    refine AWp_segP 22 sa.av rfl rfl (by assumption) rfl rfl ?_
    refine AWp.of tt_ok (dok _) rfl ?_
    (repeat' ((conv => whnf); first | refine Then.mk ?_ | left | refine OpsA.cons ?_ | refine OpsA.nil ?_ | refine AWq.seq ?_ | refine AWq.region ?_ | refine AWq.cond ?_ | refine AWq.block ?_ | refine AWq.skip ?_ | refine AWq.ret ?_ | refine AWq.exit ?_ | refine AWq.loop ?_ | refine DrawA.consD ?_ | refine DrawA.nil ?_ | refine AWq.draw (by decide +kernel) ?_ | (refine Both.mk ?_ ?_ <;> intro hc <;> (first | exact Bool.noConfusion hc | exact absurd (by with_reducible rfl) hc | exact (hc : False).elim | exact absurd (by assumption) hc | exact absurd hc (by assumption) | (exfalso; omega) | skip)) | (intro c hc; (try (simp only [AH.none_iff] at hc; repeat (have hn := hc.1; replace hc := hc.2))); (first | (refine i64_k hc ?_ ?_ ?_ ; omega; omega; (clear hc; intro hc; subst hc)) | skip)) | (apply Exists.intro; apply And.intro; (first | (focus (repeat (first | (with_reducible assumption) | (with_reducible exact AH.set_same _ _ _))); done))) | (apply Exists.intro; apply And.intro; first | (with_reducible assumption) | ((try simp only [List.getElem?_drop, Nat.mul_one, Nat.add_zero, Nat.zero_add]); first | (with_reducible assumption) | rfl)) | (apply Exists.intro; apply And.intro; (focus (intro G; ((conv => whnf); (try left); (conv => whnf); first | (intro c hc; subst hc; exact And.intro rfl rfl))))) | (apply And.intro; (first | rfl | (with_reducible assumption) | exact Nat.le_of_ble_eq_true rfl | omega | (simp <;> fail) | (simp <;> omega) | (focus (repeat' (first | (with_reducible assumption) | exact one_u8s _ | rfl | apply one_take | apply one_drop)); done))))) <;> (try (conv => whnf))
    refine (Read_c (encS sa) (by omega) _).mono ?_
    rintro y H3 ⟨p, hp, rfl, rfl⟩
    have ri := ints_enc oka (by omega) (by omega) (by omega) p H2
    have si := fun H => sameints_c sa.o sa.o (by omega) (by omega) H
    rw [show decide (sa.o = sa.o) = true from decide_eq_true rfl] at si
    (repeat' ((conv => whnf); first | refine AWq.drawM ([111], [113]) (by decide +kernel) ?_ | refine Then.mk ?_ | left | refine OpsA.cons ?_ | refine OpsA.nil ?_ | refine AWq.seq ?_ | refine AWq.region ?_ | refine AWq.cond ?_ | refine AWq.block ?_ | refine AWq.skip ?_ | refine AWq.ret ?_ | refine AWq.exit ?_ | refine AWq.loop ?_ | refine DrawA.consD ?_ | refine DrawA.nil ?_ | refine AWq.draw (by decide +kernel) ?_ | (apply Exists.intro; apply And.intro; exact plain_c _ _ _ _ _ _ _ _) | (apply Exists.intro; apply And.intro; exact re _) | (apply Exists.intro; apply And.intro; exact si _) | (apply Exists.intro; apply Exists.intro; apply And.intro; exact ri) | (refine Both.mk ?_ ?_ <;> intro hc <;> (first | exact Bool.noConfusion hc | exact absurd (by with_reducible rfl) hc | exact (hc : False).elim | exact absurd (by assumption) hc | exact absurd hc (by assumption) | (exfalso; omega) | skip)) | (intro c hc; (try (simp only [AH.none_iff] at hc; repeat (have hn := hc.1; replace hc := hc.2))); (first | (refine i64_k hc ?_ ?_ ?_ ; omega; omega; (clear hc; intro hc; subst hc)) | skip)) | (apply Exists.intro; apply And.intro; (first | (focus (repeat (first | (with_reducible assumption) | (with_reducible exact AH.set_same _ _ _))); done))) | (apply Exists.intro; apply And.intro; first | (with_reducible assumption) | ((try simp only [List.getElem?_drop, Nat.mul_one, Nat.add_zero, Nat.zero_add]); first | (with_reducible assumption) | rfl)) | (apply Exists.intro; apply And.intro; (focus (intro G; ((conv => whnf); (try left); (conv => whnf); first | (intro c hc; subst hc; exact And.intro rfl rfl))))) | (apply And.intro; (first | rfl | (with_reducible assumption) | exact Nat.le_of_ble_eq_true rfl | omega | (simp <;> fail) | (simp <;> omega) | (focus (repeat' (first | (with_reducible assumption) | exact one_u8s _ | rfl | apply one_take | apply one_drop)); done))) | (refine ACall.to (plain_c _ _ _ _ _ _ _ _) ?_) | (refine ACall.to (re _) ?_))) <;> (try (conv => whnf))
    exact ⟨0 + 1, by decide, by decide, ⟨rfl, trivial⟩, HLe.fresh _ hp⟩
  · have en := fun H => encode_c sb okb H
    have de := fun H => decode_enc okb (by omega) (by omega) (by omega) H
    have re := fun H => rencode_c sb okb H
    have hl := encS_le okb (by omega) (by omega) (by omega)
    (iterate 2 ((repeat' ((conv => whnf); first | left | refine OpsA.cons ?_ | refine OpsA.nil ?_ | refine AWq.seq ?_ | refine AWq.region ?_ | refine AWq.cond ?_ | refine AWq.block ?_ | refine AWq.skip ?_ | refine AWq.ret ?_ | refine AWq.exit ?_ | refine AWq.loop ?_ | refine DrawA.consD ?_ | refine DrawA.nil ?_ | refine AWq.draw (by decide +kernel) ?_ | (refine Both.mk ?_ ?_ <;> intro hc <;> (first | exact Bool.noConfusion hc | exact absurd (by with_reducible rfl) hc | exact (hc : False).elim | exact absurd (by assumption) hc | exact absurd hc (by assumption) | (exfalso; omega) | skip)) | (intro c hc; (try (simp only [AH.none_iff] at hc; repeat (have hn := hc.1; replace hc := hc.2))); (first | (refine i64_k hc ?_ ?_ ?_ ; omega; omega; (clear hc; intro hc; subst hc)) | skip)) | (apply Exists.intro; apply And.intro; (first | (focus (repeat (first | (with_reducible assumption) | (with_reducible exact AH.set_same _ _ _))); done))) | (apply Exists.intro; apply And.intro; first | (with_reducible assumption) | ((try simp only [List.getElem?_drop, Nat.mul_one, Nat.add_zero, Nat.zero_add]); first | (with_reducible assumption) | rfl)) | (apply Exists.intro; apply And.intro; (focus (intro G; ((conv => whnf); (try left); (conv => whnf); first | (intro c hc; subst hc; exact And.intro rfl rfl))))) | (apply And.intro; (first | rfl | (with_reducible assumption) | exact Nat.le_of_ble_eq_true rfl | omega | (simp <;> fail) | (simp <;> omega) | (focus (repeat' (first | (with_reducible assumption) | exact one_u8s _ | rfl | apply one_take | apply one_drop)); done))))) <;> (try (conv => whnf)); refine Then.mk ?_))
    (repeat' ((conv => whnf); first | left | refine OpsA.cons ?_ | refine OpsA.nil ?_ | refine AWq.seq ?_ | refine AWq.region ?_ | refine AWq.cond ?_ | refine AWq.block ?_ | refine AWq.skip ?_ | refine AWq.ret ?_ | refine AWq.exit ?_ | refine AWq.loop ?_ | refine DrawA.consD ?_ | refine DrawA.nil ?_ | refine AWq.draw (by decide +kernel) ?_ | (refine Both.mk ?_ ?_ <;> intro hc <;> (first | exact Bool.noConfusion hc | exact absurd (by with_reducible rfl) hc | exact (hc : False).elim | exact absurd (by assumption) hc | exact absurd hc (by assumption) | (exfalso; omega) | skip)) | (intro c hc; (try (simp only [AH.none_iff] at hc; repeat (have hn := hc.1; replace hc := hc.2))); (first | (refine i64_k hc ?_ ?_ ?_ ; omega; omega; (clear hc; intro hc; subst hc)) | skip)) | (apply Exists.intro; apply And.intro; (first | (focus (repeat (first | (with_reducible assumption) | (with_reducible exact AH.set_same _ _ _))); done))) | (apply Exists.intro; apply And.intro; first | (with_reducible assumption) | ((try simp only [List.getElem?_drop, Nat.mul_one, Nat.add_zero, Nat.zero_add]); first | (with_reducible assumption) | rfl)) | (apply Exists.intro; apply And.intro; (focus (intro G; ((conv => whnf); (try left); (conv => whnf); first | (intro c hc; subst hc; exact And.intro rfl rfl))))) | (apply And.intro; (first | rfl | (with_reducible assumption) | exact Nat.le_of_ble_eq_true rfl | omega | (simp <;> fail) | (simp <;> omega) | (focus (repeat' (first | (with_reducible assumption) | exact one_u8s _ | rfl | apply one_take | apply one_drop)); done))))) <;> (try (conv => whnf))
    refine Then.mk (AWq.in ?_)
    refine AWp_segP 20 sb.av rfl rfl (by assumption) rfl rfl ?_
    refine AWp.of tt_ok (dok _) rfl ?_
    (repeat' ((conv => whnf); first | left | refine OpsA.cons ?_ | refine OpsA.nil ?_ | refine AWq.seq ?_ | refine AWq.region ?_ | refine AWq.cond ?_ | refine AWq.block ?_ | refine AWq.skip ?_ | refine AWq.ret ?_ | refine AWq.exit ?_ | refine AWq.loop ?_ | refine DrawA.consD ?_ | refine DrawA.nil ?_ | refine AWq.draw (by decide +kernel) ?_ | (refine Both.mk ?_ ?_ <;> intro hc <;> (first | exact Bool.noConfusion hc | exact absurd (by with_reducible rfl) hc | exact (hc : False).elim | exact absurd (by assumption) hc | exact absurd hc (by assumption) | (exfalso; omega) | skip)) | (intro c hc; (try (simp only [AH.none_iff] at hc; repeat (have hn := hc.1; replace hc := hc.2))); (first | (refine i64_k hc ?_ ?_ ?_ ; omega; omega; (clear hc; intro hc; subst hc)) | skip)) | (apply Exists.intro; apply And.intro; (first | (focus (repeat (first | (with_reducible assumption) | (with_reducible exact AH.set_same _ _ _))); done))) | (apply Exists.intro; apply And.intro; first | (with_reducible assumption) | ((try simp only [List.getElem?_drop, Nat.mul_one, Nat.add_zero, Nat.zero_add]); first | (with_reducible assumption) | rfl)) | (apply Exists.intro; apply And.intro; (focus (intro G; ((conv => whnf); (try left); (conv => whnf); first | (intro c hc; subst hc; exact And.intro rfl rfl))))) | (apply And.intro; (first | rfl | (with_reducible assumption) | exact Nat.le_of_ble_eq_true rfl | omega | (simp <;> fail) | (simp <;> omega) | (focus (repeat' (first | (with_reducible assumption) | exact one_u8s _ | rfl | apply one_take | apply one_drop)); done))) | (refine ACall.to (en _) ?_))) <;> (try (conv => whnf))
    refine Then.mk ?_
    (repeat' ((conv => whnf); first | left | refine OpsA.cons ?_ | refine OpsA.nil ?_ | refine AWq.seq ?_ | refine AWq.region ?_ | refine AWq.cond ?_ | refine AWq.block ?_ | refine AWq.skip ?_ | refine AWq.ret ?_ | refine AWq.exit ?_ | refine AWq.loop ?_ | refine DrawA.consD ?_ | refine DrawA.nil ?_ | refine AWq.draw (by decide +kernel) ?_ | (refine Both.mk ?_ ?_ <;> intro hc <;> (first | exact Bool.noConfusion hc | exact absurd (by with_reducible rfl) hc | exact (hc : False).elim | exact absurd (by assumption) hc | exact absurd hc (by assumption) | (exfalso; omega) | skip)) | (intro c hc; (try (simp only [AH.none_iff] at hc; repeat (have hn := hc.1; replace hc := hc.2))); (first | (refine i64_k hc ?_ ?_ ?_ ; omega; omega; (clear hc; intro hc; subst hc)) | skip)) | (apply Exists.intro; apply And.intro; (first | (focus (repeat (first | (with_reducible assumption) | (with_reducible exact AH.set_same _ _ _))); done))) | (apply Exists.intro; apply And.intro; first | (with_reducible assumption) | ((try simp only [List.getElem?_drop, Nat.mul_one, Nat.add_zero, Nat.zero_add]); first | (with_reducible assumption) | rfl)) | (apply Exists.intro; apply And.intro; (focus (intro G; ((conv => whnf); (try left); (conv => whnf); first | (intro c hc; subst hc; exact And.intro rfl rfl))))) | (apply And.intro; (first | rfl | (with_reducible assumption) | exact Nat.le_of_ble_eq_true rfl | omega | (simp <;> fail) | (simp <;> omega) | (focus (repeat' (first | (with_reducible assumption) | exact one_u8s _ | rfl | apply one_take | apply one_drop)); done))) | (refine ACall.to (de _) ?_))) <;> (try (conv => whnf))
    refine Then.mk (AWq.in ?_)
    refine AWp_segP 22 sb.av rfl rfl (by assumption) rfl rfl ?_
    refine AWp.of tt_ok (dok _) rfl ?_
    (repeat' ((conv => whnf); first | refine Then.mk ?_ | left | refine OpsA.cons ?_ | refine OpsA.nil ?_ | refine AWq.seq ?_ | refine AWq.region ?_ | refine AWq.cond ?_ | refine AWq.block ?_ | refine AWq.skip ?_ | refine AWq.ret ?_ | refine AWq.exit ?_ | refine AWq.loop ?_ | refine DrawA.consD ?_ | refine DrawA.nil ?_ | refine AWq.draw (by decide +kernel) ?_ | (refine Both.mk ?_ ?_ <;> intro hc <;> (first | exact Bool.noConfusion hc | exact absurd (by with_reducible rfl) hc | exact (hc : False).elim | exact absurd (by assumption) hc | exact absurd hc (by assumption) | (exfalso; omega) | skip)) | (intro c hc; (try (simp only [AH.none_iff] at hc; repeat (have hn := hc.1; replace hc := hc.2))); (first | (refine i64_k hc ?_ ?_ ?_ ; omega; omega; (clear hc; intro hc; subst hc)) | skip)) | (apply Exists.intro; apply And.intro; (first | (focus (repeat (first | (with_reducible assumption) | (with_reducible exact AH.set_same _ _ _))); done))) | (apply Exists.intro; apply And.intro; first | (with_reducible assumption) | ((try simp only [List.getElem?_drop, Nat.mul_one, Nat.add_zero, Nat.zero_add]); first | (with_reducible assumption) | rfl)) | (apply Exists.intro; apply And.intro; (focus (intro G; ((conv => whnf); (try left); (conv => whnf); first | (intro c hc; subst hc; exact And.intro rfl rfl))))) | (apply And.intro; (first | rfl | (with_reducible assumption) | exact Nat.le_of_ble_eq_true rfl | omega | (simp <;> fail) | (simp <;> omega) | (focus (repeat' (first | (with_reducible assumption) | exact one_u8s _ | rfl | apply one_take | apply one_drop)); done))))) <;> (try (conv => whnf))
    refine (Read_c (encS sb) (by omega) _).mono ?_
    rintro y H3 ⟨p, hp, rfl, rfl⟩
    have ri := ints_enc okb (by omega) (by omega) (by omega) p H2
    have si := fun H => sameints_c sb.o sb.o (by omega) (by omega) H
    rw [show decide (sb.o = sb.o) = true from decide_eq_true rfl] at si
    (repeat' ((conv => whnf); first | refine AWq.drawM ([111], [113]) (by decide +kernel) ?_ | refine Then.mk ?_ | left | refine OpsA.cons ?_ | refine OpsA.nil ?_ | refine AWq.seq ?_ | refine AWq.region ?_ | refine AWq.cond ?_ | refine AWq.block ?_ | refine AWq.skip ?_ | refine AWq.ret ?_ | refine AWq.exit ?_ | refine AWq.loop ?_ | refine DrawA.consD ?_ | refine DrawA.nil ?_ | refine AWq.draw (by decide +kernel) ?_ | (apply Exists.intro; apply And.intro; exact plain_c _ _ _ _ _ _ _ _) | (apply Exists.intro; apply And.intro; exact re _) | (apply Exists.intro; apply And.intro; exact si _) | (apply Exists.intro; apply Exists.intro; apply And.intro; exact ri) | (refine Both.mk ?_ ?_ <;> intro hc <;> (first | exact Bool.noConfusion hc | exact absurd (by with_reducible rfl) hc | exact (hc : False).elim | exact absurd (by assumption) hc | exact absurd hc (by assumption) | (exfalso; omega) | skip)) | (intro c hc; (try (simp only [AH.none_iff] at hc; repeat (have hn := hc.1; replace hc := hc.2))); (first | (refine i64_k hc ?_ ?_ ?_ ; omega; omega; (clear hc; intro hc; subst hc)) | skip)) | (apply Exists.intro; apply And.intro; (first | (focus (repeat (first | (with_reducible assumption) | (with_reducible exact AH.set_same _ _ _))); done))) | (apply Exists.intro; apply And.intro; first | (with_reducible assumption) | ((try simp only [List.getElem?_drop, Nat.mul_one, Nat.add_zero, Nat.zero_add]); first | (with_reducible assumption) | rfl)) | (apply Exists.intro; apply And.intro; (focus (intro G; ((conv => whnf); (try left); (conv => whnf); first | (intro c hc; subst hc; exact And.intro rfl rfl))))) | (apply And.intro; (first | rfl | (with_reducible assumption) | exact Nat.le_of_ble_eq_true rfl | omega | (simp <;> fail) | (simp <;> omega) | (focus (repeat' (first | (with_reducible assumption) | exact one_u8s _ | rfl | apply one_take | apply one_drop)); done))) | (refine ACall.to (plain_c _ _ _ _ _ _ _ _) ?_) | (refine ACall.to (re _) ?_))) <;> (try (conv => whnf))
    exact ⟨1 + 1, by decide, by decide, ⟨rfl, trivial⟩, HLe.fresh _ hp⟩
  · have re := fun H => rencode_c sa oka H
    have hl := encS_le100 oka (by omega) (by omega) (by omega)
    have hpos : 1 ≤ (encS sa).length := by
      unfold encS encL
      have := encN_pos sa.o.length
      simp only [List.length_append]; omega
    generalize encS sa = L at *
    have ha2 : ∀ H, ACall Try.prog 11 [.int .i64 x2, .int .i64 L.length] H (fun y H' => y = .int .i64 (aro x2 L.length) ∧ H' = H) := fun H => around_f x2 hx2.1 hx2.2 L.length (by omega) (by omega) H
    have hj := aro_lt (n := x2) (m := L.length) (by omega)
    generalize aro x2 L.length = j at *
    (repeat' ((conv => whnf); first | left | refine OpsA.cons ?_ | refine OpsA.nil ?_ | refine AWq.seq ?_ | refine AWq.region ?_ | refine AWq.cond ?_ | refine AWq.block ?_ | refine AWq.skip ?_ | refine AWq.ret ?_ | refine AWq.exit ?_ | refine AWq.loop ?_ | refine DrawA.consD ?_ | refine DrawA.nil ?_ | refine AWq.draw (by decide +kernel) ?_ | (apply Exists.intro; apply And.intro; exact plain_c _ _ _ _ _ _ _ _) | (apply Exists.intro; apply And.intro; exact re _) | (refine Both.mk ?_ ?_ <;> intro hc <;> (first | exact Bool.noConfusion hc | exact absurd (by with_reducible rfl) hc | exact (hc : False).elim | exact absurd (by assumption) hc | exact absurd hc (by assumption) | (exfalso; omega) | skip)) | (intro c hc; (try (simp only [AH.none_iff] at hc; repeat (have hn := hc.1; replace hc := hc.2))); (first | (refine i64_k hc ?_ ?_ ?_ ; omega; omega; (clear hc; intro hc; subst hc)) | skip)) | (apply Exists.intro; apply And.intro; (first | (focus (repeat (first | (with_reducible assumption) | (with_reducible exact AH.set_same _ _ _))); done))) | (apply Exists.intro; apply And.intro; first | (with_reducible assumption) | ((try simp only [List.getElem?_drop, Nat.mul_one, Nat.add_zero, Nat.zero_add]); first | (with_reducible assumption) | rfl)) | (apply Exists.intro; apply And.intro; (focus (intro G; ((conv => whnf); (try left); (conv => whnf); first | (intro c hc; subst hc; exact And.intro rfl rfl))))) | (apply And.intro; (first | rfl | (with_reducible assumption) | exact Nat.le_of_ble_eq_true rfl | omega | (simp <;> fail) | (simp <;> omega) | (focus (repeat' (first | (with_reducible assumption) | exact one_u8s _ | rfl | apply one_take | apply one_drop)); done))) | (refine ACall.to (plain_c _ _ _ _ _ _ _ _) ?_) | (refine ACall.to (re _) ?_) | (refine ACall.to (ha2 _) ?_))) <;> (try (conv => whnf))
    refine Then.mk ?_
    (repeat' ((conv => whnf); first | left | refine OpsA.cons ?_ | refine OpsA.nil ?_ | refine AWq.seq ?_ | refine AWq.region ?_ | refine AWq.cond ?_ | refine AWq.block ?_ | refine AWq.skip ?_ | refine AWq.ret ?_ | refine AWq.exit ?_ | refine AWq.loop ?_ | refine DrawA.consD ?_ | refine DrawA.nil ?_ | refine AWq.draw (by decide +kernel) ?_ | (apply Exists.intro; apply And.intro; exact plain_c _ _ _ _ _ _ _ _) | (apply Exists.intro; apply And.intro; exact re _) | (refine Both.mk ?_ ?_ <;> intro hc <;> (first | exact Bool.noConfusion hc | exact absurd (by with_reducible rfl) hc | exact (hc : False).elim | exact absurd (by assumption) hc | exact absurd hc (by assumption) | (exfalso; omega) | skip)) | (intro c hc; (try (simp only [AH.none_iff] at hc; repeat (have hn := hc.1; replace hc := hc.2))); (first | (refine i64_k hc ?_ ?_ ?_ ; omega; omega; (clear hc; intro hc; subst hc)) | skip)) | (apply Exists.intro; apply And.intro; (first | (focus (repeat (first | (with_reducible assumption) | (with_reducible exact AH.set_same _ _ _))); done))) | (apply Exists.intro; apply And.intro; first | (with_reducible assumption) | ((try simp only [List.getElem?_drop, Nat.mul_one, Nat.add_zero, Nat.zero_add]); first | (with_reducible assumption) | rfl)) | (apply Exists.intro; apply And.intro; (focus (intro G; ((conv => whnf); (try left); (conv => whnf); first | (intro c hc; subst hc; exact And.intro rfl rfl))))) | (apply And.intro; (first | rfl | (with_reducible assumption) | exact Nat.le_of_ble_eq_true rfl | omega | (simp <;> fail) | (simp <;> omega) | (focus (repeat' (first | (with_reducible assumption) | exact one_u8s _ | rfl | apply one_take | apply one_drop)); done))) | (refine ACall.to (plain_c _ _ _ _ _ _ _ _) ?_) | (refine ACall.to (re _) ?_) | (refine ACall.to (ha2 _) ?_))) <;> (try (conv => whnf))
    refine Then.mk ?_
    (repeat' ((conv => whnf); first | left | refine OpsA.cons ?_ | refine OpsA.nil ?_ | refine AWq.seq ?_ | refine AWq.region ?_ | refine AWq.cond ?_ | refine AWq.block ?_ | refine AWq.skip ?_ | refine AWq.ret ?_ | refine AWq.exit ?_ | refine AWq.loop ?_ | refine DrawA.consD ?_ | refine DrawA.nil ?_ | refine AWq.draw (by decide +kernel) ?_ | (apply Exists.intro; apply And.intro; exact plain_c _ _ _ _ _ _ _ _) | (apply Exists.intro; apply And.intro; exact re _) | (refine Both.mk ?_ ?_ <;> intro hc <;> (first | exact Bool.noConfusion hc | exact absurd (by with_reducible rfl) hc | exact (hc : False).elim | exact absurd (by assumption) hc | exact absurd hc (by assumption) | (exfalso; omega) | skip)) | (intro c hc; (try (simp only [AH.none_iff] at hc; repeat (have hn := hc.1; replace hc := hc.2))); (first | (refine i64_k hc ?_ ?_ ?_ ; omega; omega; (clear hc; intro hc; subst hc)) | skip)) | (apply Exists.intro; apply And.intro; (first | (focus (repeat (first | (with_reducible assumption) | (with_reducible exact AH.set_same _ _ _))); done))) | (apply Exists.intro; apply And.intro; first | (with_reducible assumption) | ((try simp only [List.getElem?_drop, Nat.mul_one, Nat.add_zero, Nat.zero_add]); first | (with_reducible assumption) | rfl)) | (apply Exists.intro; apply And.intro; (focus (intro G; ((conv => whnf); (try left); (conv => whnf); first | (intro c hc; subst hc; exact And.intro rfl rfl))))) | (apply And.intro; (first | rfl | (with_reducible assumption) | exact Nat.le_of_ble_eq_true rfl | omega | (simp <;> fail) | (simp <;> omega) | (focus (repeat' (first | (with_reducible assumption) | exact one_u8s _ | rfl | apply one_take | apply one_drop)); done))) | (refine ACall.to (plain_c _ _ _ _ _ _ _ _) ?_) | (refine ACall.to (re _) ?_) | (refine ACall.to (ha2 _) ?_))) <;> (try (conv => whnf))
    refine Then.mk ?_
    (repeat' ((conv => whnf); first | left | refine OpsA.cons ?_ | refine OpsA.nil ?_ | refine AWq.seq ?_ | refine AWq.region ?_ | refine AWq.cond ?_ | refine AWq.block ?_ | refine AWq.skip ?_ | refine AWq.ret ?_ | refine AWq.exit ?_ | refine AWq.loop ?_ | refine DrawA.consD ?_ | refine DrawA.nil ?_ | refine AWq.draw (by decide +kernel) ?_ | (apply Exists.intro; apply And.intro; exact plain_c _ _ _ _ _ _ _ _) | (apply Exists.intro; apply And.intro; exact re _) | (refine Both.mk ?_ ?_ <;> intro hc <;> (first | exact Bool.noConfusion hc | exact absurd (by with_reducible rfl) hc | exact (hc : False).elim | exact absurd (by assumption) hc | exact absurd hc (by assumption) | (exfalso; omega) | skip)) | (intro c hc; (try (simp only [AH.none_iff] at hc; repeat (have hn := hc.1; replace hc := hc.2))); (first | (refine i64_k hc ?_ ?_ ?_ ; omega; omega; (clear hc; intro hc; subst hc)) | skip)) | (apply Exists.intro; apply And.intro; (first | (focus (repeat (first | (with_reducible assumption) | (with_reducible exact AH.set_same _ _ _))); done))) | (apply Exists.intro; apply And.intro; first | (with_reducible assumption) | ((try simp only [List.getElem?_drop, Nat.mul_one, Nat.add_zero, Nat.zero_add]); first | (with_reducible assumption) | rfl)) | (apply Exists.intro; apply And.intro; (focus (intro G; ((conv => whnf); (try left); (conv => whnf); first | (intro c hc; subst hc; exact And.intro rfl rfl))))) | (apply And.intro; (first | rfl | (with_reducible assumption) | exact Nat.le_of_ble_eq_true rfl | omega | (simp <;> fail) | (simp <;> omega) | (focus (repeat' (first | (with_reducible assumption) | exact one_u8s _ | rfl | apply one_take | apply one_drop)); done))) | (refine ACall.to (plain_c _ _ _ _ _ _ _ _) ?_) | (refine ACall.to (re _) ?_) | (refine ACall.to (ha2 _) ?_))) <;> (try (conv => whnf))
    refine Then.mk ?_
    have hx58 : (x5 : Int) = ((UInt8.ofNat x5.toNat).toNat : Int) := by
      have : (UInt8.ofNat x5.toNat).toNat = x5.toNat := by
        show x5.toNat % 256 = x5.toNat; omega
      omega
    obtain ⟨b5, hb5⟩ : ∃ b5 : UInt8, b5 = UInt8.ofNat x5.toNat := ⟨_, rfl⟩
    rw [← hb5] at hx58
    have hw := wr_u8s (a := L) (k := j) (v := b5) hj
    rw [← hx58] at hw
    have hw : wrA (u8s L) (0 + (j : Int).toNat * 1) [.int .u8 x5] = u8s (L.set j b5) := by rw [show 0 + (j : Int).toNat * 1 = j by omega]; exact hw
    (repeat' ((conv => whnf); first | refine Or.inr (Or.inr (And.intro rfl ?_)) | left | refine OpsA.cons ?_ | refine OpsA.nil ?_ | refine AWq.seq ?_ | refine AWq.region ?_ | refine AWq.cond ?_ | refine AWq.block ?_ | refine AWq.skip ?_ | refine AWq.ret ?_ | refine AWq.exit ?_ | refine AWq.loop ?_ | refine DrawA.consD ?_ | refine DrawA.nil ?_ | refine AWq.draw (by decide +kernel) ?_ | (refine Both.mk ?_ ?_ <;> intro hc <;> (first | exact Bool.noConfusion hc | exact absurd (by with_reducible rfl) hc | exact (hc : False).elim | exact absurd (by assumption) hc | exact absurd hc (by assumption) | (exfalso; omega) | skip)) | (intro c hc; (try (simp only [AH.none_iff] at hc; repeat (have hn := hc.1; replace hc := hc.2))); (first | (refine i64_k hc ?_ ?_ ?_ ; omega; omega; (clear hc; intro hc; subst hc)) | skip)) | (apply Exists.intro; apply And.intro; (first | (focus (repeat (first | (with_reducible assumption) | (with_reducible exact AH.set_same _ _ _))); done))) | (apply Exists.intro; apply And.intro; first | (with_reducible assumption) | ((try simp only [List.getElem?_drop, Nat.mul_one, Nat.add_zero, Nat.zero_add]); first | (with_reducible assumption) | rfl)) | (apply Exists.intro; apply And.intro; (focus (intro G; ((conv => whnf); (try left); (conv => whnf); first | (intro c hc; subst hc; exact And.intro rfl rfl))))) | (apply And.intro; (first | rfl | (with_reducible assumption) | exact Nat.le_of_ble_eq_true rfl | omega | (simp <;> fail) | (simp <;> omega) | (focus (repeat' (first | (with_reducible assumption) | exact one_u8s _ | rfl | apply one_take | apply one_drop)); done))))) <;> (try (conv => whnf))
    (obtain ⟨q, hq_⟩ : ∃ q, q = c := ⟨_, rfl⟩); subst hq_
    have hq : H2 q = none := hc
    refine Then.mk ?_
    (repeat' ((conv => whnf); first | left | refine OpsA.cons ?_ | refine OpsA.nil ?_ | refine AWq.seq ?_ | refine AWq.region ?_ | refine AWq.cond ?_ | refine AWq.block ?_ | refine AWq.skip ?_ | refine AWq.ret ?_ | refine AWq.exit ?_ | refine AWq.loop ?_ | refine DrawA.consD ?_ | refine DrawA.nil ?_ | refine AWq.draw (by decide +kernel) ?_ | (refine Both.mk ?_ ?_ <;> intro hc <;> (first | exact Bool.noConfusion hc | exact absurd (by with_reducible rfl) hc | exact (hc : False).elim | exact absurd (by assumption) hc | exact absurd hc (by assumption) | (exfalso; omega) | skip)) | (intro c hc; (try (simp only [AH.none_iff] at hc; repeat (have hn := hc.1; replace hc := hc.2))); (first | (refine i64_k hc ?_ ?_ ?_ ; omega; omega; (clear hc; intro hc; subst hc)) | skip)) | (apply Exists.intro; apply And.intro; (first | (focus (repeat (first | (with_reducible assumption) | (with_reducible exact AH.set_same _ _ _))); done))) | (apply Exists.intro; apply And.intro; first | (with_reducible assumption) | ((try simp only [List.getElem?_drop, Nat.mul_one, Nat.add_zero, Nat.zero_add]); first | (with_reducible assumption) | rfl)) | (apply Exists.intro; apply And.intro; (focus (intro G; ((conv => whnf); (try left); (conv => whnf); first | (intro c hc; subst hc; exact And.intro rfl rfl))))) | (apply And.intro; (first | rfl | (with_reducible assumption) | exact Nat.le_of_ble_eq_true rfl | omega | (simp <;> fail) | (simp <;> omega) | (focus (repeat' (first | (with_reducible assumption) | exact one_u8s _ | rfl | apply one_take | apply one_drop)); done))))) <;> (try (conv => whnf))
    refine Then.mk (AWq.in ?_)
    refine AWp_freeze1 27 (r := q) (v := 0) (es := 1) (n := L.length) (lim := none) (cells := u8s (L.set j b5)) rfl rfl (by rw [← hw]; exact AH.set_same _ _ _) (by simp) ?_
    refine AWp_less H2 (HLe.del _ (HLe.set_of _ _ (HLe.fresh _ hq) hq) hq) ?_
    refine AWp.of tt_ok (dok _) rfl ?_
    (repeat' ((conv => whnf); first | left | refine OpsA.cons ?_ | refine OpsA.nil ?_ | refine AWq.seq ?_ | refine AWq.region ?_ | refine AWq.cond ?_ | refine AWq.block ?_ | refine AWq.skip ?_ | refine AWq.ret ?_ | refine AWq.exit ?_ | refine AWq.loop ?_ | refine DrawA.consD ?_ | refine DrawA.nil ?_ | refine AWq.draw (by decide +kernel) ?_ | (refine Both.mk ?_ ?_ <;> intro hc <;> (first | exact Bool.noConfusion hc | exact absurd (by with_reducible rfl) hc | exact (hc : False).elim | exact absurd (by assumption) hc | exact absurd hc (by assumption) | (exfalso; omega) | skip)) | (intro c hc; (try (simp only [AH.none_iff] at hc; repeat (have hn := hc.1; replace hc := hc.2))); (first | (refine i64_k hc ?_ ?_ ?_ ; omega; omega; (clear hc; intro hc; subst hc)) | skip)) | (apply Exists.intro; apply And.intro; (first | (focus (repeat (first | (with_reducible assumption) | (with_reducible exact AH.set_same _ _ _))); done))) | (apply Exists.intro; apply And.intro; first | (with_reducible assumption) | ((try simp only [List.getElem?_drop, Nat.mul_one, Nat.add_zero, Nat.zero_add]); first | (with_reducible assumption) | rfl)) | (apply Exists.intro; apply And.intro; (focus (intro G; ((conv => whnf); (try left); (conv => whnf); first | (intro c hc; subst hc; exact And.intro rfl rfl))))) | (apply And.intro; (first | rfl | (with_reducible assumption) | exact Nat.le_of_ble_eq_true rfl | omega | (simp <;> fail) | (simp <;> omega) | (focus (repeat' (first | (with_reducible assumption) | exact one_u8s _ | rfl | apply one_take | apply one_drop)); done))))) <;> (try (conv => whnf))
    refine Then.mk (AWq.in ?_)
    refine AWp_nilrow1 28 1 rfl rfl fun r hr => ?_
    obtain ⟨nm, k0⟩ : ∃ nm : Nat → Nat, nm 0 = r := ⟨fun k => r, rfl⟩
    subst k0
    refine AWp.of tt_ok (dok _) rfl ?_
    (repeat' ((conv => whnf); first | refine Then.mk ?_ | left | refine OpsA.cons ?_ | refine OpsA.nil ?_ | refine AWq.seq ?_ | refine AWq.region ?_ | refine AWq.cond ?_ | refine AWq.block ?_ | refine AWq.skip ?_ | refine AWq.ret ?_ | refine AWq.exit ?_ | refine AWq.loop ?_ | refine DrawA.consD ?_ | refine DrawA.nil ?_ | (refine Both.mk ?_ ?_ <;> intro hc <;> (first | exact Bool.noConfusion hc | exact absurd (by with_reducible rfl) hc | exact (hc : False).elim | exact absurd (by assumption) hc | exact absurd hc (by assumption) | (exfalso; omega) | skip)) | (intro c hc; (try (simp only [AH.none_iff] at hc; repeat (have hn := hc.1; replace hc := hc.2))); (first | (refine i64_k hc ?_ ?_ ?_ ; omega; omega; (clear hc; intro hc; subst hc)) | skip)) | (apply Exists.intro; apply And.intro; (first | (focus (repeat (first | (with_reducible assumption) | (with_reducible exact AH.set_same _ _ _))); done))) | (apply Exists.intro; apply And.intro; first | (with_reducible assumption) | ((try simp only [List.getElem?_drop, Nat.mul_one, Nat.add_zero, Nat.zero_add]); first | (with_reducible assumption) | rfl)) | (apply Exists.intro; apply And.intro; (focus (intro G; ((conv => whnf); (try left); (conv => whnf); first | (intro c hc; subst hc; exact And.intro rfl rfl))))) | (apply And.intro; (first | rfl | (with_reducible assumption) | exact Nat.le_of_ble_eq_true rfl | omega | (simp <;> fail) | (simp <;> omega) | (focus (repeat' (first | (with_reducible assumption) | exact one_u8s _ | rfl | apply one_take | apply one_drop)); done))))) <;> (try (conv => whnf))
    refine AWq.drawK mo [(135, 0), (140, 0)] nm ?_ (by decide +kernel) ?_
    · intro x y hx hy hxy
      simp at hx hy
      rw [hx, hy]
    (repeat' ((conv => whnf); first | refine DrawK.consD ?_ | refine DrawK.nil ?_ | refine Then.mk ?_ | left | refine OpsA.cons ?_ | refine OpsA.nil ?_ | refine AWq.seq ?_ | refine AWq.region ?_ | refine AWq.cond ?_ | refine AWq.block ?_ | refine AWq.skip ?_ | refine AWq.ret ?_ | refine AWq.exit ?_ | refine AWq.loop ?_ | refine DrawA.consD ?_ | refine DrawA.nil ?_ | refine AWq.draw (by decide +kernel) ?_ | (refine Both.mk ?_ ?_ <;> intro hc <;> (first | exact Bool.noConfusion hc | exact absurd (by with_reducible rfl) hc | exact (hc : False).elim | exact absurd (by assumption) hc | exact absurd hc (by assumption) | (exfalso; omega) | skip)) | (intro c hc; (try (simp only [AH.none_iff] at hc; repeat (have hn := hc.1; replace hc := hc.2))); (first | (refine i64_k hc ?_ ?_ ?_ ; omega; omega; (clear hc; intro hc; subst hc)) | skip)) | (apply Exists.intro; apply And.intro; (first | (focus (repeat (first | (with_reducible assumption) | (with_reducible exact AH.set_same _ _ _))); done))) | (apply Exists.intro; apply And.intro; first | (with_reducible assumption) | ((try simp only [List.getElem?_drop, Nat.mul_one, Nat.add_zero, Nat.zero_add]); first | (with_reducible assumption) | rfl)) | (apply Exists.intro; apply And.intro; (focus (intro G; ((conv => whnf); (try left); (conv => whnf); first | (intro c hc; subst hc; exact And.intro rfl rfl))))) | (apply And.intro; (first | rfl | (with_reducible assumption) | exact Nat.le_of_ble_eq_true rfl | omega | (simp <;> fail) | (simp <;> omega) | (focus (repeat' (first | (with_reducible assumption) | exact one_u8s _ | rfl | apply one_take | apply one_drop)); done))))) <;> (try (conv => whnf))
    refine AWq.in ?_
    obtain ⟨L3, hL3⟩ : ∃ L3, L3 = L.take j ++ L.drop (j + 1) := ⟨_, rfl⟩
    have hu3 : u8s L3 = [] ++ List.take (j : Int).toNat (u8s L) ++ List.drop (((j : Int) + 1).toNat * 1) (u8s L) := by
      rw [hL3, ← u8s_append, u8s_take, u8s_drop, List.nil_append, show (j : Int).toNat = j by omega, show ((j : Int) + 1).toNat * 1 = j + 1 by omega]
    have hn3 : 0 + (j : Int).toNat + (L.length - ((j : Int) + 1).toNat) = L3.length := by
      rw [hL3, List.length_append, List.length_take, List.length_drop]; omega
    refine AWp_freeze1 28 (r := nm 0) (v := 0 + 1 + 1) (es := 1) (n := 0 + (j : Int).toNat + (L.length - ((j : Int) + 1).toNat)) (lim := none) (cells := u8s L3) rfl rfl (by rw [hu3]; exact AH.set_same _ _ _) (by rw [hn3]; simp) ?_
    rw [hn3]
    refine AWp_less H2 (HLe.del _ (HLe.set_of _ _ (HLe.set_of _ _ (HLe.set_of _ _ (HLe.refl _) hr) hr) hr) hr) ?_
    refine AWp_spare fun q2 hq2 => ?_
    clear hq hr
    obtain ⟨nm2, k0⟩ : ∃ nm2 : Nat → Nat, nm2 0 = q2 := ⟨fun k => q2, rfl⟩
    subst k0
    refine AWp.of tt_ok (dok _) rfl ?_
    (repeat' ((conv => whnf); first | refine Then.mk ?_ | left | refine OpsA.cons ?_ | refine OpsA.nil ?_ | refine AWq.seq ?_ | refine AWq.region ?_ | refine AWq.cond ?_ | refine AWq.block ?_ | refine AWq.skip ?_ | refine AWq.ret ?_ | refine AWq.exit ?_ | refine AWq.loop ?_ | refine DrawA.consD ?_ | refine DrawA.nil ?_ | (refine Both.mk ?_ ?_ <;> intro hc <;> (first | exact Bool.noConfusion hc | exact absurd (by with_reducible rfl) hc | exact (hc : False).elim | exact absurd (by assumption) hc | exact absurd hc (by assumption) | (exfalso; omega) | skip)) | (intro c hc; (try (simp only [AH.none_iff] at hc; repeat (have hn := hc.1; replace hc := hc.2))); (first | (refine i64_k hc ?_ ?_ ?_ ; omega; omega; (clear hc; intro hc; subst hc)) | skip)) | (apply Exists.intro; apply And.intro; (first | (focus (repeat (first | (with_reducible assumption) | (with_reducible exact AH.set_same _ _ _))); done))) | (apply Exists.intro; apply And.intro; first | (with_reducible assumption) | ((try simp only [List.getElem?_drop, Nat.mul_one, Nat.add_zero, Nat.zero_add]); first | (with_reducible assumption) | rfl)) | (apply Exists.intro; apply And.intro; (focus (intro G; ((conv => whnf); (try left); (conv => whnf); first | (intro c hc; subst hc; exact And.intro rfl rfl))))) | (apply And.intro; (first | rfl | (with_reducible assumption) | exact Nat.le_of_ble_eq_true rfl | omega | (simp <;> fail) | (simp <;> omega) | (focus (repeat' (first | (with_reducible assumption) | exact one_u8s _ | rfl | apply one_take | apply one_drop)); done))))) <;> (try (conv => whnf))
    refine AWq.drawK mo [(150, 0), (153, 0)] nm2 ?_ (by decide +kernel) ?_
    · intro x y hx hy hxy
      simp at hx hy
      rw [hx, hy]
    (repeat' ((conv => whnf); first | refine DrawK.consD ?_ | refine DrawK.nil ?_ | refine Then.mk ?_ | left | refine OpsA.cons ?_ | refine OpsA.nil ?_ | refine AWq.seq ?_ | refine AWq.region ?_ | refine AWq.cond ?_ | refine AWq.block ?_ | refine AWq.skip ?_ | refine AWq.ret ?_ | refine AWq.exit ?_ | refine AWq.loop ?_ | refine DrawA.consD ?_ | refine DrawA.nil ?_ | refine AWq.draw (by decide +kernel) ?_ | (refine Both.mk ?_ ?_ <;> intro hc <;> (first | exact Bool.noConfusion hc | exact absurd (by with_reducible rfl) hc | exact (hc : False).elim | exact absurd (by assumption) hc | exact absurd hc (by assumption) | (exfalso; omega) | skip)) | (intro c hc; (try (simp only [AH.none_iff] at hc; repeat (have hn := hc.1; replace hc := hc.2))); (first | (refine i64_k hc ?_ ?_ ?_ ; omega; omega; (clear hc; intro hc; subst hc)) | skip)) | (apply Exists.intro; apply And.intro; (first | (focus (repeat (first | (with_reducible assumption) | (with_reducible exact AH.set_same _ _ _))); done))) | (apply Exists.intro; apply And.intro; first | (with_reducible assumption) | ((try simp only [List.getElem?_drop, Nat.mul_one, Nat.add_zero, Nat.zero_add]); first | (with_reducible assumption) | rfl)) | (apply Exists.intro; apply And.intro; (focus (intro G; ((conv => whnf); (try left); (conv => whnf); first | (intro c hc; subst hc; exact And.intro rfl rfl))))) | (apply And.intro; (first | rfl | (with_reducible assumption) | exact Nat.le_of_ble_eq_true rfl | omega | (simp <;> fail) | (simp <;> omega) | (focus (repeat' (first | (with_reducible assumption) | exact one_u8s _ | rfl | apply one_take | apply one_drop)); done))))) <;> (try (conv => whnf))
    obtain ⟨R0, hR0⟩ : ∃ R0, R0 = AV.cs (List.take ((min (b4.length : Int) 60).toNat * 1) (u8s b4)) (min (b4.length : Int) 60).toNat := ⟨_, rfl⟩
    obtain ⟨R1, hR1⟩ : ∃ R1, R1 = AV.cs (u8s (L.set j b5)) L.length := ⟨_, rfl⟩
    obtain ⟨R2, hR2⟩ : ∃ R2, R2 = AV.cs (u8s L3) L3.length := ⟨_, rfl⟩
    obtain ⟨R3, hR3⟩ : ∃ R3, R3 = AV.cs (u8s (L ++ [b5])) (L ++ [b5]).length := ⟨_, rfl⟩
    have h1 : u8s (L ++ [b5]) = u8s L ++ [.int .u8 x5] := by rw [← u8s_append, hx58]; rfl
    refine AWp_freezeIn 29 (r := nm2 0) (v := 1 + 1) (cells := u8s (L ++ [b5])) (a := .cs [R0, R1, R2, .sl (nm2 0) (1 + 1) 1 0 (L.length + 1) none] 4) (a' := .cs [R0, R1, R2, R3] 4) rfl ?_ ?_ ?_ ?_
    · rw [hR0, hR1, hR2]; rfl
    · rw [h1]; exact AH.set_same _ _ _
    · rw [hR3]
      refine Fr.cs rfl fun i hi hj => ?_
      rcases i with _ | _ | _ | _ | i
      · exact Fr.refl _
      · exact Fr.refl _
      · exact Fr.refl _
      · show Fr (nm2 0) (1 + 1) _ (.sl (nm2 0) (1 + 1) 1 0 (L.length + 1) none) (.cs (u8s (L ++ [b5])) (L ++ [b5]).length)
        rw [show (L ++ [b5]).length = L.length + 1 by simp]
        exact Fr.sl (by simp)
      · exact absurd hi (by simp)
    refine AWp_less H2 (HLe.del _ (HLe.set_of _ _ (HLe.set_of _ _ (HLe.set_of _ _ (HLe.refl _) hq2) hq2) hq2) hq2) ?_
    have hrows : ∀ i : Nat, i < 4 → ∃ b : List UInt8, [R0, R1, R2, R3][(i : Int).toNat]? = some (.cs (u8s b) b.length) ∧ b.length ≤ 5000 := by
      intro i hi
      rcases i with _ | _ | _ | _ | i
      · refine ⟨b4.take 60, ?_, by rw [List.length_take]; omega⟩
        rw [hR0, show (min (b4.length : Int) 60).toNat = min b4.length 60 by omega, Nat.mul_one, u8s_take, List.length_take, show min b4.length 60 = min 60 b4.length by omega]
        show some _ = some _
        rw [show List.take (min 60 b4.length) b4 = List.take 60 b4 from List.take_eq_take_min.symm]
      · exact ⟨L.set j b5, by rw [hR1, List.length_set]; rfl, by rw [List.length_set]; omega⟩
      · exact ⟨L3, by rw [hR2]; rfl, by rw [hL3, List.length_append, List.length_take, List.length_drop]; omega⟩
      · exact ⟨L ++ [b5], by rw [hR3]; rfl, by rw [List.length_append]; simp; omega⟩
      · omega
    have hrw : [R0, R1, R2, R3].length = 4 := rfl
    clear hR0 hR1 hR2 hR3 hL3 hu3 hn3 h1 hw hx58 hb5
    generalize [R0, R1, R2, R3] = rows at *
    clear hq2
    refine AWp.of tt_ok (dok _) rfl ?_
    (repeat' ((conv => whnf); first | left | refine OpsA.cons ?_ | refine OpsA.nil ?_ | refine AWq.seq ?_ | refine AWq.region ?_ | refine AWq.cond ?_ | refine AWq.block ?_ | refine AWq.skip ?_ | refine AWq.ret ?_ | refine AWq.exit ?_ | refine AWq.loop ?_ | refine DrawA.consD ?_ | refine DrawA.nil ?_ | refine AWq.draw (by decide +kernel) ?_ | (refine Both.mk ?_ ?_ <;> intro hc <;> (first | exact Bool.noConfusion hc | exact absurd (by with_reducible rfl) hc | exact (hc : False).elim | exact absurd (by assumption) hc | exact absurd hc (by assumption) | (exfalso; omega) | skip)) | (intro c hc; (try (simp only [AH.none_iff] at hc; repeat (have hn := hc.1; replace hc := hc.2))); (first | (refine i64_k hc ?_ ?_ ?_ ; omega; omega; (clear hc; intro hc; subst hc)) | skip)) | (apply Exists.intro; apply And.intro; (first | (focus (repeat (first | (with_reducible assumption) | (with_reducible exact AH.set_same _ _ _))); done))) | (apply Exists.intro; apply And.intro; first | (with_reducible assumption) | ((try simp only [List.getElem?_drop, Nat.mul_one, Nat.add_zero, Nat.zero_add]); first | (with_reducible assumption) | rfl)) | (apply Exists.intro; apply And.intro; (focus (intro G; ((conv => whnf); (try left); (conv => whnf); first | (intro c hc; subst hc; exact And.intro rfl rfl))))) | (apply And.intro; (first | rfl | (with_reducible assumption) | exact Nat.le_of_ble_eq_true rfl | omega | (simp <;> fail) | (simp <;> omega) | (focus (repeat' (first | (with_reducible assumption) | exact one_u8s _ | rfl | apply one_take | apply one_drop)); done))))) <;> (try (conv => whnf))
    refine AWp_loop (σ := Nat) (12 :: 30 :: 31 :: 32 :: 155 :: 156 :: 157 :: 158 :: 159 :: 160 :: 161 :: 162 :: 163 :: 164 :: 165 :: 166 :: 167 :: 168 :: 169 :: 170 :: 171 :: 172 :: 173 :: 174 :: 175 :: 176 :: 177 :: 178 :: 179 :: 180 :: 181 :: 182 :: 183 :: 184 :: 185 :: 186 :: 187 :: 188 :: 189 :: 190 :: 191 :: 192 :: 193 :: 194 :: 195 :: 196 :: 197 :: 198 :: 199 :: 200 :: 201 :: 202 :: []) (fun i => [(30, .int .i64 i)]) (fun _ => H2) (fun i => i ≤ 4) (fun i => 4 - i) 0 rfl (Nat.zero_le _) ⟨rfl, trivial⟩ (HLe.refl _) ?_
    intro k hk
    dsimp only at hk ⊢
    refine AWp.of tt_ok (dok _) rfl ?_
    by_cases h4 : k < 4
    · obtain ⟨b, hg, hb⟩ := hrows k h4
      rcases texts_c b hb with ⟨s, d1, d2⟩ | d1
      · (repeat' ((conv => whnf); first | refine Then.mk ?_ | left | refine OpsA.cons ?_ | refine OpsA.nil ?_ | refine AWq.seq ?_ | refine AWq.region ?_ | refine AWq.cond ?_ | refine AWq.block ?_ | refine AWq.skip ?_ | refine AWq.ret ?_ | refine AWq.exit ?_ | refine AWq.loop ?_ | refine DrawA.consD ?_ | refine DrawA.nil ?_ | refine AWq.draw (by decide +kernel) ?_ | (apply Exists.intro; apply And.intro; exact plain_c _ _ _ _ _ _ _ _) | (apply Exists.intro; apply And.intro; exact d2 _) | (refine Both.mk ?_ ?_ <;> intro hc <;> (first | exact Bool.noConfusion hc | exact absurd (by with_reducible rfl) hc | exact (hc : False).elim | exact absurd (by assumption) hc | exact absurd hc (by assumption) | (exfalso; omega) | skip)) | (intro c hc; (try (simp only [AH.none_iff] at hc; repeat (have hn := hc.1; replace hc := hc.2))); (first | (refine i64_k hc ?_ ?_ ?_ ; omega; omega; (clear hc; intro hc; subst hc)) | skip)) | (apply Exists.intro; apply And.intro; (first | (focus (repeat (first | (with_reducible assumption) | (with_reducible exact AH.set_same _ _ _))); done))) | (apply Exists.intro; apply And.intro; first | (with_reducible assumption) | ((try simp only [List.getElem?_drop, Nat.mul_one, Nat.add_zero, Nat.zero_add]); first | (with_reducible assumption) | rfl)) | (apply Exists.intro; apply And.intro; (focus (intro G; ((conv => whnf); (try left); (conv => whnf); first | (intro c hc; subst hc; exact And.intro rfl rfl))))) | (apply And.intro; (first | rfl | (with_reducible assumption) | exact Nat.le_of_ble_eq_true rfl | omega | (simp <;> fail) | (simp <;> omega) | (focus (repeat' (first | (with_reducible assumption) | exact one_u8s _ | rfl | apply one_take | apply one_drop)); done))) | (refine ACall.to (plain_c _ _ _ _ _ _ _ _) ?_) | (refine ACall.to (d1 _) ?_))) <;> (try (conv => whnf))
        exact ⟨k + 1, show k + 1 ≤ 4 by omega, show 4 - (k + 1) < 4 - k by omega, ⟨rfl, trivial⟩, by (first | ((repeat' (first | (with_reducible exact HLe.refl _) | (with_reducible assumption) | refine HLe.set_of _ _ ?_ ?_)); done))⟩
      · (repeat' ((conv => whnf); first | refine Then.mk ?_ | left | refine OpsA.cons ?_ | refine OpsA.nil ?_ | refine AWq.seq ?_ | refine AWq.region ?_ | refine AWq.cond ?_ | refine AWq.block ?_ | refine AWq.skip ?_ | refine AWq.ret ?_ | refine AWq.exit ?_ | refine AWq.loop ?_ | refine DrawA.consD ?_ | refine DrawA.nil ?_ | refine AWq.draw (by decide +kernel) ?_ | (apply Exists.intro; apply And.intro; exact plain_c _ _ _ _ _ _ _ _) | (refine Both.mk ?_ ?_ <;> intro hc <;> (first | exact Bool.noConfusion hc | exact absurd (by with_reducible rfl) hc | exact (hc : False).elim | exact absurd (by assumption) hc | exact absurd hc (by assumption) | (exfalso; omega) | skip)) | (intro c hc; (try (simp only [AH.none_iff] at hc; repeat (have hn := hc.1; replace hc := hc.2))); (first | (refine i64_k hc ?_ ?_ ?_ ; omega; omega; (clear hc; intro hc; subst hc)) | skip)) | (apply Exists.intro; apply And.intro; (first | (focus (repeat (first | (with_reducible assumption) | (with_reducible exact AH.set_same _ _ _))); done))) | (apply Exists.intro; apply And.intro; first | (with_reducible assumption) | ((try simp only [List.getElem?_drop, Nat.mul_one, Nat.add_zero, Nat.zero_add]); first | (with_reducible assumption) | rfl)) | (apply Exists.intro; apply And.intro; (focus (intro G; ((conv => whnf); (try left); (conv => whnf); first | (intro c hc; subst hc; exact And.intro rfl rfl))))) | (apply And.intro; (first | rfl | (with_reducible assumption) | exact Nat.le_of_ble_eq_true rfl | omega | (simp <;> fail) | (simp <;> omega) | (focus (repeat' (first | (with_reducible assumption) | exact one_u8s _ | rfl | apply one_take | apply one_drop)); done))) | (refine ACall.to (plain_c _ _ _ _ _ _ _ _) ?_) | (refine ACall.to (d1 _) ?_))) <;> (try (conv => whnf))
        exact ⟨k + 1, show k + 1 ≤ 4 by omega, show 4 - (k + 1) < 4 - k by omega, ⟨rfl, trivial⟩, by (first | ((repeat' (first | (with_reducible exact HLe.refl _) | (with_reducible assumption) | refine HLe.set_of _ _ ?_ ?_)); done))⟩
    · (repeat' ((conv => whnf); first | refine Then.mk ?_ | left | refine OpsA.cons ?_ | refine OpsA.nil ?_ | refine AWq.seq ?_ | refine AWq.region ?_ | refine AWq.cond ?_ | refine AWq.block ?_ | refine AWq.skip ?_ | refine AWq.ret ?_ | refine AWq.exit ?_ | refine AWq.loop ?_ | refine DrawA.consD ?_ | refine DrawA.nil ?_ | refine AWq.draw (by decide +kernel) ?_ | (refine Both.mk ?_ ?_ <;> intro hc <;> (first | exact Bool.noConfusion hc | exact absurd (by with_reducible rfl) hc | exact (hc : False).elim | exact absurd (by assumption) hc | exact absurd hc (by assumption) | (exfalso; omega) | skip)) | (intro c hc; (try (simp only [AH.none_iff] at hc; repeat (have hn := hc.1; replace hc := hc.2))); (first | (refine i64_k hc ?_ ?_ ?_ ; omega; omega; (clear hc; intro hc; subst hc)) | skip)) | (apply Exists.intro; apply And.intro; (first | (focus (repeat (first | (with_reducible assumption) | (with_reducible exact AH.set_same _ _ _))); done))) | (apply Exists.intro; apply And.intro; first | (with_reducible assumption) | ((try simp only [List.getElem?_drop, Nat.mul_one, Nat.add_zero, Nat.zero_add]); first | (with_reducible assumption) | rfl)) | (apply Exists.intro; apply And.intro; (focus (intro G; ((conv => whnf); (try left); (conv => whnf); first | (intro c hc; subst hc; exact And.intro rfl rfl))))) | (apply And.intro; (first | rfl | (with_reducible assumption) | exact Nat.le_of_ble_eq_true rfl | omega | (simp <;> fail) | (simp <;> omega) | (focus (repeat' (first | (with_reducible assumption) | exact one_u8s _ | rfl | apply one_take | apply one_drop)); done))) | (refine ACall.to (lives17_c _) ?_))) <;> (try (conv => whnf))
end Go.Proofs.Ytebflkgpbbjhnaa
