/- For the law CodecThumbs, part 6 of 8: the frame of the walk, the walks of the functions, the plain law, the row. No conditions. -/
import Derived.Test.YtgpfmojlgejnhaaCodecThumbsM5
/- Tiles: the walks of Valid. -/
namespace Go.Proofs.Ytgpfmojlgejnhaa
open Go.Fw Go
set_option linter.unusedVariables false
set_option linter.unusedSimpArgs false

def tV (b : Int) (L P : List Int) : AV := .agg [.int .i64 b, .cs (iS .i64 L) L.length, .cs (iS .i64 P) P.length]
def vOk (l v : Int) : Prop := (0 ≤ v ∧ v ≤ 65535) ∧ (l < 0 → v = 0)
def pxOk (n : Nat) (L P : List Int) (i k : Nat) : Prop := ∀ j, j < k → vOk (L.getD i 0) (P.getD (i * n + j) 0)
def lbOk (n : Nat) (L P : List Int) (i : Nat) : Prop := ∀ j, j < i → (-1 ≤ L.getD j 0 ∧ L.getD j 0 ≤ 4095) ∧ pxOk n L P j n
def tForm (b : Int) (L P : List Int) : Prop := (1 ≤ b ∧ b ≤ 4) ∧ L.length = 256 ∧ (P.length : Int) = 256 * b
open Classical in
noncomputable def tileE (b : Int) (L P : List Int) : Int := if ¬ tForm b L P then 1 else if lbOk b.toNat L P 256 then 0 else 5
def tI (L : List Int) : Prop := L.length ≤ 1000000
theorem iS_mid {P : List Int} {Q k n : Nat} (hk : k < n) (hP : Q + n ≤ P.length) :
    (List.drop ((k : Int).toNat * 1) (List.take ((((Q + n : Nat) : Int).toNat - ((Q : Nat) : Int).toNat) * 1) (List.drop (((Q : Nat) : Int).toNat * 1) (iS .i64 P))))[0]? = some (.int .i64 (P.getD (Q + k) 0)) := by
  rw [Int.toNat_natCast, Int.toNat_natCast, Int.toNat_natCast, List.getElem?_drop, List.getElem?_take_of_lt (by omega), List.getElem?_drop, show Q * 1 + (k * 1 + 0) = Q + k by omega]
  exact iS_get (by omega)
theorem pxOk_snoc {n : Nat} {L P : List Int} {i k : Nat} (h : pxOk n L P i k) (hk : vOk (L.getD i 0) (P.getD (i * n + k) 0)) : pxOk n L P i (k + 1) := fun j hj => by
  by_cases e : j = k
  · rw [e]; exact hk
  · exact h j (by omega)
theorem lbOk_snoc {n : Nat} {L P : List Int} {i : Nat} (h : lbOk n L P i) (hl : -1 ≤ L.getD i 0 ∧ L.getD i 0 ≤ 4095) (hp : pxOk n L P i n) : lbOk n L P (i + 1) := fun j hj => by
  by_cases e : j = i
  · rw [e]; exact ⟨hl, hp⟩
  · exact h j (by omega)
set_option maxRecDepth 8000 in
set_option maxHeartbeats 8000000 in
theorem valid_c (b : Int) (L P : List Int) (hb : J64 b) (hL : tI L) (hP : tI P) (H : AH) :
    ACall Try.prog 25 [tV b L P] H (fun z H' => z = .int .i64 (tileE b L P) ∧ H' = H) := by
  unfold tileE
  unfold tI at hL hP
  have b0 := fun H => btw_c b 1 4 H
  unfold J64 at hb
  by_cases hf : tForm b L P
  · rw [if_neg (fun h => h hf)]
    obtain ⟨h1, h2, h3⟩ := hf
    rw [decide_eq_true h1] at b0
    obtain ⟨n, rfl⟩ : ∃ n : Nat, b = n := ⟨b.toNat, by omega⟩
    rw [Int.toNat_natCast]
    have hn : P.length = 256 * n := by omega
    have hLl : (iS .i64 L).length = L.length := by simp
    have hPl : (iS .i64 P).length = P.length := by simp
    refine ACall_of tt_ok (dok _) Try.func25 rfl (by decide) rfl ?_
    (repeat' ((conv => whnf); first | refine OpsA.cons ?_ | refine OpsA.nil ?_ | refine AWq.seq ?_ | refine AWq.region ?_ | refine AWq.cond ?_ | refine AWq.block ?_ | refine AWq.skip ?_ | refine AWq.ret ?_ | refine AWq.exit ?_ | refine AWq.loop ?_ | (refine Both.mk ?_ ?_ <;> intro hc <;> (first | exact Bool.noConfusion hc | exact absurd (by assumption) hc | (exfalso; omega) | skip)) | (intro c hc; (try (simp only [AH.none_iff] at hc; repeat (have hn := hc.1; replace hc := hc.2))); (first | (have hc2 := Eq.trans hc (by with_reducible assumption); clear hc; subst hc2) | (refine i64_k hc ?_ ?_ ?_ ; omega; omega; (clear hc; intro hc; subst hc)) | skip)) | (apply Exists.intro; apply And.intro; (first | (focus (repeat (first | (with_reducible assumption))); done))) | (apply Exists.intro; apply And.intro; first | (with_reducible assumption) | ((try simp only [List.getElem?_drop, Nat.mul_one, Nat.add_zero, Nat.zero_add]); first | (with_reducible assumption) | rfl)) | (apply And.intro; (first | rfl | (with_reducible assumption) | exact Nat.le_of_ble_eq_true rfl | omega | (simp <;> omega))))) <;> (try (conv => whnf))
    refine Then.mk (AWq.in ?_)
    refine AWp_freezeP 1 rfl rfl (AH.set_same _ _ _) ?_
    rw [AH.del_set _ _ _ (by assumption)]
    refine AWp.of tt_ok (dok _) rfl ?_
    (repeat' ((conv => whnf); first | refine Then.mk ?_ | refine OpsA.cons ?_ | refine OpsA.nil ?_ | refine AWq.seq ?_ | refine AWq.region ?_ | refine AWq.cond ?_ | refine AWq.block ?_ | refine AWq.skip ?_ | refine AWq.ret ?_ | refine AWq.exit ?_ | refine AWq.loop ?_ | (refine Both.mk ?_ ?_ <;> intro hc <;> (first | exact Bool.noConfusion hc | exact absurd (by assumption) hc | (exfalso; omega) | skip)) | (intro c hc; (try (simp only [AH.none_iff] at hc; repeat (have hn := hc.1; replace hc := hc.2))); (first | (have hc2 := Eq.trans hc (by with_reducible assumption); clear hc; subst hc2) | (refine i64_k hc ?_ ?_ ?_ ; omega; omega; (clear hc; intro hc; subst hc)) | skip)) | (apply Exists.intro; apply And.intro; (first | (focus (repeat (first | (with_reducible assumption))); done))) | (apply Exists.intro; apply And.intro; first | (with_reducible assumption) | ((try simp only [List.getElem?_drop, Nat.mul_one, Nat.add_zero, Nat.zero_add]); first | (with_reducible assumption) | rfl)) | (apply And.intro; (first | rfl | (with_reducible assumption) | exact Nat.le_of_ble_eq_true rfl | omega | (simp <;> omega))) | (refine ACall.to (b0 _) ?_))) <;> (try (conv => whnf))
    refine AWp_loop (σ := Nat) (2 :: 3 :: 4 :: 6 :: 29 :: 30 :: 31 :: 32 :: 33 :: 34 :: 35 :: 36 :: 37 :: 38 :: 39 :: 40 :: 41 :: 42 :: 43 :: 44 :: 45 :: 46 :: 47 :: 48 :: 49 :: 50 :: 51 :: 52 :: 53 :: 54 :: 55 :: 56 :: 57 :: 58 :: 59 :: 60 :: 61 :: 62 :: 63 :: 64 :: 65 :: 66 :: []) (fun i => [(29, .int .i64 i)]) (fun _ => H) (fun i => i ≤ 256 ∧ lbOk n L P i) (fun i => 256 - i) 0 rfl ⟨Nat.zero_le _, fun j hj => absurd hj (Nat.not_lt_zero j)⟩ ⟨rfl, trivial⟩ (HLe.refl _) ?_
    rintro i ⟨hi, hio⟩
    refine AWp.of tt_ok (dok _) rfl ?_
    dsimp only at hi ⊢
    by_cases hit : i < 256
    · have gl : (iS .i64 L)[(i : Int).toNat]? = some (.int .i64 (L.getD i 0)) := iS_get (by omega)
      have b1 := fun H => btw_c (L.getD i 0) (-1) 4095 H
      by_cases hl : -1 ≤ L.getD i 0 ∧ L.getD i 0 ≤ 4095
      · rw [decide_eq_true hl] at b1
        have hq : i * n + n ≤ 256 * n := by
          have := Nat.mul_le_mul_right n (show i + 1 ≤ 256 by omega)
          rwa [Nat.add_mul, Nat.one_mul] at this
        have w1 : IntKind.i64.wrap ((i : Int) * (n : Int)) = ((i * n : Nat) : Int) := by rw [← Int.natCast_mul, IntKind.wrap_i64]; omega
        have w2 : IntKind.i64.wrap (((i : Int) + 1) * (n : Int)) = ((i * n + n : Nat) : Int) := by
          rw [show ((i : Int) + 1) * (n : Int) = ((i * n + n : Nat) : Int) by rw [Int.add_mul, Int.natCast_add, Int.natCast_mul]; omega, IntKind.wrap_i64]; omega
        have hst := fun hp => lbOk_snoc (n := n) (P := P) hio hl hp
        have hpx : ∀ k, lbOk n L P 256 → k < n → vOk (L.getD i 0) (P.getD (i * n + k) 0) := fun k h hk => (h i hit).2 k hk
        obtain ⟨Q, hQ⟩ : ∃ Q, Q = i * n := ⟨_, rfl⟩
        have hsn : ∀ k, pxOk n L P i k → vOk (L.getD i 0) (P.getD (i * n + k) 0) → pxOk n L P i (k + 1) := fun k => pxOk_snoc
        rw [← hQ] at hq w1 w2 hpx hsn
        generalize hl0 : L.getD i 0 = l at *
        (repeat' ((conv => whnf); first | refine Then.mk ?_ | refine OpsA.cons ?_ | refine OpsA.nil ?_ | refine AWq.seq ?_ | refine AWq.region ?_ | refine AWq.cond ?_ | refine AWq.block ?_ | refine AWq.skip ?_ | refine AWq.ret ?_ | refine AWq.exit ?_ | refine AWq.loop ?_ | (refine Both.mk ?_ ?_ <;> intro hc <;> (first | exact Bool.noConfusion hc | exact absurd (by assumption) hc | (exfalso; omega) | skip)) | (intro c hc; (try (simp only [AH.none_iff] at hc; repeat (have hn := hc.1; replace hc := hc.2))); (first | (have hc2 := Eq.trans hc (by with_reducible assumption); clear hc; subst hc2) | (refine i64_k hc ?_ ?_ ?_ ; omega; omega; (clear hc; intro hc; subst hc)) | skip)) | (apply Exists.intro; apply And.intro; (first | (focus (repeat (first | (with_reducible assumption))); done))) | (apply Exists.intro; apply And.intro; first | (with_reducible assumption) | ((try simp only [List.getElem?_drop, Nat.mul_one, Nat.add_zero, Nat.zero_add]); first | (with_reducible assumption) | rfl)) | (apply And.intro; (first | rfl | (with_reducible assumption) | exact Nat.le_of_ble_eq_true rfl | omega | (simp <;> omega))) | (refine ACall.to (b1 _) ?_))) <;> (try (conv => whnf))
        refine AWp_loop (σ := Nat) (2 :: 6 :: 50 :: 51 :: 52 :: 53 :: 54 :: 55 :: 56 :: 57 :: 58 :: 59 :: 60 :: 61 :: 62 :: 63 :: 64 :: 65 :: []) (fun k => [(50, .int .i64 k)]) (fun _ => H) (fun k => k ≤ n ∧ pxOk n L P i k) (fun k => n - k) 0 rfl ⟨Nat.zero_le _, fun j hj => absurd hj (Nat.not_lt_zero j)⟩ ⟨rfl, trivial⟩ (HLe.refl _) ?_
        rintro k ⟨hk, hko⟩
        refine AWp.of tt_ok (dok _) rfl ?_
        dsimp only at hk ⊢
        by_cases hkt : k < n
        · have gp := iS_mid (P := P) (Q := Q) hkt (by omega)
          have b2 := fun H => btw_c (P.getD (Q + k) 0) 0 65535 H
          have hsk := hsn k hko
          have hpk := fun h => hpx k h hkt
          unfold vOk at hsk hpk
          generalize P.getD (Q + k) 0 = v at *
          by_cases hv : 0 ≤ v ∧ v ≤ 65535
          · rw [decide_eq_true hv] at b2
            by_cases hv2 : l < 0 ∧ v ≠ 0
            · rw [if_neg (fun h => hv2.2 ((hpk h).2 hv2.1))]
              obtain ⟨hv3, hv4⟩ := hv2
              (repeat' ((conv => whnf); first | refine Then.mk ?_ | refine OpsA.cons ?_ | refine OpsA.nil ?_ | refine AWq.seq ?_ | refine AWq.region ?_ | refine AWq.cond ?_ | refine AWq.block ?_ | refine AWq.skip ?_ | refine AWq.ret ?_ | refine AWq.exit ?_ | refine AWq.loop ?_ | (refine Both.mk ?_ ?_ <;> intro hc <;> (first | exact Bool.noConfusion hc | exact absurd (by assumption) hc | (exfalso; omega) | skip)) | (intro c hc; (try (simp only [AH.none_iff] at hc; repeat (have hn := hc.1; replace hc := hc.2))); (first | (have hc2 := Eq.trans hc (by with_reducible assumption); clear hc; subst hc2) | (refine i64_k hc ?_ ?_ ?_ ; omega; omega; (clear hc; intro hc; subst hc)) | skip)) | (apply Exists.intro; apply And.intro; (first | (focus (repeat (first | (with_reducible assumption))); done))) | (apply Exists.intro; apply And.intro; first | (with_reducible assumption) | ((try simp only [List.getElem?_drop, Nat.mul_one, Nat.add_zero, Nat.zero_add]); first | (with_reducible assumption) | rfl)) | (apply And.intro; (first | rfl | (with_reducible assumption) | exact Nat.le_of_ble_eq_true rfl | omega | (simp <;> omega))) | (refine ACall.to (b2 _) ?_))) <;> (try (conv => whnf))
              done
            · have hsk2 := hsk ⟨hv, fun h => Decidable.byContradiction fun h2 => hv2 ⟨h, h2⟩⟩
              (repeat' ((conv => whnf); first | refine Then.mk ?_ | refine OpsA.cons ?_ | refine OpsA.nil ?_ | refine AWq.seq ?_ | refine AWq.region ?_ | refine AWq.cond ?_ | refine AWq.block ?_ | refine AWq.skip ?_ | refine AWq.ret ?_ | refine AWq.exit ?_ | refine AWq.loop ?_ | (refine Both.mk ?_ ?_ <;> intro hc <;> (first | exact Bool.noConfusion hc | exact absurd (by assumption) hc | (exfalso; omega) | skip)) | (intro c hc; (try (simp only [AH.none_iff] at hc; repeat (have hn := hc.1; replace hc := hc.2))); (first | (have hc2 := Eq.trans hc (by with_reducible assumption); clear hc; subst hc2) | (refine i64_k hc ?_ ?_ ?_ ; omega; omega; (clear hc; intro hc; subst hc)) | skip)) | (apply Exists.intro; apply And.intro; (first | (focus (repeat (first | (with_reducible assumption))); done))) | (apply Exists.intro; apply And.intro; first | (with_reducible assumption) | ((try simp only [List.getElem?_drop, Nat.mul_one, Nat.add_zero, Nat.zero_add]); first | (with_reducible assumption) | rfl)) | (apply And.intro; (first | rfl | (with_reducible assumption) | exact Nat.le_of_ble_eq_true rfl | omega | (simp <;> omega))) | (refine ACall.to (b2 _) ?_))) <;> (try (conv => whnf))
              all_goals exact ⟨k + 1, ⟨hkt, hsk2⟩, show n - (k + 1) < n - k by omega, ⟨congrArg (AV.int .i64) (by omega), trivial⟩, HLe.refl _⟩
          · rw [decide_eq_false hv] at b2
            rw [if_neg (fun h => hv (hpk h).1)]
            (repeat' ((conv => whnf); first | refine Then.mk ?_ | refine OpsA.cons ?_ | refine OpsA.nil ?_ | refine AWq.seq ?_ | refine AWq.region ?_ | refine AWq.cond ?_ | refine AWq.block ?_ | refine AWq.skip ?_ | refine AWq.ret ?_ | refine AWq.exit ?_ | refine AWq.loop ?_ | (refine Both.mk ?_ ?_ <;> intro hc <;> (first | exact Bool.noConfusion hc | exact absurd (by assumption) hc | (exfalso; omega) | skip)) | (intro c hc; (try (simp only [AH.none_iff] at hc; repeat (have hn := hc.1; replace hc := hc.2))); (first | (have hc2 := Eq.trans hc (by with_reducible assumption); clear hc; subst hc2) | (refine i64_k hc ?_ ?_ ?_ ; omega; omega; (clear hc; intro hc; subst hc)) | skip)) | (apply Exists.intro; apply And.intro; (first | (focus (repeat (first | (with_reducible assumption))); done))) | (apply Exists.intro; apply And.intro; first | (with_reducible assumption) | ((try simp only [List.getElem?_drop, Nat.mul_one, Nat.add_zero, Nat.zero_add]); first | (with_reducible assumption) | rfl)) | (apply And.intro; (first | rfl | (with_reducible assumption) | exact Nat.le_of_ble_eq_true rfl | omega | (simp <;> omega))) | (refine ACall.to (b2 _) ?_))) <;> (try (conv => whnf))
            done
        · have hke : k = n := by omega
          subst hke
          (repeat' ((conv => whnf); first | refine Then.mk ?_ | refine OpsA.cons ?_ | refine OpsA.nil ?_ | refine AWq.seq ?_ | refine AWq.region ?_ | refine AWq.cond ?_ | refine AWq.block ?_ | refine AWq.skip ?_ | refine AWq.ret ?_ | refine AWq.exit ?_ | refine AWq.loop ?_ | (refine Both.mk ?_ ?_ <;> intro hc <;> (first | exact Bool.noConfusion hc | exact absurd (by assumption) hc | (exfalso; omega) | skip)) | (intro c hc; (try (simp only [AH.none_iff] at hc; repeat (have hn := hc.1; replace hc := hc.2))); (first | (have hc2 := Eq.trans hc (by with_reducible assumption); clear hc; subst hc2) | (refine i64_k hc ?_ ?_ ?_ ; omega; omega; (clear hc; intro hc; subst hc)) | skip)) | (apply Exists.intro; apply And.intro; (first | (focus (repeat (first | (with_reducible assumption))); done))) | (apply Exists.intro; apply And.intro; first | (with_reducible assumption) | ((try simp only [List.getElem?_drop, Nat.mul_one, Nat.add_zero, Nat.zero_add]); first | (with_reducible assumption) | rfl)) | (apply And.intro; (first | rfl | (with_reducible assumption) | exact Nat.le_of_ble_eq_true rfl | omega | (simp <;> omega))))) <;> (try (conv => whnf))
          exact ⟨i + 1, ⟨hit, hst hko⟩, show 256 - (i + 1) < 256 - i by omega, ⟨congrArg (AV.int .i64) (by omega), trivial⟩, HLe.refl _⟩
      · rw [decide_eq_false hl] at b1
        rw [if_neg (fun h => hl (h i hit).1)]
        (repeat' ((conv => whnf); first | refine Then.mk ?_ | refine OpsA.cons ?_ | refine OpsA.nil ?_ | refine AWq.seq ?_ | refine AWq.region ?_ | refine AWq.cond ?_ | refine AWq.block ?_ | refine AWq.skip ?_ | refine AWq.ret ?_ | refine AWq.exit ?_ | refine AWq.loop ?_ | (refine Both.mk ?_ ?_ <;> intro hc <;> (first | exact Bool.noConfusion hc | exact absurd (by assumption) hc | (exfalso; omega) | skip)) | (intro c hc; (try (simp only [AH.none_iff] at hc; repeat (have hn := hc.1; replace hc := hc.2))); (first | (have hc2 := Eq.trans hc (by with_reducible assumption); clear hc; subst hc2) | (refine i64_k hc ?_ ?_ ?_ ; omega; omega; (clear hc; intro hc; subst hc)) | skip)) | (apply Exists.intro; apply And.intro; (first | (focus (repeat (first | (with_reducible assumption))); done))) | (apply Exists.intro; apply And.intro; first | (with_reducible assumption) | ((try simp only [List.getElem?_drop, Nat.mul_one, Nat.add_zero, Nat.zero_add]); first | (with_reducible assumption) | rfl)) | (apply And.intro; (first | rfl | (with_reducible assumption) | exact Nat.le_of_ble_eq_true rfl | omega | (simp <;> omega))) | (refine ACall.to (b1 _) ?_))) <;> (try (conv => whnf))
        done
    · have hie : i = 256 := by omega
      subst hie
      rw [if_pos hio]
      (repeat' ((conv => whnf); first | refine Then.mk ?_ | refine OpsA.cons ?_ | refine OpsA.nil ?_ | refine AWq.seq ?_ | refine AWq.region ?_ | refine AWq.cond ?_ | refine AWq.block ?_ | refine AWq.skip ?_ | refine AWq.ret ?_ | refine AWq.exit ?_ | refine AWq.loop ?_ | (refine Both.mk ?_ ?_ <;> intro hc <;> (first | exact Bool.noConfusion hc | exact absurd (by assumption) hc | (exfalso; omega) | skip)) | (intro c hc; (try (simp only [AH.none_iff] at hc; repeat (have hn := hc.1; replace hc := hc.2))); (first | (have hc2 := Eq.trans hc (by with_reducible assumption); clear hc; subst hc2) | (refine i64_k hc ?_ ?_ ?_ ; omega; omega; (clear hc; intro hc; subst hc)) | skip)) | (apply Exists.intro; apply And.intro; (first | (focus (repeat (first | (with_reducible assumption))); done))) | (apply Exists.intro; apply And.intro; first | (with_reducible assumption) | ((try simp only [List.getElem?_drop, Nat.mul_one, Nat.add_zero, Nat.zero_add]); first | (with_reducible assumption) | rfl)) | (apply And.intro; (first | rfl | (with_reducible assumption) | exact Nat.le_of_ble_eq_true rfl | omega | (simp <;> omega))))) <;> (try (conv => whnf))
      done
  · rw [if_pos hf]
    unfold tForm at hf
    refine ACall_of tt_ok (dok _) Try.func25 rfl (by decide) rfl ?_
    (repeat' ((conv => whnf); first | refine OpsA.cons ?_ | refine OpsA.nil ?_ | refine AWq.seq ?_ | refine AWq.region ?_ | refine AWq.cond ?_ | refine AWq.block ?_ | refine AWq.skip ?_ | refine AWq.ret ?_ | refine AWq.exit ?_ | refine AWq.loop ?_ | (refine Both.mk ?_ ?_ <;> intro hc <;> (first | exact Bool.noConfusion hc | exact absurd (by assumption) hc | (exfalso; omega) | skip)) | (intro c hc; (try (simp only [AH.none_iff] at hc; repeat (have hn := hc.1; replace hc := hc.2))); (first | (have hc2 := Eq.trans hc (by with_reducible assumption); clear hc; subst hc2) | (refine i64_k hc ?_ ?_ ?_ ; omega; omega; (clear hc; intro hc; subst hc)) | skip)) | (apply Exists.intro; apply And.intro; (first | (focus (repeat (first | (with_reducible assumption))); done))) | (apply Exists.intro; apply And.intro; first | (with_reducible assumption) | ((try simp only [List.getElem?_drop, Nat.mul_one, Nat.add_zero, Nat.zero_add]); first | (with_reducible assumption) | rfl)) | (apply And.intro; (first | rfl | (with_reducible assumption) | exact Nat.le_of_ble_eq_true rfl | omega | (simp <;> omega))))) <;> (try (conv => whnf))
    refine Then.mk (AWq.in ?_)
    refine AWp_freezeP 1 rfl rfl (AH.set_same _ _ _) ?_
    rw [AH.del_set _ _ _ (by assumption)]
    refine AWp.of tt_ok (dok _) rfl ?_
    by_cases h1 : 1 ≤ b ∧ b ≤ 4
    · rw [decide_eq_true h1] at b0
      have w1 : IntKind.i64.wrap (256 * b) = 256 * b := by rw [IntKind.wrap_i64]; omega
      by_cases h2 : L.length = 256
      · (repeat' ((conv => whnf); first | refine Then.mk ?_ | refine OpsA.cons ?_ | refine OpsA.nil ?_ | refine AWq.seq ?_ | refine AWq.region ?_ | refine AWq.cond ?_ | refine AWq.block ?_ | refine AWq.skip ?_ | refine AWq.ret ?_ | refine AWq.exit ?_ | refine AWq.loop ?_ | (refine Both.mk ?_ ?_ <;> intro hc <;> (first | exact Bool.noConfusion hc | exact absurd (by assumption) hc | (exfalso; omega) | skip)) | (intro c hc; (try (simp only [AH.none_iff] at hc; repeat (have hn := hc.1; replace hc := hc.2))); (first | (have hc2 := Eq.trans hc (by with_reducible assumption); clear hc; subst hc2) | (refine i64_k hc ?_ ?_ ?_ ; omega; omega; (clear hc; intro hc; subst hc)) | skip)) | (apply Exists.intro; apply And.intro; (first | (focus (repeat (first | (with_reducible assumption))); done))) | (apply Exists.intro; apply And.intro; first | (with_reducible assumption) | ((try simp only [List.getElem?_drop, Nat.mul_one, Nat.add_zero, Nat.zero_add]); first | (with_reducible assumption) | rfl)) | (apply And.intro; (first | rfl | (with_reducible assumption) | exact Nat.le_of_ble_eq_true rfl | omega | (simp <;> omega))) | (refine ACall.to (b0 _) ?_))) <;> (try (conv => whnf))
        done
      · (repeat' ((conv => whnf); first | refine Then.mk ?_ | refine OpsA.cons ?_ | refine OpsA.nil ?_ | refine AWq.seq ?_ | refine AWq.region ?_ | refine AWq.cond ?_ | refine AWq.block ?_ | refine AWq.skip ?_ | refine AWq.ret ?_ | refine AWq.exit ?_ | refine AWq.loop ?_ | (refine Both.mk ?_ ?_ <;> intro hc <;> (first | exact Bool.noConfusion hc | exact absurd (by assumption) hc | (exfalso; omega) | skip)) | (intro c hc; (try (simp only [AH.none_iff] at hc; repeat (have hn := hc.1; replace hc := hc.2))); (first | (have hc2 := Eq.trans hc (by with_reducible assumption); clear hc; subst hc2) | (refine i64_k hc ?_ ?_ ?_ ; omega; omega; (clear hc; intro hc; subst hc)) | skip)) | (apply Exists.intro; apply And.intro; (first | (focus (repeat (first | (with_reducible assumption))); done))) | (apply Exists.intro; apply And.intro; first | (with_reducible assumption) | ((try simp only [List.getElem?_drop, Nat.mul_one, Nat.add_zero, Nat.zero_add]); first | (with_reducible assumption) | rfl)) | (apply And.intro; (first | rfl | (with_reducible assumption) | exact Nat.le_of_ble_eq_true rfl | omega | (simp <;> omega))) | (refine ACall.to (b0 _) ?_))) <;> (try (conv => whnf))
        done
    · rw [decide_eq_false h1] at b0
      (repeat' ((conv => whnf); first | refine Then.mk ?_ | refine OpsA.cons ?_ | refine OpsA.nil ?_ | refine AWq.seq ?_ | refine AWq.region ?_ | refine AWq.cond ?_ | refine AWq.block ?_ | refine AWq.skip ?_ | refine AWq.ret ?_ | refine AWq.exit ?_ | refine AWq.loop ?_ | (refine Both.mk ?_ ?_ <;> intro hc <;> (first | exact Bool.noConfusion hc | exact absurd (by assumption) hc | (exfalso; omega) | skip)) | (intro c hc; (try (simp only [AH.none_iff] at hc; repeat (have hn := hc.1; replace hc := hc.2))); (first | (have hc2 := Eq.trans hc (by with_reducible assumption); clear hc; subst hc2) | (refine i64_k hc ?_ ?_ ?_ ; omega; omega; (clear hc; intro hc; subst hc)) | skip)) | (apply Exists.intro; apply And.intro; (first | (focus (repeat (first | (with_reducible assumption))); done))) | (apply Exists.intro; apply And.intro; first | (with_reducible assumption) | ((try simp only [List.getElem?_drop, Nat.mul_one, Nat.add_zero, Nat.zero_add]); first | (with_reducible assumption) | rfl)) | (apply And.intro; (first | rfl | (with_reducible assumption) | exact Nat.le_of_ble_eq_true rfl | omega | (simp <;> omega))) | (refine ACall.to (b0 _) ?_))) <;> (try (conv => whnf))
      done
open Go.Fw Go

def grH (H : AH) (p q1 q2 : Nat) (b : Int) (A B : List Int) : AH :=
  ((H.set p (.row [.int .i64 b, .sl q1 A.length 1 0 A.length none, .sl q2 B.length 1 0 B.length none] 0)).set q1 (.row (iS .i64 A) A.length)).set q2 (.row (iS .i64 B) B.length)
structure Gr (H : AH) (p q1 q2 : Nat) : Prop where
  hp : H p = none
  ha : H q1 = none
  hb : H q2 = none
  pa : p ≠ q1
  pb : p ≠ q2
  ab : q1 ≠ q2
theorem Gr.atp {H : AH} {p q1 q2 : Nat} (g : Gr H p q1 q2) (b : Int) (A B : List Int) : grH H p q1 q2 b A B p = some (.row [.int .i64 b, .sl q1 A.length 1 0 A.length none, .sl q2 B.length 1 0 B.length none] 0) := by
  unfold grH; rw [AH.set_ne _ _ g.pb, AH.set_ne _ _ g.pa, AH.set_same]
theorem Gr.ata {H : AH} {p q1 q2 : Nat} (g : Gr H p q1 q2) (b : Int) (A B : List Int) : grH H p q1 q2 b A B q1 = some (.row (iS .i64 A) A.length) := by
  unfold grH; rw [AH.set_ne _ _ g.ab, AH.set_same]
theorem Gr.atb {H : AH} {p q1 q2 : Nat} (g : Gr H p q1 q2) (b : Int) (A B : List Int) : grH H p q1 q2 b A B q2 = some (.row (iS .i64 B) B.length) := by
  unfold grH; rw [AH.set_same]
theorem Gr.stepA {H : AH} {p q1 q2 : Nat} (g : Gr H p q1 q2) (b : Int) (A B : List Int) (x : Int) :
    HLe (grH H p q1 q2 b (A ++ [x]) B) (((grH H p q1 q2 b A B).set q1 (.row (iS .i64 A ++ [.int .i64 x]) (A.length + 1))).set p (.row [.int .i64 b, .sl q1 (A.length + 1) 1 0 (A.length + 1) none, .sl q2 B.length 1 0 B.length none] 0)) := by
  obtain ⟨_, _, _, n1, n2, n3⟩ := g
  unfold grH
  rw [← iS_snoc, List.length_append]
  exact HLe.of_eq (by ((funext s; simp only [AH.set, AH.del]; repeat' split) <;> (first | rfl | (exfalso; omega))))
theorem Gr.stepB {H : AH} {p q1 q2 : Nat} (g : Gr H p q1 q2) (b : Int) (A B : List Int) (x : Int) :
    HLe (grH H p q1 q2 b A (B ++ [x])) (((grH H p q1 q2 b A B).set q2 (.row (iS .i64 B ++ [.int .i64 x]) (B.length + 1))).set p (.row [.int .i64 b, .sl q1 A.length 1 0 A.length none, .sl q2 (B.length + 1) 1 0 (B.length + 1) none] 0)) := by
  obtain ⟨_, _, _, n1, n2, n3⟩ := g
  unfold grH
  rw [← iS_snoc, List.length_append]
  exact HLe.of_eq (by ((funext s; simp only [AH.set, AH.del]; repeat' split) <;> (first | rfl | (exfalso; omega))))
theorem AWp_grown {N : Nat} {P : Program} {ro : Option Nat} {ws : Nat → Bool} {c : Code} {K R : St → AH → Prop} {X : Nat → St → AH → Prop} {s : St} {H : AH} {p q1 q2 : Nat} (g : Gr H p q1 q2) (b : Int) (A B : List Int)
    (h : AWp (P := P) N ro ws c K R X s (H.set p (.row [.int .i64 b, .cs (iS .i64 A) A.length, .cs (iS .i64 B) B.length] 0))) : AWp (P := P) N ro ws c K R X s (grH H p q1 q2 b A B) := by
  refine AWp_freezeC [.int .i64 b] [.sl q2 B.length 1 0 B.length none] g.pa (g.atp b A B) (g.ata b A B) (by simp) ?_
  have n1 := g.pa
  have n2 := g.pb
  have n3 := g.ab
  have hb := g.atb b A B
  refine AWp_freezeC (p := p) (r := q2) (u := 0) (v := B.length) (es := 1) (n := B.length) (lim := none) (cells := iS .i64 B) [.int .i64 b, .cs (iS .i64 A) A.length] [] g.pb (AH.set_same _ _ _) (by rw [AH.set_ne _ _ (Ne.symm n2)]; unfold AH.del; rw [if_neg (Ne.symm n3)]; exact hb) (by simp) ?_
  refine AWp_less _ ?_ h
  refine ⟨fun r o hr => ?_⟩
  by_cases e : r = p
  · subst e; rw [AH.set_same] at hr ⊢; exact hr
  · rw [AH.set_ne _ _ e] at hr ⊢
    have e1 : r ≠ q1 := fun e1 => by rw [e1, g.ha] at hr; cases hr
    have e2 : r ≠ q2 := fun e2 => by rw [e2, g.hb] at hr; cases hr
    unfold AH.del
    rw [if_neg e2, AH.set_ne _ _ e, if_neg e1]
    unfold grH
    rw [AH.set_ne _ _ e2, AH.set_ne _ _ e1, AH.set_ne _ _ e]
    exact hr
theorem AWp_grow {N : Nat} {P : Program} {ro : Option Nat} {ws : Nat → Bool} {c : Code} {K R : St → AH → Prop} {X : Nat → St → AH → Prop} {s : St} {H : AH} {p : Nat} (b : Int) (hp : H p = none)
    (h : ∀ q1 q2, Gr H p q1 q2 → AWp (P := P) N ro ws c K R X s (grH H p q1 q2 b [] [])) : AWp (P := P) N ro ws c K R X s (H.set p (.row [.int .i64 b, .nils, .nils] 0)) := by
  refine AWp_nilC 1 [.int .i64 b] [.nils] (AH.set_same _ _ _) fun q1 h1 n1 => ?_
  refine AWp_nilC 1 [.int .i64 b, .sl q1 0 1 0 0 none] [] (AH.set_same _ _ _) fun q2 h2 n2 => ?_
  have h1' : H q1 = none := (AH.none_set h1).2
  have h2a := (AH.none_set h2).2
  have n21 : q2 ≠ q1 := (AH.none_set h2a).1
  have h2' : H q2 = none := (AH.none_set (AH.none_set h2a).2).2
  refine AWp_less _ ?_ (h q1 q2 ⟨hp, h1', h2', Ne.symm n1, Ne.symm n2, Ne.symm n21⟩)
  unfold grH
  have n1' := Ne.symm n1
  have n2' := Ne.symm n2
  have n12 := Ne.symm n21
  exact HLe.of_eq (by ((funext s; simp only [AH.set, AH.del]; repeat' split) <;> (first | rfl | (exfalso; omega))))
open Go.Fw Go

def sumN (f : Nat → Int) : Nat → Int
  | 0 => 0
  | k + 1 => sumN f k + f k
def okW (w v : Int) : Prop := (0 ≤ w ∧ w ≤ 65536) ∧ (-1073741824 ≤ v ∧ v ≤ 1073741824)
instance (w v : Int) : Decidable (okW w v) := by unfold okW; exact inferInstance
open Classical in
open Go.Fw Go

theorem getD_fnL (f : Nat → Int) {n i : Nat} (h : i < n) : (fnL n f).getD i 0 = f i := by
  rw [List.getD_eq_getElem?_getD, fnL_get f h]; rfl
structure Btw (f g : Nat → Int) (k : Nat) (lo hi : Int) : Prop where
  nn : 0 ≤ sumN f k
  l : sumN f k * lo ≤ sumN (fun i => f i * g i) k
  h : sumN (fun i => f i * g i) k ≤ sumN f k * hi
theorem Btw.zero (f g : Nat → Int) : Btw f g 0 0 0 := ⟨Int.le_refl _, Int.le_refl _, Int.le_refl _⟩
open Go.Fw Go

abbrev Wl := List (Int × Int)
def prA (p : Int × Int) : List AV := [.int .i64 p.1, .int .i64 p.2]
theorem prA_len (p : Int × Int) : (prA p).length = 2 := rfl
def prL (l : Wl) : List AV := fL prA l
@[simp] theorem prL_len (l : Wl) : (prL l).length = l.length * 2 := fL_len prA_len l
structure WtOk (m : Int) (l : Wl) : Prop where
  s : l.Pairwise (fun a b => a.1 < b.1)
  c : ∀ p ∈ l, (0 ≤ p.1 ∧ p.1 ≤ 11) ∧ (1 ≤ p.2 ∧ p.2 ≤ m)
theorem WtOk.nil {m : Int} : WtOk m [] := ⟨List.Pairwise.nil, fun p hp => by simp at hp⟩
theorem wok_len : ∀ {l : Wl} {a b : Int}, l.Pairwise (fun a b => a.1 < b.1) → (∀ p ∈ l, a ≤ p.1 ∧ p.1 ≤ b) → a ≤ b + 1 → (l.length : Int) ≤ b + 1 - a
  | [], a, b, _, _, h => by simp; omega
  | p :: l, a, b, hs, hp, h => by
    rw [List.pairwise_cons] at hs
    have h1 := hp p (by simp)
    have := wok_len (a := p.1 + 1) (b := b) hs.2 (fun q hq => by have := hs.1 q hq; have := hp q (by simp [hq]); omega) (by omega)
    simp only [List.length_cons]; omega
theorem WtOk.len {m : Int} {l : Wl} (h : WtOk m l) : l.length ≤ 12 := by
  have := wok_len (a := 0) (b := 11) h.s (fun p hp => (h.c p hp).1) (by decide); omega
open Go.Fw Go

def LOk (L : List Int) : Prop := L.length ≤ 1000000 ∧ ∀ x ∈ L, -9223372036854775808 ≤ x ∧ x ≤ 11
theorem LOk.at {L : List Int} (h : LOk L) (i : Nat) : L.getD i 0 ≤ 11 := by
  by_cases hi : i < L.length
  · exact (h.2 _ (getD_mem hi)).2
  · rw [List.getD_eq_getElem?_getD, List.getElem?_eq_none (by omega)]; decide
def wBad (w h : Int) (L : List Int) : Prop := ¬ (1 ≤ w ∧ w ≤ 256) ∨ ¬ (1 ≤ h ∧ h ≤ 256) ∨ (L.length : Int) ≠ w * h
def wOut (w h x y r : Int) : Prop := ¬ (0 ≤ x ∧ x < w) ∨ ¬ (0 ≤ y ∧ y < h) ∨ ¬ (0 ≤ r ∧ r ≤ 4)
instance (w h : Int) (L : List Int) : Decidable (wBad w h L) := by unfold wBad; exact inferInstance
instance (w h x y r : Int) : Decidable (wOut w h x y r) := by unfold wOut; exact inferInstance
open Go.Fw Go

theorem nodup_len {α : Type} [DecidableEq α] : ∀ {A B : List α}, A.Nodup → (∀ a ∈ A, a ∈ B) → A.length ≤ B.length
  | [], B, _, _ => Nat.zero_le _
  | a :: A, B, hn, h => by
    rw [List.nodup_cons] at hn
    have ha := h a (by simp)
    have := nodup_len (A := A) (B := B.erase a) hn.2 fun x hx => by
      have hne : x ≠ a := fun e => hn.1 (e ▸ hx)
      exact (List.mem_erase_of_ne hne).2 (h x (by simp [hx]))
    rw [List.length_erase_of_mem ha] at this
    have := List.length_pos_of_mem ha
    simp only [List.length_cons]; omega
open Go.Fw Go

def wget (W : Wl) (n : Int) : Option Int := match W with
  | [] => none
  | p :: l => if p.1 = n then some p.2 else wget l n
theorem wget_none {n : Int} : ∀ {W : Wl}, wget W n = none ↔ n ∉ W.map (·.1)
  | [] => by simp [wget]
  | p :: l => by
    unfold wget
    by_cases h : p.1 = n
    · rw [if_pos h]; simp [h]
    · rw [if_neg h, wget_none (W := l)]
      simp [Ne.symm h]
theorem mget_none {n : Int} : ∀ {es : List ME}, mget es n = none ↔ n ∉ es.map (·.k)
  | [] => by simp [mget]
  | p :: l => by
    unfold mget
    by_cases h : p.k = n
    · rw [if_pos h]; simp [h]
    · rw [if_neg h, mget_none (es := l)]
      simp [Ne.symm h]
structure MOk (es : List ME) (cl : Nat) (W : Wl) : Prop where
  b : ∀ x, x ∈ es → x.b < cl
  d : (es.map (·.b)).Nodup
  k : (es.map (·.k)).Nodup
  g : ∀ n, (mget es n).map (·.v) = (wget W n).map fun c => AV.int .i64 c
theorem MOk.nil : MOk [] 0 [] := ⟨fun x hx => by simp at hx, List.nodup_nil, List.nodup_nil, fun n => rfl⟩
theorem MOk.km {es : List ME} {cl : Nat} {W : Wl} (h : MOk es cl W) (z : Int) : z ∈ W.map (·.1) ↔ z ∈ es.map (·.k) := by
  have := h.g z
  constructor
  · intro hz
    refine Classical.byContradiction fun hn => ?_
    rw [mget_none.2 hn] at this
    cases hw : wget W z with
    | none => exact wget_none.1 hw hz
    | some c => rw [hw] at this; cases this
  · intro hz
    refine Classical.byContradiction fun hn => ?_
    rw [wget_none.2 hn] at this
    cases hw : mget es z with
    | none => exact mget_none.1 hw hz
    | some c => rw [hw] at this; cases this
theorem MOk.len {es : List ME} {cl : Nat} {W : Wl} {m : Int} (h : MOk es cl W) (hW : WtOk m W) : es.length ≤ 12 := by
  have h1 := hW.len
  have := nodup_len (A := es.map (·.k)) (B := W.map (·.1)) h.k fun a ha => (h.km a).2 ha
  simp at this; omega
theorem MOk.gs {es : List ME} {cl : Nat} {W : Wl} (h : MOk es cl W) {n c : Int} (hw : wget W n = some c) : ∃ k b, mget es n = some ⟨k, .int .i64 c, b⟩ := by
  have := h.g n
  rw [hw] at this
  cases hm : mget es n with
  | none => rw [hm] at this; cases this
  | some x =>
    obtain ⟨k, v, b⟩ := x
    rw [hm] at this
    have : v = .int .i64 c := by simpa using this
    subst this
    exact ⟨k, b, rfl⟩
open Go.Fw Go

def mostI (l : Int) : Int := 65536 / 2 ^ l.toNat
def kOk (l x y : Int) : Prop := (0 ≤ l ∧ l ≤ 16) ∧ (-mostI l ≤ x ∧ x ≤ mostI l - 1) ∧ (-mostI l ≤ y ∧ y ≤ mostI l - 1)
instance (l x y : Int) : Decidable (kOk l x y) := by unfold kOk; exact inferInstance
open Go.Fw Go

def lblQ (l : List Int) (w i : Nat) : Nat := (i % w * pickV l 0 3 + i / w * pickV l 1 3) / 7 % 3
def lblN (l : List Int) (w i : Nat) : Int :=
  if pickV l ((i % 11 : Nat) : Int) 40 = 1 then -1 - ((i % 2 : Nat) : Int) else if pickV l ((i % 11 : Nat) : Int) 40 = 0 then ((i % 5 : Nat) : Int) else (lblQ l w i : Int)
def lblV (l : List Int) (w h : Nat) : List Int := fnL (w * h) (lblN l w)
theorem lblV_len (l : List Int) (w h : Nat) : (lblV l w h).length = w * h := fnL_len _ _
theorem lblN_bd (l : List Int) (w i : Nat) : -2 ≤ lblN l w i ∧ lblN l w i ≤ 4 := by
  have : lblQ l w i < 3 := Nat.mod_lt _ (by decide)
  unfold lblN
  split
  · omega
  · split <;> omega
set_option maxRecDepth 8000 in
set_option maxHeartbeats 8000000 in
theorem labels_c (l : List Int) (hl : ∀ n ∈ l, -9223372036854775808 ≤ n ∧ n ≤ 9223372036854775807) (hll : l.length ≤ maxLen) (w h : Nat) (hw : w ≤ 300) (hh : h ≤ 300) (H : AH) :
    ACall Try.prog 28 [.cs (iS .i64 l) l.length, .int .i64 w, .int .i64 h] H (fun y H' => y = .cs (iS .i64 (lblV l w h)) (w * h) ∧ H' = H) := by
  have hll2 : l.length ≤ 9223372036854775807 := by unfold maxLen at hll; omega
  have hp := fun (i : Nat) (hi : i ≤ 1000) m hm1 hm2 H => pick_f l hl hll2 (i : Int) (by omega) m hm1 hm2 H
  refine ACall.cold (es := 1) (by rw [iS_length, lblV_len]; omega) ?_
  have hwh : w * h ≤ 300 * 300 := Nat.mul_le_mul hw hh
  have wm : IntKind.i64.wrap ((w : Int) * (h : Int)) = ((w * h : Nat) : Int) := by rw [← Int.natCast_mul, IntKind.wrap_i64]; omega
  unfold lblV
  obtain ⟨N, hN⟩ : ∃ N, N = w * h := ⟨_, rfl⟩
  rw [← hN] at wm hwh ⊢
  refine ACall_of tt_ok (dok _) Try.func28 rfl (by decide) rfl ?_
  (iterate 1 ((repeat' ((conv => whnf); first | left | refine OpsA.cons ?_ | refine OpsA.nil ?_ | refine AWq.seq ?_ | refine AWq.region ?_ | refine AWq.cond ?_ | refine AWq.block ?_ | refine AWq.skip ?_ | refine AWq.ret ?_ | refine AWq.exit ?_ | refine AWq.loop ?_ | refine DrawA.consD ?_ | refine DrawA.nil ?_ | refine AWq.draw (by decide +kernel) ?_ | (refine Both.mk ?_ ?_ <;> intro hc <;> (first | exact Bool.noConfusion hc | (exfalso; omega) | skip)) | (intro c hc; (try (simp only [AH.none_iff] at hc; repeat (have hn := hc.1; replace hc := hc.2))); (first | (have hc2 := Eq.trans hc (by with_reducible assumption); clear hc; subst hc2) | (refine i64_k hc ?_ ?_ ?_ ; omega; omega; (clear hc; intro hc; subst hc)) | skip)) | (apply Exists.intro; apply And.intro; (first | (focus (repeat (first | (with_reducible assumption) | (with_reducible exact AH.set_same _ _ _))); done))) | (apply Exists.intro; apply And.intro; first | (with_reducible assumption) | ((try simp only [List.getElem?_drop, Nat.mul_one, Nat.add_zero, Nat.zero_add]); first | (with_reducible assumption) | rfl)) | (apply Exists.intro; apply And.intro; (focus ((conv => whnf); first | (intro c hc; subst hc; exact And.intro rfl rfl)))) | (apply And.intro; (first | rfl | (with_reducible assumption) | omega)))) <;> (try (conv => whnf)); refine Then.mk ?_))
  (repeat' ((conv => whnf); first | left | refine OpsA.cons ?_ | refine OpsA.nil ?_ | refine AWq.seq ?_ | refine AWq.region ?_ | refine AWq.cond ?_ | refine AWq.block ?_ | refine AWq.skip ?_ | refine AWq.ret ?_ | refine AWq.exit ?_ | refine AWq.loop ?_ | refine DrawA.consD ?_ | refine DrawA.nil ?_ | refine AWq.draw (by decide +kernel) ?_ | (refine Both.mk ?_ ?_ <;> intro hc <;> (first | exact Bool.noConfusion hc | (exfalso; omega) | skip)) | (intro c hc; (try (simp only [AH.none_iff] at hc; repeat (have hn := hc.1; replace hc := hc.2))); (first | (have hc2 := Eq.trans hc (by with_reducible assumption); clear hc; subst hc2) | (refine i64_k hc ?_ ?_ ?_ ; omega; omega; (clear hc; intro hc; subst hc)) | skip)) | (apply Exists.intro; apply And.intro; (first | (focus (repeat (first | (with_reducible assumption) | (with_reducible exact AH.set_same _ _ _))); done))) | (apply Exists.intro; apply And.intro; first | (with_reducible assumption) | ((try simp only [List.getElem?_drop, Nat.mul_one, Nat.add_zero, Nat.zero_add]); first | (with_reducible assumption) | rfl)) | (apply Exists.intro; apply And.intro; (focus ((conv => whnf); first | (intro c hc; subst hc; exact And.intro rfl rfl)))) | (apply And.intro; (first | rfl | (with_reducible assumption) | omega)))) <;> (try (conv => whnf))
  refine Then.mk (AWq.in ?_)
  refine AWp_nilrow1 7 1 rfl rfl fun q hq => ?_
  refine AWp.of tt_ok (dok _) rfl ?_
  (repeat' ((conv => whnf); first | refine Then.mk ?_ | left | refine OpsA.cons ?_ | refine OpsA.nil ?_ | refine AWq.seq ?_ | refine AWq.region ?_ | refine AWq.cond ?_ | refine AWq.block ?_ | refine AWq.skip ?_ | refine AWq.ret ?_ | refine AWq.exit ?_ | refine AWq.loop ?_ | refine DrawA.consD ?_ | refine DrawA.nil ?_ | refine AWq.draw (by decide +kernel) ?_ | (refine Both.mk ?_ ?_ <;> intro hc <;> (first | exact Bool.noConfusion hc | (exfalso; omega) | skip)) | (intro c hc; (try (simp only [AH.none_iff] at hc; repeat (have hn := hc.1; replace hc := hc.2))); (first | (have hc2 := Eq.trans hc (by with_reducible assumption); clear hc; subst hc2) | (refine i64_k hc ?_ ?_ ?_ ; omega; omega; (clear hc; intro hc; subst hc)) | skip)) | (apply Exists.intro; apply And.intro; (first | (focus (repeat (first | (with_reducible assumption) | (with_reducible exact AH.set_same _ _ _))); done))) | (apply Exists.intro; apply And.intro; first | (with_reducible assumption) | ((try simp only [List.getElem?_drop, Nat.mul_one, Nat.add_zero, Nat.zero_add]); first | (with_reducible assumption) | rfl)) | (apply Exists.intro; apply And.intro; (focus ((conv => whnf); first | (intro c hc; subst hc; exact And.intro rfl rfl)))) | (apply And.intro; (first | rfl | (with_reducible assumption) | omega)))) <;> (try (conv => whnf))
  refine AWp_loop (σ := Nat) (7 :: 8 :: 9 :: 10 :: 11 :: 12 :: 13 :: 14 :: 15 :: 16 :: 17 :: 18 :: 19 :: 20 :: 21 :: 22 :: 23 :: 24 :: 25 :: 26 :: 27 :: 28 :: 29 :: 30 :: 31 :: 32 :: 33 :: 34 :: 35 :: 36 :: 37 :: 38 :: 39 :: 40 :: 41 :: 42 :: 43 :: 44 :: 45 :: 46 :: 47 :: 48 :: 49 :: 50 :: []) (fun i => [(8, .int .i64 i), (7, .sl q i 1 0 i none)]) (fun i => H.set q (.row (iS .i64 (fnL i (lblN l w))) i)) (fun i => i ≤ N) (fun i => N - i) 0 rfl (Nat.zero_le _) ⟨rfl, rfl, trivial⟩ (HLe.refl _) ?_
  intro i hi
  refine AWp.of tt_ok (dok _) rfl ?_
  dsimp only at hi ⊢
  by_cases hit : i < N
  · have hw1 : 1 ≤ w := by
      rcases Nat.eq_zero_or_pos w with h0 | h0
      · rw [h0, Nat.zero_mul] at hN; omega
      · exact h0
    have pk := fun H => hp (i % 11) (by omega) 40 (by decide) (by decide) H
    have p0 := fun H => hp 0 (by decide) 3 (by decide) (by decide) H
    have p1 := fun H => hp 1 (by decide) 3 (by decide) (by decide) H
    have l0 := pickV_lt (l := l) (i := ((0 : Nat) : Int)) (m := 3) (by decide)
    have l1 := pickV_lt (l := l) (i := ((1 : Nat) : Int)) (m := 3) (by decide)
    have hsn : iS .i64 (fnL (i + 1) (lblN l w)) = iS .i64 (fnL i (lblN l w)) ++ [.int .i64 (lblN l w i)] := by rw [fnL_snoc, ← iS_snoc]
    rw [show lblN l w i = if pickV l ((i % 11 : Nat) : Int) 40 = 1 then -1 - ((i % 2 : Nat) : Int) else if pickV l ((i % 11 : Nat) : Int) 40 = 0 then ((i % 5 : Nat) : Int) else (((i % w * pickV l ((0 : Nat) : Int) 3 + i / w * pickV l ((1 : Nat) : Int) 3) / 7 % 3 : Nat) : Int) from rfl] at hsn
    generalize pickV l ((i % 11 : Nat) : Int) 40 = kk at *
    generalize pickV l ((0 : Nat) : Int) 3 = P0 at *
    generalize pickV l ((1 : Nat) : Int) 3 = P1 at *
    have hA : i % w < w := Nat.mod_lt _ hw1
    have hB : i / w ≤ i := Nat.div_le_self _ _
    have e_mod : ((i : Int).tmod (w : Int)) = ((i % w : Nat) : Int) := by rw [Int.tmod_eq_emod_of_nonneg (by omega)]; omega
    have e_div : IntKind.i64.wrap ((i : Int).tdiv (w : Int)) = ((i / w : Nat) : Int) := by
      rw [Int.tdiv_eq_ediv_of_nonneg (by omega), ← Int.natCast_ediv]
      generalize i / w = z at hB ⊢
      rw [IntKind.wrap_i64]; omega
    have e_max : max (w : Int) 1 = w := by omega
    have e_div2 : IntKind.i64.wrap ((i : Int).tdiv (max (w : Int) 1)) = ((i / w : Nat) : Int) := by rw [e_max]; exact e_div
    have e11 : ((i : Int).tmod 11) = ((i % 11 : Nat) : Int) := by rw [Int.tmod_eq_emod_of_nonneg (by omega)]; omega
    have e5 : ((i : Int).tmod 5) = ((i % 5 : Nat) : Int) := by rw [Int.tmod_eq_emod_of_nonneg (by omega)]; omega
    have e2 : ((i : Int).tmod 2) = ((i % 2 : Nat) : Int) := by rw [Int.tmod_eq_emod_of_nonneg (by omega)]; omega
    generalize i % w = A at *
    generalize i / w = Bq at *
    have hU : A * P0 ≤ 300 * 3 := Nat.mul_le_mul (by omega) (by omega)
    have hV : Bq * P1 ≤ 90000 * 3 := Nat.mul_le_mul (by omega) (by omega)
    have e_m1 : IntKind.i64.wrap ((A : Int) * (P0 : Int)) = ((A * P0 : Nat) : Int) := by rw [← Int.natCast_mul, IntKind.wrap_i64]; omega
    have e_m2 : IntKind.i64.wrap ((Bq : Int) * (P1 : Int)) = ((Bq * P1 : Nat) : Int) := by rw [← Int.natCast_mul, IntKind.wrap_i64]; omega
    generalize A * P0 = U at *
    generalize Bq * P1 = V at *
    have e7 : IntKind.i64.wrap (((U : Int) + (V : Int)).tdiv 7) = (((U + V) / 7 : Nat) : Int) := by
      rw [Int.tdiv_eq_ediv_of_nonneg (by omega), IntKind.wrap_i64]; omega
    have e3 : ((((U + V) / 7 : Nat) : Int).tmod 3) = (((U + V) / 7 % 3 : Nat) : Int) := by rw [Int.tmod_eq_emod_of_nonneg (by omega)]; omega
    generalize hQ : (U + V) / 7 = Q at *
    have hil : (iS .i64 (fnL i (lblN l w))).length = i := by simp
    generalize hR2 : iS .i64 (fnL (i + 1) (lblN l w)) = R2 at *
    generalize iS .i64 (fnL i (lblN l w)) = R1 at *
    have pk : ∀ H, ACall Try.prog 29 [.cs (iS .i64 l) l.length, .int .i64 ((i % 11 : Nat) : Int), .int .i64 40] H (fun y H' => y = .int .i64 kk ∧ H' = H) := pk
    have p0 : ∀ H, ACall Try.prog 29 [.cs (iS .i64 l) l.length, .int .i64 0, .int .i64 3] H (fun y H' => y = .int .i64 P0 ∧ H' = H) := p0
    have p1 : ∀ H, ACall Try.prog 29 [.cs (iS .i64 l) l.length, .int .i64 1, .int .i64 3] H (fun y H' => y = .int .i64 P1 ∧ H' = H) := p1
    rcases (show kk = 0 ∨ kk = 1 ∨ kk ≠ 0 ∧ kk ≠ 1 by omega) with h0 | h0 | h0
    · rw [if_neg (by omega), if_pos h0] at hsn
      (repeat' ((conv => whnf); first | refine Then.mk ?_ | left | refine OpsA.cons ?_ | refine OpsA.nil ?_ | refine AWq.seq ?_ | refine AWq.region ?_ | refine AWq.cond ?_ | refine AWq.block ?_ | refine AWq.skip ?_ | refine AWq.ret ?_ | refine AWq.exit ?_ | refine AWq.loop ?_ | refine DrawA.consD ?_ | refine DrawA.nil ?_ | refine AWq.draw (by decide +kernel) ?_ | (apply Exists.intro; apply And.intro; exact p0 _) | (apply Exists.intro; apply And.intro; exact p1 _) | (refine Both.mk ?_ ?_ <;> intro hc <;> (first | exact Bool.noConfusion hc | (exfalso; omega) | skip)) | (intro c hc; (try (simp only [AH.none_iff] at hc; repeat (have hn := hc.1; replace hc := hc.2))); (first | (have hc2 := Eq.trans hc (by with_reducible assumption); clear hc; subst hc2) | (refine i64_k hc ?_ ?_ ?_ ; omega; omega; (clear hc; intro hc; subst hc)) | skip)) | (apply Exists.intro; apply And.intro; (first | (focus (repeat (first | (with_reducible assumption) | (with_reducible exact AH.set_same _ _ _))); done))) | (apply Exists.intro; apply And.intro; first | (with_reducible assumption) | ((try simp only [List.getElem?_drop, Nat.mul_one, Nat.add_zero, Nat.zero_add]); first | (with_reducible assumption) | rfl)) | (apply Exists.intro; apply And.intro; (focus ((conv => whnf); first | (intro c hc; subst hc; exact And.intro rfl rfl)))) | (apply And.intro; (first | rfl | (with_reducible assumption) | omega)) | (refine ACall.to (pk _) ?_))) <;> (try (conv => whnf))
      refine ⟨i + 1, hit, show N - (i + 1) < N - i by omega, ⟨congrArg (AV.int .i64) (by omega), rfl, trivial⟩, HLe.of_eq ?_⟩
      rw [hR2, hsn, AH.set_set]
    · rw [if_pos h0] at hsn
      (repeat' ((conv => whnf); first | refine Then.mk ?_ | left | refine OpsA.cons ?_ | refine OpsA.nil ?_ | refine AWq.seq ?_ | refine AWq.region ?_ | refine AWq.cond ?_ | refine AWq.block ?_ | refine AWq.skip ?_ | refine AWq.ret ?_ | refine AWq.exit ?_ | refine AWq.loop ?_ | refine DrawA.consD ?_ | refine DrawA.nil ?_ | refine AWq.draw (by decide +kernel) ?_ | (apply Exists.intro; apply And.intro; exact p0 _) | (apply Exists.intro; apply And.intro; exact p1 _) | (refine Both.mk ?_ ?_ <;> intro hc <;> (first | exact Bool.noConfusion hc | (exfalso; omega) | skip)) | (intro c hc; (try (simp only [AH.none_iff] at hc; repeat (have hn := hc.1; replace hc := hc.2))); (first | (have hc2 := Eq.trans hc (by with_reducible assumption); clear hc; subst hc2) | (refine i64_k hc ?_ ?_ ?_ ; omega; omega; (clear hc; intro hc; subst hc)) | skip)) | (apply Exists.intro; apply And.intro; (first | (focus (repeat (first | (with_reducible assumption) | (with_reducible exact AH.set_same _ _ _))); done))) | (apply Exists.intro; apply And.intro; first | (with_reducible assumption) | ((try simp only [List.getElem?_drop, Nat.mul_one, Nat.add_zero, Nat.zero_add]); first | (with_reducible assumption) | rfl)) | (apply Exists.intro; apply And.intro; (focus ((conv => whnf); first | (intro c hc; subst hc; exact And.intro rfl rfl)))) | (apply And.intro; (first | rfl | (with_reducible assumption) | omega)) | (refine ACall.to (pk _) ?_))) <;> (try (conv => whnf))
      refine ⟨i + 1, hit, show N - (i + 1) < N - i by omega, ⟨congrArg (AV.int .i64) (by omega), rfl, trivial⟩, HLe.of_eq ?_⟩
      rw [hR2, hsn, AH.set_set]
    · rw [if_neg h0.2, if_neg h0.1] at hsn
      (repeat' ((conv => whnf); first | refine Then.mk ?_ | left | refine OpsA.cons ?_ | refine OpsA.nil ?_ | refine AWq.seq ?_ | refine AWq.region ?_ | refine AWq.cond ?_ | refine AWq.block ?_ | refine AWq.skip ?_ | refine AWq.ret ?_ | refine AWq.exit ?_ | refine AWq.loop ?_ | refine DrawA.consD ?_ | refine DrawA.nil ?_ | refine AWq.draw (by decide +kernel) ?_ | (apply Exists.intro; apply And.intro; exact p0 _) | (apply Exists.intro; apply And.intro; exact p1 _) | (refine Both.mk ?_ ?_ <;> intro hc <;> (first | exact Bool.noConfusion hc | (exfalso; omega) | skip)) | (intro c hc; (try (simp only [AH.none_iff] at hc; repeat (have hn := hc.1; replace hc := hc.2))); (first | (have hc2 := Eq.trans hc (by with_reducible assumption); clear hc; subst hc2) | (refine i64_k hc ?_ ?_ ?_ ; omega; omega; (clear hc; intro hc; subst hc)) | skip)) | (apply Exists.intro; apply And.intro; (first | (focus (repeat (first | (with_reducible assumption) | (with_reducible exact AH.set_same _ _ _))); done))) | (apply Exists.intro; apply And.intro; first | (with_reducible assumption) | ((try simp only [List.getElem?_drop, Nat.mul_one, Nat.add_zero, Nat.zero_add]); first | (with_reducible assumption) | rfl)) | (apply Exists.intro; apply And.intro; (focus ((conv => whnf); first | (intro c hc; subst hc; exact And.intro rfl rfl)))) | (apply And.intro; (first | rfl | (with_reducible assumption) | omega)) | (refine ACall.to (pk _) ?_))) <;> (try (conv => whnf))
      refine ⟨i + 1, hit, show N - (i + 1) < N - i by omega, ⟨congrArg (AV.int .i64) (by omega), rfl, trivial⟩, HLe.of_eq ?_⟩
      rw [hR2, hsn, AH.set_set]
  · have hie : i = N := by omega
    subst hie
    (repeat' ((conv => whnf); first | refine Then.mk ?_ | left | refine OpsA.cons ?_ | refine OpsA.nil ?_ | refine AWq.seq ?_ | refine AWq.region ?_ | refine AWq.cond ?_ | refine AWq.block ?_ | refine AWq.skip ?_ | refine AWq.ret ?_ | refine AWq.exit ?_ | refine AWq.loop ?_ | refine DrawA.consD ?_ | refine DrawA.nil ?_ | refine AWq.draw (by decide +kernel) ?_ | (refine Both.mk ?_ ?_ <;> intro hc <;> (first | exact Bool.noConfusion hc | (exfalso; omega) | skip)) | (intro c hc; (try (simp only [AH.none_iff] at hc; repeat (have hn := hc.1; replace hc := hc.2))); (first | (have hc2 := Eq.trans hc (by with_reducible assumption); clear hc; subst hc2) | (refine i64_k hc ?_ ?_ ?_ ; omega; omega; (clear hc; intro hc; subst hc)) | skip)) | (apply Exists.intro; apply And.intro; (first | (focus (repeat (first | (with_reducible assumption) | (with_reducible exact AH.set_same _ _ _))); done))) | (apply Exists.intro; apply And.intro; first | (with_reducible assumption) | ((try simp only [List.getElem?_drop, Nat.mul_one, Nat.add_zero, Nat.zero_add]); first | (with_reducible assumption) | rfl)) | (apply Exists.intro; apply And.intro; (focus ((conv => whnf); first | (intro c hc; subst hc; exact And.intro rfl rfl)))) | (apply And.intro; (first | rfl | (with_reducible assumption) | omega)))) <;> (try (conv => whnf))
open Go.Fw Go

def tlA (l : List Int) (i : Nat) : Int := max (lblN l 16 i) (-1)
def tlQ (l : List Int) (i k : Nat) : Int := if 0 ≤ lblN l 16 i then (((pickV l ((i % 7 : Nat) : Int) 9000 + i * pickV l 2 300 + 31 * k) % 65536 : Nat) : Int) else 0
def tlB (l : List Int) (n m : Nat) : Int := tlQ l (m / n) (m % n)
theorem tlB_at (l : List Int) {n k : Nat} (i : Nat) (hk : k < n) : tlB l n (i * n + k) = tlQ l i k := by
  unfold tlB
  rw [Nat.mul_comm i n, Nat.mul_add_div (by omega), Nat.div_eq_of_lt hk, Nat.mul_add_mod, Nat.mod_eq_of_lt hk, Nat.add_zero]
set_option maxRecDepth 8000 in
set_option maxHeartbeats 8000000 in
theorem tile_c (l : List Int) (hl : ∀ n ∈ l, -9223372036854775808 ≤ n ∧ n ≤ 9223372036854775807) (hll : l.length ≤ maxLen) (b : Int) (hb : J64 b) (H : AH) :
    ACall Try.prog 6 [.cs (iS .i64 l) l.length, .int .i64 b] H (fun z H' => z = tV ((1 + aro b 3 : Nat) : Int) (fnL 256 (tlA l)) (fnL (256 * (1 + aro b 3)) (tlB l (1 + aro b 3))) ∧ H' = H) := by
  have hll2 : l.length ≤ 9223372036854775807 := by unfold maxLen at hll; omega
  have hp := fun (i : Nat) (hi : i ≤ 1000) m hm1 hm2 H => pick_f l hl hll2 (i : Int) (by omega) m hm1 hm2 H
  have ha := fun H => around_f b hb.1 hb.2 3 (by decide) (by decide) H
  have hn := aro_lt (n := b) (m := 3) (by decide)
  generalize aro b 3 = n0 at *
  obtain ⟨n, hnd⟩ : ∃ n, n = 1 + n0 := ⟨_, rfl⟩
  have lenL : (lblV l 16 16).length = 256 := lblV_len l 16 16
  have hlb : ∀ H, ACall Try.prog 28 [.cs (iS .i64 l) l.length, .int .i64 16, .int .i64 16] H (fun y H' => y = .cs (iS .i64 (lblV l 16 16)) 256 ∧ H' = H) := fun H => labels_c l hl hll 16 16 (by decide) (by decide) H
  have hlg : ∀ i, i < 256 → (lblV l 16 16).getD i 0 = lblN l 16 i := fun i hi => by
    unfold lblV; rw [List.getD_eq_getElem?_getD, fnL_get _ hi]; rfl
  have hn13 : 1 ≤ n ∧ n ≤ 3 := by omega
  have e1n : 1 + (n0 : Int) = n := by omega
  have ha : ∀ H, ACall Try.prog 8 [.int .i64 b, .int .i64 3] H (fun y H' => y = .int .i64 n0 ∧ H' = H) := ha
  rw [← hnd]
  refine ACall.back ?_
  refine ACall_of tt_ok (dok _) Try.func6 rfl (by decide) rfl ?_
  (repeat' ((conv => whnf); first | left | refine OpsA.cons ?_ | refine OpsA.nil ?_ | refine AWq.seq ?_ | refine AWq.region ?_ | refine AWq.cond ?_ | refine AWq.block ?_ | refine AWq.skip ?_ | refine AWq.ret ?_ | refine AWq.exit ?_ | refine AWq.loop ?_ | refine DrawA.consD ?_ | refine DrawA.nil ?_ | refine AWq.draw (by decide +kernel) ?_ | (refine Both.mk ?_ ?_ <;> intro hc <;> (first | exact Bool.noConfusion hc | exact absurd (by assumption) hc | exact absurd hc (by assumption) | (exfalso; omega) | skip)) | (intro c hc; (try (simp only [AH.none_iff] at hc; repeat (have hn := hc.1; replace hc := hc.2))); (first | (have hc2 := Eq.trans hc (by with_reducible assumption); clear hc; subst hc2) | (refine i64_k hc ?_ ?_ ?_ ; omega; omega; (clear hc; intro hc; subst hc)) | skip)) | (apply Exists.intro; apply And.intro; (first | (focus (repeat (first | (with_reducible assumption) | (with_reducible exact AH.set_same _ _ _) | ((first | refine AH.get_ne ?_ ?_); (first | (with_reducible assumption) | exact Ne.symm (by with_reducible assumption))))); done))) | (apply Exists.intro; apply And.intro; first | (with_reducible assumption) | ((try simp only [List.getElem?_drop, Nat.mul_one, Nat.add_zero, Nat.zero_add]); first | (with_reducible assumption) | rfl)) | (apply Exists.intro; apply And.intro; (focus ((conv => whnf); first | (intro c hc; subst hc; exact And.intro rfl rfl)))) | (apply And.intro; (first | rfl | (with_reducible assumption) | exact Nat.le_of_ble_eq_true rfl | omega)))) <;> (try (conv => whnf))
  refine Then.mk ?_
  (obtain ⟨t4, hq_⟩ : ∃ t4, t4 = c := ⟨_, rfl⟩); subst hq_
  have ht4 : H t4 = none := by assumption
  (repeat' ((conv => whnf); first | left | refine OpsA.cons ?_ | refine OpsA.nil ?_ | refine AWq.seq ?_ | refine AWq.region ?_ | refine AWq.cond ?_ | refine AWq.block ?_ | refine AWq.skip ?_ | refine AWq.ret ?_ | refine AWq.exit ?_ | refine AWq.loop ?_ | refine DrawA.consD ?_ | refine DrawA.nil ?_ | refine AWq.draw (by decide +kernel) ?_ | (refine Both.mk ?_ ?_ <;> intro hc <;> (first | exact Bool.noConfusion hc | exact absurd (by assumption) hc | exact absurd hc (by assumption) | (exfalso; omega) | skip)) | (intro c hc; (try (simp only [AH.none_iff] at hc; repeat (have hn := hc.1; replace hc := hc.2))); (first | (have hc2 := Eq.trans hc (by with_reducible assumption); clear hc; subst hc2) | (refine i64_k hc ?_ ?_ ?_ ; omega; omega; (clear hc; intro hc; subst hc)) | skip)) | (apply Exists.intro; apply And.intro; (first | (focus (repeat (first | (with_reducible assumption) | (with_reducible exact AH.set_same _ _ _) | ((first | refine AH.get_ne ?_ ?_); (first | (with_reducible assumption) | exact Ne.symm (by with_reducible assumption))))); done))) | (apply Exists.intro; apply And.intro; first | (with_reducible assumption) | ((try simp only [List.getElem?_drop, Nat.mul_one, Nat.add_zero, Nat.zero_add]); first | (with_reducible assumption) | rfl)) | (apply Exists.intro; apply And.intro; (focus ((conv => whnf); first | (intro c hc; subst hc; exact And.intro rfl rfl)))) | (apply And.intro; (first | rfl | (with_reducible assumption) | exact Nat.le_of_ble_eq_true rfl | omega)) | (refine ACall.to (ha _) ?_))) <;> (try (conv => whnf))
  (obtain ⟨p, hq_⟩ : ∃ p, p = c := ⟨_, rfl⟩); subst hq_
  refine Then.mk (AWq.in ?_)
  refine AWp_seg [.int .i64 n, .nils, .nils] (by rw [← e1n]) rfl ?_
  obtain ⟨Z, hZ⟩ : ∃ Z, Z = H.set t4 (.row [.int .i64 0, .nils, .nils] 0) := ⟨_, rfl⟩
  have hpZ : Z p = none := by rw [hZ]; (first | assumption | (simp only [AH.none_iff]; (repeat' (first | assumption | (refine And.intro ?_ ?_)))))
  show AWp _ _ _ _ _ _ _ _ _ (AH.set (H.set t4 (.row [.int .i64 0, .nils, .nils] 0)) p _)
  rw [← hZ]
  refine AWp_grow (n : Int) hpZ fun q1 q2 g => ?_
  refine AWp.of tt_ok (dok _) rfl ?_
  (repeat' ((conv => whnf); first | refine Then.mk ?_ | left | refine OpsA.cons ?_ | refine OpsA.nil ?_ | refine AWq.seq ?_ | refine AWq.region ?_ | refine AWq.cond ?_ | refine AWq.block ?_ | refine AWq.skip ?_ | refine AWq.ret ?_ | refine AWq.exit ?_ | refine AWq.loop ?_ | refine DrawA.consD ?_ | refine DrawA.nil ?_ | refine AWq.draw (by decide +kernel) ?_ | (refine Both.mk ?_ ?_ <;> intro hc <;> (first | exact Bool.noConfusion hc | exact absurd (by assumption) hc | exact absurd hc (by assumption) | (exfalso; omega) | skip)) | (intro c hc; (try (simp only [AH.none_iff] at hc; repeat (have hn := hc.1; replace hc := hc.2))); (first | (have hc2 := Eq.trans hc (by with_reducible assumption); clear hc; subst hc2) | (refine i64_k hc ?_ ?_ ?_ ; omega; omega; (clear hc; intro hc; subst hc)) | skip)) | (apply Exists.intro; apply And.intro; (first | (focus (repeat (first | (with_reducible assumption) | (with_reducible exact AH.set_same _ _ _) | ((first | refine AH.get_ne ?_ ?_); (first | (with_reducible assumption) | exact Ne.symm (by with_reducible assumption))))); done))) | (apply Exists.intro; apply And.intro; first | (with_reducible assumption) | ((try simp only [List.getElem?_drop, Nat.mul_one, Nat.add_zero, Nat.zero_add]); first | (with_reducible assumption) | rfl)) | (apply Exists.intro; apply And.intro; (focus ((conv => whnf); first | (intro c hc; subst hc; exact And.intro rfl rfl)))) | (apply And.intro; (first | rfl | (with_reducible assumption) | exact Nat.le_of_ble_eq_true rfl | omega)) | (refine ACall.to (hlb _) ?_))) <;> (try (conv => whnf))
  have n1 := g.pa
  have n2 := g.pb
  have n3 := g.ab
  obtain ⟨fA, hA⟩ : ∃ fA : Nat → List Int, ∀ i, fA i = fnL i (tlA l) := ⟨_, fun _ => rfl⟩
  obtain ⟨fB, hB⟩ : ∃ fB : Nat → List Int, ∀ i, fB i = fnL i (tlB l n) := ⟨_, fun _ => rfl⟩
  have lA : ∀ i, (fA i).length = i := fun i => by rw [hA]; exact fnL_len _ _
  have lB : ∀ i, (fB i).length = i := fun i => by rw [hB]; exact fnL_len _ _
  have sA : ∀ i, fA (i + 1) = fA i ++ [tlA l i] := fun i => by rw [hA, hA, fnL_snoc]
  have sB : ∀ i, fB (i + 1) = fB i ++ [tlB l n i] := fun i => by rw [hB, hB, fnL_snoc]
  refine AWp_loop (σ := Nat) (7 :: 8 :: 9 :: 16 :: 17 :: 18 :: 19 :: 20 :: 21 :: 22 :: 23 :: 24 :: 25 :: 26 :: 27 :: 28 :: 29 :: 30 :: 31 :: 32 :: 33 :: 34 :: 35 :: 36 :: 37 :: 38 :: 39 :: 40 :: 41 :: 42 :: 43 :: 44 :: 45 :: 46 :: 47 :: 48 :: 49 :: 50 :: 51 :: 52 :: 53 :: 54 :: 55 :: 56 :: 57 :: 58 :: 59 :: []) (fun i => [(7, .int .i64 i)]) (fun i => grH Z p q1 q2 n (fA i) (fB (i * n))) (fun i => i ≤ 256) (fun i => 256 - i) 0 rfl (Nat.zero_le _) ⟨rfl, trivial⟩ (by rw [hA, Nat.zero_mul, hB]; exact HLe.refl _) ?_
  intro i hi
  refine AWp.of tt_ok (dok _) rfl ?_
  dsimp only at hi ⊢
  have gp := g.atp n (fA i) (fB (i * n))
  have ga := g.ata n (fA i) (fB (i * n))
  have gb := g.atb n (fA i) (fB (i * n))
  by_cases hit : i < 256
  · have st := g.stepA n (fA i) (fB (i * n)) (tlA l i)
    rw [← sA] at st
    simp only [lA, lB] at gp ga gb st
    have hq : i * n + n ≤ 256 * n := by
      have := Nat.mul_le_mul_right n (show i + 1 ≤ 256 by omega)
      rwa [Nat.add_mul, Nat.one_mul] at this
    have l1 : (iS .i64 (fA i)).length = i := by rw [iS_length, lA]
    have gx : (iS .i64 (lblV l 16 16))[(i : Int).toNat]? = some (.int .i64 (lblN l 16 i)) := by rw [← hlg i hit]; exact iS_get (by omega)
    have hxb := lblN_bd l 16 i
    have hsn := fun (k : Nat) (hk : k < n) => tlB_at l i hk
    unfold tlQ at hsn
    unfold tlA at st
    generalize hx : lblN l 16 i = x at *
    generalize hR1 : iS .i64 (fA i) = R1 at *
    generalize grH Z p q1 q2 n (fA i) (fB (i * n)) = G at *
    have hLL : (iS .i64 (lblV l 16 16)).length = 256 := by rw [iS_length]; exact lenL
    generalize iS .i64 (lblV l 16 16) = RL at *
    (repeat' ((conv => whnf); first | refine Then.mk ?_ | left | refine OpsA.cons ?_ | refine OpsA.nil ?_ | refine AWq.seq ?_ | refine AWq.region ?_ | refine AWq.cond ?_ | refine AWq.block ?_ | refine AWq.skip ?_ | refine AWq.ret ?_ | refine AWq.exit ?_ | refine AWq.loop ?_ | refine DrawA.consD ?_ | refine DrawA.nil ?_ | refine AWq.draw (by decide +kernel) ?_ | (refine Both.mk ?_ ?_ <;> intro hc <;> (first | exact Bool.noConfusion hc | exact absurd (by assumption) hc | exact absurd hc (by assumption) | (exfalso; omega) | skip)) | (intro c hc; (try (simp only [AH.none_iff] at hc; repeat (have hn := hc.1; replace hc := hc.2))); (first | (have hc2 := Eq.trans hc (by with_reducible assumption); clear hc; subst hc2) | (refine i64_k hc ?_ ?_ ?_ ; omega; omega; (clear hc; intro hc; subst hc)) | skip)) | (apply Exists.intro; apply And.intro; (first | (focus (repeat (first | (with_reducible assumption) | (with_reducible exact AH.set_same _ _ _) | ((first | refine AH.get_ne ?_ ?_); (first | (with_reducible assumption) | exact Ne.symm (by with_reducible assumption))))); done))) | (apply Exists.intro; apply And.intro; first | (with_reducible assumption) | ((try simp only [List.getElem?_drop, Nat.mul_one, Nat.add_zero, Nat.zero_add]); first | (with_reducible assumption) | rfl)) | (apply Exists.intro; apply And.intro; (focus ((conv => whnf); first | (intro c hc; subst hc; exact And.intro rfl rfl)))) | (apply And.intro; (first | rfl | (with_reducible assumption) | exact Nat.le_of_ble_eq_true rfl | omega)))) <;> (try (conv => whnf))
    refine AWp_loop (σ := Nat) (8 :: 9 :: 30 :: 31 :: 32 :: 33 :: 34 :: 35 :: 36 :: 37 :: 38 :: 39 :: 40 :: 41 :: 42 :: 43 :: 44 :: 45 :: 46 :: 47 :: 48 :: 49 :: 50 :: 51 :: 52 :: 53 :: 54 :: 55 :: 56 :: 57 :: 58 :: 59 :: []) (fun k => [(8, .int .i64 k)]) (fun k => grH Z p q1 q2 n (fA (i + 1)) (fB (i * n + k))) (fun k => k ≤ n) (fun k => n - k) 0 rfl (Nat.zero_le _) ⟨rfl, trivial⟩ st ?_
    intro k hk
    refine AWp.of tt_ok (dok _) rfl ?_
    dsimp only at hk ⊢
    clear gp ga gb st
    have gp := g.atp n (fA (i + 1)) (fB (i * n + k))
    have ga := g.ata n (fA (i + 1)) (fB (i * n + k))
    have gb := g.atb n (fA (i + 1)) (fB (i * n + k))
    have st := g.stepB n (fA (i + 1)) (fB (i * n + k)) (tlB l n (i * n + k))
    rw [← sB] at st
    simp only [lA, lB] at gp ga gb st
    have l2 : (iS .i64 (fB (i * n + k))).length = i * n + k := by rw [iS_length, lB]
    by_cases hkt : k < n
    · rw [hsn k hkt] at st
      have p1 : ∀ H, ACall Try.prog 29 [.cs (iS .i64 l) l.length, .int .i64 ((i % 7 : Nat) : Int), .int .i64 9000] H (fun y H' => y = .int .i64 (pickV l ((i % 7 : Nat) : Int) 9000) ∧ H' = H) := fun H => hp (i % 7) (by omega) 9000 (by decide) (by decide) H
      have p2 : ∀ H, ACall Try.prog 29 [.cs (iS .i64 l) l.length, .int .i64 2, .int .i64 300] H (fun y H' => y = .int .i64 (pickV l 2 300) ∧ H' = H) := fun H => hp 2 (by decide) 300 (by decide) (by decide) H
      have b1 := pickV_lt (l := l) (i := ((i % 7 : Nat) : Int)) (m := 9000) (by decide)
      have b2 := pickV_lt (l := l) (i := 2) (m := 300) (by decide)
      generalize pickV l ((i % 7 : Nat) : Int) 9000 = A1 at *
      generalize pickV l 2 300 = A2 at *
      have e7 : ((i : Int).tmod 7) = ((i % 7 : Nat) : Int) := by rw [Int.tmod_eq_emod_of_nonneg (by omega)]; omega
      have hU : i * A2 ≤ 256 * 300 := Nat.mul_le_mul (by omega) (by omega)
      have em : IntKind.i64.wrap ((i : Int) * (A2 : Int)) = ((i * A2 : Nat) : Int) := by rw [← Int.natCast_mul, IntKind.wrap_i64]; omega
      generalize i * A2 = U at *
      have e6 : ((A1 : Int) + (U : Int) + 31 * (k : Int)).tmod 65536 = (((A1 + U + 31 * k) % 65536 : Nat) : Int) := by rw [Int.tmod_eq_emod_of_nonneg (by omega)]; omega
      generalize (A1 + U + 31 * k) % 65536 = V at *
      generalize i % 7 = i7 at *
      generalize iS .i64 (fB (i * n + k)) = R2 at *
      generalize grH Z p q1 q2 n (fA (i + 1)) (fB (i * n + k)) = G at *
      generalize hQ : i * n = Q at *
      by_cases hx0 : 0 ≤ x
      · rw [if_pos hx0] at st
        (repeat' ((conv => whnf); first | refine Then.mk ?_ | left | refine OpsA.cons ?_ | refine OpsA.nil ?_ | refine AWq.seq ?_ | refine AWq.region ?_ | refine AWq.cond ?_ | refine AWq.block ?_ | refine AWq.skip ?_ | refine AWq.ret ?_ | refine AWq.exit ?_ | refine AWq.loop ?_ | refine DrawA.consD ?_ | refine DrawA.nil ?_ | refine AWq.draw (by decide +kernel) ?_ | (refine Both.mk ?_ ?_ <;> intro hc <;> (first | exact Bool.noConfusion hc | exact absurd (by assumption) hc | exact absurd hc (by assumption) | (exfalso; omega) | skip)) | (intro c hc; (try (simp only [AH.none_iff] at hc; repeat (have hn := hc.1; replace hc := hc.2))); (first | (have hc2 := Eq.trans hc (by with_reducible assumption); clear hc; subst hc2) | (refine i64_k hc ?_ ?_ ?_ ; omega; omega; (clear hc; intro hc; subst hc)) | skip)) | (apply Exists.intro; apply And.intro; (first | (focus (repeat (first | (with_reducible assumption) | (with_reducible exact AH.set_same _ _ _) | ((first | refine AH.get_ne ?_ ?_); (first | (with_reducible assumption) | exact Ne.symm (by with_reducible assumption))))); done))) | (apply Exists.intro; apply And.intro; first | (with_reducible assumption) | ((try simp only [List.getElem?_drop, Nat.mul_one, Nat.add_zero, Nat.zero_add]); first | (with_reducible assumption) | rfl)) | (apply Exists.intro; apply And.intro; (focus ((conv => whnf); first | (intro c hc; subst hc; exact And.intro rfl rfl)))) | (apply And.intro; (first | rfl | (with_reducible assumption) | exact Nat.le_of_ble_eq_true rfl | omega)) | (refine ACall.to (p1 _) ?_) | (refine ACall.to (p2 _) ?_))) <;> (try (conv => whnf))
        exact ⟨k + 1, hkt, show n - (k + 1) < n - k by omega, ⟨congrArg (AV.int .i64) (by omega), trivial⟩, st⟩
      · rw [if_neg hx0] at st
        (repeat' ((conv => whnf); first | refine Then.mk ?_ | left | refine OpsA.cons ?_ | refine OpsA.nil ?_ | refine AWq.seq ?_ | refine AWq.region ?_ | refine AWq.cond ?_ | refine AWq.block ?_ | refine AWq.skip ?_ | refine AWq.ret ?_ | refine AWq.exit ?_ | refine AWq.loop ?_ | refine DrawA.consD ?_ | refine DrawA.nil ?_ | refine AWq.draw (by decide +kernel) ?_ | (refine Both.mk ?_ ?_ <;> intro hc <;> (first | exact Bool.noConfusion hc | exact absurd (by assumption) hc | exact absurd hc (by assumption) | (exfalso; omega) | skip)) | (intro c hc; (try (simp only [AH.none_iff] at hc; repeat (have hn := hc.1; replace hc := hc.2))); (first | (have hc2 := Eq.trans hc (by with_reducible assumption); clear hc; subst hc2) | (refine i64_k hc ?_ ?_ ?_ ; omega; omega; (clear hc; intro hc; subst hc)) | skip)) | (apply Exists.intro; apply And.intro; (first | (focus (repeat (first | (with_reducible assumption) | (with_reducible exact AH.set_same _ _ _) | ((first | refine AH.get_ne ?_ ?_); (first | (with_reducible assumption) | exact Ne.symm (by with_reducible assumption))))); done))) | (apply Exists.intro; apply And.intro; first | (with_reducible assumption) | ((try simp only [List.getElem?_drop, Nat.mul_one, Nat.add_zero, Nat.zero_add]); first | (with_reducible assumption) | rfl)) | (apply Exists.intro; apply And.intro; (focus ((conv => whnf); first | (intro c hc; subst hc; exact And.intro rfl rfl)))) | (apply And.intro; (first | rfl | (with_reducible assumption) | exact Nat.le_of_ble_eq_true rfl | omega)))) <;> (try (conv => whnf))
        exact ⟨k + 1, hkt, show n - (k + 1) < n - k by omega, ⟨congrArg (AV.int .i64) (by omega), trivial⟩, st⟩
    · have hke : k = n := by omega
      subst hke
      have e2 : i * k + k = (i + 1) * k := by rw [Nat.add_mul, Nat.one_mul]
      rw [e2]
      clear gp ga gb st
      have gp := g.atp k (fA (i + 1)) (fB ((i + 1) * k))
      simp only [lA, lB] at gp
      generalize hG : grH Z p q1 q2 k (fA (i + 1)) (fB ((i + 1) * k)) = G at *
      (repeat' ((conv => whnf); first | refine Then.mk ?_ | left | refine OpsA.cons ?_ | refine OpsA.nil ?_ | refine AWq.seq ?_ | refine AWq.region ?_ | refine AWq.cond ?_ | refine AWq.block ?_ | refine AWq.skip ?_ | refine AWq.ret ?_ | refine AWq.exit ?_ | refine AWq.loop ?_ | refine DrawA.consD ?_ | refine DrawA.nil ?_ | refine AWq.draw (by decide +kernel) ?_ | (refine Both.mk ?_ ?_ <;> intro hc <;> (first | exact Bool.noConfusion hc | exact absurd (by assumption) hc | exact absurd hc (by assumption) | (exfalso; omega) | skip)) | (intro c hc; (try (simp only [AH.none_iff] at hc; repeat (have hn := hc.1; replace hc := hc.2))); (first | (have hc2 := Eq.trans hc (by with_reducible assumption); clear hc; subst hc2) | (refine i64_k hc ?_ ?_ ?_ ; omega; omega; (clear hc; intro hc; subst hc)) | skip)) | (apply Exists.intro; apply And.intro; (first | (focus (repeat (first | (with_reducible assumption) | (with_reducible exact AH.set_same _ _ _) | ((first | refine AH.get_ne ?_ ?_); (first | (with_reducible assumption) | exact Ne.symm (by with_reducible assumption))))); done))) | (apply Exists.intro; apply And.intro; first | (with_reducible assumption) | ((try simp only [List.getElem?_drop, Nat.mul_one, Nat.add_zero, Nat.zero_add]); first | (with_reducible assumption) | rfl)) | (apply Exists.intro; apply And.intro; (focus ((conv => whnf); first | (intro c hc; subst hc; exact And.intro rfl rfl)))) | (apply And.intro; (first | rfl | (with_reducible assumption) | exact Nat.le_of_ble_eq_true rfl | omega)))) <;> (try (conv => whnf))
      exact ⟨i + 1, hit, show 256 - (i + 1) < 256 - i by omega, ⟨congrArg (AV.int .i64) (by omega), trivial⟩, by rw [hG]; exact HLe.refl _⟩
  · have hie : i = 256 := by omega
    subst hie
    iterate 2 ((repeat' ((conv => whnf); first | left | refine OpsA.cons ?_ | refine OpsA.nil ?_ | refine AWq.seq ?_ | refine AWq.region ?_ | refine AWq.cond ?_ | refine AWq.block ?_ | refine AWq.skip ?_ | refine AWq.ret ?_ | refine AWq.exit ?_ | refine AWq.loop ?_ | refine DrawA.consD ?_ | refine DrawA.nil ?_ | refine AWq.draw (by decide +kernel) ?_ | (refine Both.mk ?_ ?_ <;> intro hc <;> (first | exact Bool.noConfusion hc | exact absurd (by assumption) hc | exact absurd hc (by assumption) | (exfalso; omega) | skip)) | (intro c hc; (try (simp only [AH.none_iff] at hc; repeat (have hn := hc.1; replace hc := hc.2))); (first | (have hc2 := Eq.trans hc (by with_reducible assumption); clear hc; subst hc2) | (refine i64_k hc ?_ ?_ ?_ ; omega; omega; (clear hc; intro hc; subst hc)) | skip)) | (apply Exists.intro; apply And.intro; (first | (focus (repeat (first | (with_reducible assumption) | (with_reducible exact AH.set_same _ _ _) | ((first | refine AH.get_ne ?_ ?_); (first | (with_reducible assumption) | exact Ne.symm (by with_reducible assumption))))); done))) | (apply Exists.intro; apply And.intro; first | (with_reducible assumption) | ((try simp only [List.getElem?_drop, Nat.mul_one, Nat.add_zero, Nat.zero_add]); first | (with_reducible assumption) | rfl)) | (apply Exists.intro; apply And.intro; (focus ((conv => whnf); first | (intro c hc; subst hc; exact And.intro rfl rfl)))) | (apply And.intro; (first | rfl | (with_reducible assumption) | exact Nat.le_of_ble_eq_true rfl | omega)))) <;> (try (conv => whnf)); refine Then.mk ?_)
    refine AWq.in ?_
    refine AWp_grown g n (fA 256) (fB (256 * n)) ?_
    refine AWp.of tt_ok (dok _) rfl ?_
    rw [lA, lB, hA, hB]
    unfold tV
    rw [fnL_len, fnL_len]
    clear gp ga gb
    have gp := AH.set_same Z p (.row [.int .i64 n, .cs (iS .i64 (fnL 256 (tlA l))) 256, .cs (iS .i64 (fnL (256 * n) (tlB l n))) (256 * n)] 0)
    have gt : Z t4 = some (.row [.int .i64 0, .nils, .nils] 0) := by rw [hZ]; exact AH.set_same _ _ _
    generalize iS .i64 (fnL 256 (tlA l)) = R1 at *
    generalize iS .i64 (fnL (256 * n) (tlB l n)) = R2 at *
    (repeat' ((conv => whnf); first | refine Then.mk ?_ | left | refine OpsA.cons ?_ | refine OpsA.nil ?_ | refine AWq.seq ?_ | refine AWq.region ?_ | refine AWq.cond ?_ | refine AWq.block ?_ | refine AWq.skip ?_ | refine AWq.ret ?_ | refine AWq.exit ?_ | refine AWq.loop ?_ | refine DrawA.consD ?_ | refine DrawA.nil ?_ | refine AWq.draw (by decide +kernel) ?_ | (refine Both.mk ?_ ?_ <;> intro hc <;> (first | exact Bool.noConfusion hc | exact absurd (by assumption) hc | exact absurd hc (by assumption) | (exfalso; omega) | skip)) | (intro c hc; (try (simp only [AH.none_iff] at hc; repeat (have hn := hc.1; replace hc := hc.2))); (first | (have hc2 := Eq.trans hc (by with_reducible assumption); clear hc; subst hc2) | (refine i64_k hc ?_ ?_ ?_ ; omega; omega; (clear hc; intro hc; subst hc)) | skip)) | (apply Exists.intro; apply And.intro; (first | (focus (repeat (first | (with_reducible assumption) | (with_reducible exact AH.set_same _ _ _) | ((first | refine AH.get_ne ?_ ?_); (first | (with_reducible assumption) | exact Ne.symm (by with_reducible assumption))))); done))) | (apply Exists.intro; apply And.intro; first | (with_reducible assumption) | ((try simp only [List.getElem?_drop, Nat.mul_one, Nat.add_zero, Nat.zero_add]); first | (with_reducible assumption) | rfl)) | (apply Exists.intro; apply And.intro; (focus ((conv => whnf); first | (intro c hc; subst hc; exact And.intro rfl rfl)))) | (apply And.intro; (first | rfl | (with_reducible assumption) | exact Nat.le_of_ble_eq_true rfl | omega)))) <;> (try (conv => whnf))
    all_goals (rw [hZ]; (first | ((repeat' (first | (with_reducible exact HLe.refl _) | (with_reducible assumption) | refine HLe.set_of _ _ ?_ ?_)); done)))
open Go.Fw Go

structure Tl where
  b : Int
  L : List Int
  P : List Int
def Tl.v (t : Tl) : AV := tV t.b t.L t.P
def Tl.cells (t : Tl) : List AV := [.int .i64 t.b, .cs (iS .i64 t.L) t.L.length, .cs (iS .i64 t.P) t.P.length]
def Tl.zero : Tl := ⟨0, [], []⟩
theorem zero_le : AVles [.int .i64 0, .nils, .nils] Tl.zero.cells := AVles.cons (AVle.refl _) (AVles.cons AVle.nils (AVles.cons AVle.nils AVles.nil))
open Go.Fw Go

def emL : List Int := fnL 256 fun _ => -1
def emP (n : Nat) : List Int := fnL (256 * n) fun _ => 0
theorem emL_len : emL.length = 256 := fnL_len _ _
theorem emP_len (n : Nat) : (emP n).length = 256 * n := fnL_len _ _
def emV (b : Int) : AV × Int := if 1 ≤ b ∧ b ≤ 4 then (tV b emL (emP b.toNat), 0) else (tV 0 [] [], 1)
open Go.Fw Go

theorem wrap_u64b (x : Int) : IntKind.u64.wrap x = x % 18446744073709551616 := rfl
set_option maxRecDepth 8000 in
theorem bMul64_c (n : Nat) (h : n ≤ 4294967295) (H : AH) : ACall Try.prog 109 [.int .u64 1, .int .u64 n] H (fun y H' => y = .tup [.int .u64 0, .int .u64 n] ∧ H' = H) := by
  have e0 : (2 : Int) ^ min (Int.toNat 32) IntKind.u64.bits = 4294967296 := by decide
  have e1 : (n : Int).fdiv 4294967296 = 0 := by rw [Int.fdiv_eq_ediv_of_nonneg _ (by omega)]; omega
  have e2 : bitsA .and .u64 (n : Int) 4294967295 = n := by
    show IntKind.u64.wrap ((BitVec.ofInt 64 (n : Int) &&& BitVec.ofInt 64 4294967295).toNat : Int) = _
    have ha : (BitVec.ofInt 64 (n : Int)).toNat = n := by rw [BitVec.toNat_ofInt]; omega
    have hb : (BitVec.ofInt 64 4294967295).toNat = 2 ^ 32 - 1 := by decide
    rw [BitVec.toNat_and, ha, hb, Nat.and_two_pow_sub_one_eq_mod, wrap_u64b]
    omega
  have e3 : bitsA .and .u64 1 4294967295 = 1 := by decide
  have e4 : Int.fdiv 1 4294967296 = 0 := by decide
  have e5 : IntKind.u64.wrap (n : Int) = n := by rw [wrap_u64b]; omega
  have e6 : bitsA .and .u64 0 4294967295 = 0 := by decide
  have e7 : IntKind.u64.wrap 0 = 0 := by decide
  have e8 : Int.fdiv 0 4294967296 = 0 := by decide
  refine ACall_of tt_ok (dok _) Try.func109 rfl (by decide) rfl ?_
  (repeat' ((conv => whnf); first | refine Then.mk ?_ | refine OpsA.cons ?_ | refine OpsA.nil ?_ | refine AWq.seq ?_ | refine AWq.region ?_ | refine AWq.ret ?_ | (intro c hc; (try (simp only [AH.none_iff] at hc; repeat (have hn := hc.1; replace hc := hc.2))); (first | (have hc2 := Eq.trans hc (by with_reducible assumption); clear hc; subst hc2) | (refine u64_k hc ?_ ?_ ?_ ; omega; omega; (clear hc; intro hc; subst hc)) | subst hc)) | (apply And.intro; (first | rfl | omega)))) <;> (try (conv => whnf))
  refine ⟨?_, rfl⟩
  simp only [e0, e1, e2, e3, e4, e5, e6, e7, e8, Int.zero_mul, Int.one_mul, Int.mul_zero, Int.add_zero]
set_option maxRecDepth 8000 in
theorem bMul_c (n : Nat) (h : n ≤ 4294967295) (H : AH) : ACall Try.prog 95 [.int .u64 1, .int .u64 n] H (fun y H' => y = .tup [.int .u64 0, .int .u64 n] ∧ H' = H) := by
  have hm := fun H => bMul64_c n h H
  refine ACall_of tt_ok (dok _) Try.func95 rfl (by decide) rfl ?_
  (repeat' ((conv => whnf); first | refine Then.mk ?_ | refine OpsA.cons ?_ | refine OpsA.nil ?_ | refine AWq.seq ?_ | refine AWq.region ?_ | refine AWq.cond ?_ | refine AWq.skip ?_ | refine AWq.ret ?_ | (refine Both.mk ?_ ?_ <;> intro hc <;> (first | exact Bool.noConfusion hc | skip)) | (apply And.intro; (first | rfl)) | (refine ACall.to (hm _) ?_))) <;> (try (conv => whnf))

theorem dLc {n : Nat} {f g : Nat → Int} (h : ∀ i, i < n → f i = g i) : dL n f = dL n g := congrArg (iS .i64) (fnL_congr h)
theorem dL_takeN {n m : Nat} (X : Nat → Int) (h : m ≤ n) : (dL n X).take m = dL m X := by
  apply List.ext_getElem?
  intro i
  rw [List.getElem?_take]
  by_cases hi : i < m
  · rw [if_pos hi, dL_get X (by omega), dL_get X hi]
  · rw [if_neg hi, List.getElem?_eq_none (by rw [dL_len]; omega)]
theorem dL_drop {n m : Nat} (X : Nat → Int) : (dL n X).drop m = dL (n - m) (fun k => X (m + k)) := by
  apply List.ext_getElem?
  intro i
  rw [List.getElem?_drop]
  by_cases hi : m + i < n
  · rw [dL_get X hi, dL_get _ (by omega)]
  · rw [List.getElem?_eq_none (by rw [dL_len]; omega), List.getElem?_eq_none (by rw [dL_len]; omega)]
theorem dL_app {n m : Nat} (X Y : Nat → Int) : dL n X ++ dL m Y = dL (n + m) (fun k => if k < n then X k else Y (k - n)) := by
  apply List.ext_getElem?
  intro i
  by_cases hi : i < n
  · rw [List.getElem?_append_left (by rw [dL_len]; exact hi), dL_get _ hi, dL_get _ (by omega), if_pos hi]
  · rw [List.getElem?_append_right (by rw [dL_len]; omega), dL_len]
    by_cases h2 : i < n + m
    · rw [dL_get _ (by omega), dL_get _ h2, if_neg hi]
    · rw [List.getElem?_eq_none (by rw [dL_len]; omega), List.getElem?_eq_none (by rw [dL_len]; omega)]
theorem dL_wrs {n m c : Nat} (X Y : Nat → Int) (h : c + m ≤ n) : wrA (dL n X) c (dL m Y) = dL n (fun k => if c ≤ k ∧ k < c + m then Y (k - c) else X k) := by
  unfold wrA
  rw [dL_takeN X (by omega), dL_len, dL_drop, dL_app, dL_app, show c + m + (n - (c + m)) = n by omega]
  refine dLc fun k hk => ?_
  by_cases h1 : k < c
  · rw [if_pos (by omega), if_pos h1, if_neg (by omega)]
  · by_cases h2 : k < c + m
    · rw [if_pos h2, if_neg h1, if_pos (by omega)]
    · rw [if_neg h2, if_neg (by omega)]
      congr 1; omega

set_option maxRecDepth 8000 in
theorem bRepeat_c (z : Int) (n : Nat) (h1 : 1 ≤ n) (h2 : n ≤ 1000000) (H : AH) :
    ACall Try.prog 72 [.cs [.int .i64 z] 1, .int .i64 n] H (fun y H' => ∃ q, H q = none ∧ y = .sl q 0 1 0 n none ∧ H' = H.set q (.row (dL n fun _ => z) 0)) := by
  have hm := fun H => bMul_c n (by omega) H
  refine ACall_of tt_ok (dok _) Try.func72 rfl (by decide) rfl ?_
  (repeat' ((conv => whnf); first | refine Then.mk ?_ | refine OpsA.cons ?_ | refine OpsA.nil ?_ | refine AWq.seq ?_ | refine AWq.region ?_ | refine AWq.cond ?_ | refine AWq.block ?_ | refine AWq.skip ?_ | refine AWq.ret ?_ | refine AWq.exit ?_ | refine AWq.loop ?_ | refine DrawA.consD ?_ | refine DrawA.nil ?_ | (refine Both.mk ?_ ?_ <;> intro hc <;> (first | exact Bool.noConfusion hc | (exfalso; omega) | skip)) | (intro c hc; (try (simp only [AH.none_iff] at hc; repeat (have hn := hc.1; replace hc := hc.2))); (first | (refine i64_k hc ?_ ?_ ?_ ; omega; omega; (clear hc; intro hc; subst hc)) | (refine u64_k hc ?_ ?_ ?_ ; omega; omega; (clear hc; intro hc; subst hc)) | skip)) | (apply Exists.intro; apply And.intro; (first | (focus (repeat (first | (with_reducible assumption) | (with_reducible exact AH.set_same _ _ _))); done))) | (apply And.intro; (first | rfl | (with_reducible assumption) | omega | (simp <;> fail) | (focus (repeat' (first | (with_reducible assumption) | exact one_iS _ _ | rfl | apply one_take)); done))) | (refine ACall.to (hm _) ?_))) <;> (try (conv => whnf))
  refine AWp_loop (σ := Nat) (8 :: 34 :: 35 :: 36 :: 37 :: 38 :: 39 :: 40 :: 41 :: 42 :: 43 :: 44 :: 45 :: 46 :: []) (fun m => [(8, .int .i64 m)]) (fun m => AH.set H c (.row (dL n fun k => if k < m then z else 0) 0)) (fun m => 1 ≤ m ∧ m ≤ n) (fun m => n - m) 1 rfl ?_ ?_ ?_ ?_
  · exact ⟨Nat.le_refl _, h1⟩
  · refine ⟨?_, trivial⟩
    have : Nat.min 1 n = 1 := Nat.min_eq_left h1
    show AV.int .i64 (Nat.min 1 n : Nat) = _
    rw [this]
  · refine HLe.of_eq (Eq.symm ((AH.set_set _ _ _ _).trans (congrArg (fun l => AH.set H c (.row l 0)) ?_)))
    show wrA ((List.replicate n [AV.int .i64 0]).flatten) 0 (List.take (Nat.min 1 n * 1) (dL 1 fun _ => z)) = _
    rw [show Nat.min 1 n = 1 from Nat.min_eq_left h1, dL_zero, dL_takeN _ (by omega), dL_wrs _ _ (by omega)]
    refine dLc fun k hk => ?_
    by_cases h : k < 1 <;> simp [h]
  · rintro m ⟨hm1, hm2⟩
    refine AWp.of tt_ok (dok _) rfl ?_
    have li := dL_len n (fun k => if k < m then z else 0)
    by_cases hmn : m < n
    · (repeat' ((conv => whnf); first | refine AWq.drawM ([45], []) (by decide +kernel) ?_ | refine Then.mk ?_ | refine OpsA.cons ?_ | refine OpsA.nil ?_ | refine AWq.seq ?_ | refine AWq.region ?_ | refine AWq.cond ?_ | refine AWq.block ?_ | refine AWq.skip ?_ | refine AWq.ret ?_ | refine AWq.exit ?_ | refine AWq.loop ?_ | refine DrawA.consD ?_ | refine DrawA.nil ?_ | (refine Both.mk ?_ ?_ <;> intro hc <;> (first | exact Bool.noConfusion hc | (exfalso; omega) | skip)) | (intro c hc; (try (simp only [AH.none_iff] at hc; repeat (have hn := hc.1; replace hc := hc.2))); (first | (refine i64_k hc ?_ ?_ ?_ ; omega; omega; (clear hc; intro hc; subst hc)) | (refine u64_k hc ?_ ?_ ?_ ; omega; omega; (clear hc; intro hc; subst hc)) | skip)) | (apply Exists.intro; apply And.intro; (first | (focus (repeat (first | (with_reducible assumption) | (with_reducible exact AH.set_same _ _ _))); done))) | (apply And.intro; (first | rfl | (with_reducible assumption) | omega | (simp <;> fail) | (focus (repeat' (first | (with_reducible assumption) | exact one_iS _ _ | rfl | apply one_take)); done))) | (refine ACall.to (hm _) ?_))) <;> (try (conv => whnf))
      refine ⟨.int .i64 (min m (n - m) : Nat), AH.set H c (.row (dL n fun k => if k < m + min m (n - m) then z else 0) 0), ?_, ?_⟩
      · (repeat' ((conv => whnf); first | refine Then.mk ?_ | refine OpsA.cons ?_ | refine OpsA.nil ?_ | refine AWq.seq ?_ | refine AWq.region ?_ | refine AWq.cond ?_ | refine AWq.block ?_ | refine AWq.skip ?_ | refine AWq.ret ?_ | refine AWq.exit ?_ | refine AWq.loop ?_ | refine DrawA.consD ?_ | refine DrawA.nil ?_ | (refine Both.mk ?_ ?_ <;> intro hc <;> (first | exact Bool.noConfusion hc | (exfalso; omega) | skip)) | (intro c hc; (try (simp only [AH.none_iff] at hc; repeat (have hn := hc.1; replace hc := hc.2))); (first | (refine i64_k hc ?_ ?_ ?_ ; omega; omega; (clear hc; intro hc; subst hc)) | (refine u64_k hc ?_ ?_ ?_ ; omega; omega; (clear hc; intro hc; subst hc)) | skip)) | (apply Exists.intro; apply And.intro; (first | (focus (repeat (first | (with_reducible assumption) | (with_reducible exact AH.set_same _ _ _))); done))) | (apply And.intro; (first | rfl | (with_reducible assumption) | omega | (simp <;> fail) | (focus (repeat' (first | (with_reducible assumption) | exact one_iS _ _ | rfl | apply one_take)); done))))) <;> (try (conv => whnf))
        refine (AH.set_set _ _ _ _).trans (congrArg (fun l => AH.set H c (.row l 0)) ?_)
        have e1 : Nat.min m (n - m) = min m (n - m) := rfl
        rw [Int.toNat_natCast, Int.toNat_natCast, e1, List.drop_zero, Nat.mul_one, Nat.mul_one, dL_takeN _ hm2, dL_takeN _ (by omega), Nat.zero_add, dL_wrs _ _ (by omega)]
        refine dLc fun k hk => ?_
        split <;> split <;> first | rfl | omega | (split <;> first | rfl | omega)
      · (repeat' ((conv => whnf); first | refine Then.mk ?_ | refine OpsA.cons ?_ | refine OpsA.nil ?_ | refine AWq.seq ?_ | refine AWq.region ?_ | refine AWq.cond ?_ | refine AWq.block ?_ | refine AWq.skip ?_ | refine AWq.ret ?_ | refine AWq.exit ?_ | refine AWq.loop ?_ | refine DrawA.consD ?_ | refine DrawA.nil ?_ | (refine Both.mk ?_ ?_ <;> intro hc <;> (first | exact Bool.noConfusion hc | (exfalso; omega) | skip)) | (intro c hc; (try (simp only [AH.none_iff] at hc; repeat (have hn := hc.1; replace hc := hc.2))); (first | (refine i64_k hc ?_ ?_ ?_ ; omega; omega; (clear hc; intro hc; subst hc)) | (refine u64_k hc ?_ ?_ ?_ ; omega; omega; (clear hc; intro hc; subst hc)) | skip)) | (apply Exists.intro; apply And.intro; (first | (focus (repeat (first | (with_reducible assumption) | (with_reducible exact AH.set_same _ _ _))); done))) | (apply And.intro; (first | rfl | (with_reducible assumption) | omega | (simp <;> fail) | (focus (repeat' (first | (with_reducible assumption) | exact one_iS _ _ | rfl | apply one_take)); done))))) <;> (try (conv => whnf))
        exact ⟨m + min m (n - m), by omega, by omega, ⟨congrArg (AV.int .i64) (by omega), trivial⟩, HLe.refl _⟩
    · have hme : m = n := by omega
      (repeat' ((conv => whnf); first | refine Then.mk ?_ | refine OpsA.cons ?_ | refine OpsA.nil ?_ | refine AWq.seq ?_ | refine AWq.region ?_ | refine AWq.cond ?_ | refine AWq.block ?_ | refine AWq.skip ?_ | refine AWq.ret ?_ | refine AWq.exit ?_ | refine AWq.loop ?_ | refine DrawA.consD ?_ | refine DrawA.nil ?_ | (refine Both.mk ?_ ?_ <;> intro hc <;> (first | exact Bool.noConfusion hc | (exfalso; omega) | skip)) | (intro c hc; (try (simp only [AH.none_iff] at hc; repeat (have hn := hc.1; replace hc := hc.2))); (first | (refine i64_k hc ?_ ?_ ?_ ; omega; omega; (clear hc; intro hc; subst hc)) | (refine u64_k hc ?_ ?_ ?_ ; omega; omega; (clear hc; intro hc; subst hc)) | skip)) | (apply Exists.intro; apply And.intro; (first | (focus (repeat (first | (with_reducible assumption) | (with_reducible exact AH.set_same _ _ _))); done))) | (apply And.intro; (first | rfl | (with_reducible assumption) | omega | (simp <;> fail) | (focus (repeat' (first | (with_reducible assumption) | exact one_iS _ _ | rfl | apply one_take)); done))))) <;> (try (conv => whnf))
      exact congrArg (fun l => AH.set H c (.row l 0)) (dLc fun k hk => by rw [if_pos (by omega)])

theorem repeat_k (z : Int) (n : Nat) (h1 : 1 ≤ n) (h2 : n ≤ 1000000) (H : AH) :
    ACall Try.prog 72 [.cs [.int .i64 z] 1, .int .i64 n] H (fun y H' => y = .cs (iS .i64 (fnL n fun _ => z)) n ∧ H' = H) := by
  refine ACall.cold (es := 1) (by simp) ((bRepeat_c z n h1 h2 H).mono ?_)
  rintro y H' ⟨q, hq, rfl, rfl⟩
  exact ⟨q, hq, 0, rfl, rfl⟩
open Go.Fw Go

theorem zeros_fn (n : Nat) : (List.replicate n [AV.int .i64 0]).flatten = iS .i64 (fnL n fun _ => 0) := dL_zero n
set_option maxRecDepth 8000 in
set_option maxHeartbeats 8000000 in
theorem empty_c (b : Int) (hb : J64 b) (H : AH) : ACall Try.prog 39 [.int .i64 b] H (fun z H' => z = .tup [(emV b).1, .int .i64 (emV b).2] ∧ H' = H) := by
  unfold emV
  have b0 := fun H => btw_c b 1 4 H
  unfold J64 at hb
  by_cases h1 : 1 ≤ b ∧ b ≤ 4
  · rw [if_pos h1]
    rw [decide_eq_true h1] at b0
    obtain ⟨n, rfl⟩ : ∃ n : Nat, b = n := ⟨b.toNat, by omega⟩
    rw [Int.toNat_natCast]
    have rp := fun H => repeat_k (-1) 256 (by decide) (by decide) H
    have rp : ∀ H, ACall Try.prog 72 [.cs [.int .i64 (-1)] 1, .int .i64 256] H (fun y H' => y = .cs (iS .i64 emL) 256 ∧ H' = H) := rp
    have ez : (List.replicate (256 * n) [AV.int .i64 0]).flatten = iS .i64 (emP n) := zeros_fn _
    have lP : (iS .i64 (emP n)).length = 256 * n := by rw [iS_length]; exact emP_len n
    have lL : (iS .i64 emL).length = 256 := by rw [iS_length]; exact emL_len
    unfold tV
    rw [emL_len, emP_len]
    refine ACall.back ?_
    refine ACall_of tt_ok (dok _) Try.func39 rfl (by decide) rfl ?_
    (repeat' ((conv => whnf); first | refine Then.mk ?_ | left | refine OpsA.cons ?_ | refine OpsA.nil ?_ | refine AWq.seq ?_ | refine AWq.region ?_ | refine AWq.cond ?_ | refine AWq.skip ?_ | refine AWq.ret ?_ | (refine Both.mk ?_ ?_ <;> intro hc <;> (first | exact Bool.noConfusion hc | skip)) | (intro c hc; (try (simp only [AH.none_iff] at hc; repeat (have hn := hc.1; replace hc := hc.2))); (first | (refine i64_k hc ?_ ?_ ?_ ; omega; omega; (clear hc; intro hc; subst hc)) | skip)) | (apply Exists.intro; apply And.intro; (first | (focus (repeat (first | (with_reducible assumption) | (with_reducible exact AH.set_same _ _ _))); done) | (focus (repeat (first | assumption)); done))) | (apply Exists.intro; apply And.intro; first | (with_reducible assumption) | ((try simp only [List.getElem?_drop, Nat.mul_one, Nat.add_zero, Nat.zero_add]); first | (with_reducible assumption) | assumption | rfl)) | (apply Exists.intro; apply And.intro; (focus (intro G; ((conv => whnf); (try left); (conv => whnf); first | exact And.intro rfl rfl)))) | (apply And.intro; (first | rfl | (with_reducible assumption) | exact Nat.le_of_ble_eq_true rfl | omega | assumption | (simp <;> fail))) | (refine ACall.to (b0 _) ?_))) <;> (try (conv => whnf))
    (obtain ⟨t2, hq_⟩ : ∃ t2, t2 = c := ⟨_, rfl⟩); subst hq_
    have gt := AH.set_same H t2 (.row [.int .i64 0, .nils, .nils] 0)
    refine AWq.drawK mo [(2, 0)] (fun _ => t2) (fun a b ha hb _ => by simp at ha hb; rw [ha, hb]) (by decide +kernel) ?_
    (repeat' ((conv => whnf); first | refine DrawK.consD ?_ | refine DrawK.nil ?_ | refine Then.mk ?_ | left | refine OpsA.cons ?_ | refine OpsA.nil ?_ | refine AWq.seq ?_ | refine AWq.region ?_ | refine AWq.cond ?_ | refine AWq.skip ?_ | refine AWq.ret ?_ | (refine Both.mk ?_ ?_ <;> intro hc <;> (first | exact Bool.noConfusion hc | skip)) | (intro c hc; (try (simp only [AH.none_iff] at hc; repeat (have hn := hc.1; replace hc := hc.2))); (first | (refine i64_k hc ?_ ?_ ?_ ; omega; omega; (clear hc; intro hc; subst hc)) | skip)) | (apply Exists.intro; apply And.intro; (first | (focus (repeat (first | (with_reducible assumption) | (with_reducible exact AH.set_same _ _ _))); done) | (focus (repeat (first | assumption)); done))) | (apply Exists.intro; apply And.intro; first | (with_reducible assumption) | ((try simp only [List.getElem?_drop, Nat.mul_one, Nat.add_zero, Nat.zero_add]); first | (with_reducible assumption) | assumption | rfl)) | (apply Exists.intro; apply And.intro; (focus (intro G; ((conv => whnf); (try left); (conv => whnf); first | exact And.intro rfl rfl)))) | (apply And.intro; (first | rfl | (with_reducible assumption) | exact Nat.le_of_ble_eq_true rfl | omega | assumption | (simp <;> fail))))) <;> (try (conv => whnf))
    have hc0 : H t2 = none := hc
    rw [show (256 * (n : Int)).toNat = 256 * n by omega, ez]
    refine ⟨rfl, ?_⟩
    show HLe H (AH.set (AH.set H t2 _) t2 _)
    rw [AH.set_set]; exact HLe.fresh _ hc0
  · rw [if_neg h1]
    rw [decide_eq_false h1] at b0
    refine ACall.told ?_
    refine ACall_of tt_ok (dok _) Try.func39 rfl (by decide) rfl ?_
    (repeat' ((conv => whnf); first | refine Then.mk ?_ | left | refine OpsA.cons ?_ | refine OpsA.nil ?_ | refine AWq.seq ?_ | refine AWq.region ?_ | refine AWq.cond ?_ | refine AWq.skip ?_ | refine AWq.ret ?_ | (refine Both.mk ?_ ?_ <;> intro hc <;> (first | exact Bool.noConfusion hc | skip)) | (intro c hc; (try (simp only [AH.none_iff] at hc; repeat (have hn := hc.1; replace hc := hc.2))); (first | (refine i64_k hc ?_ ?_ ?_ ; omega; omega; (clear hc; intro hc; subst hc)) | skip)) | (apply Exists.intro; apply And.intro; (first | (focus (repeat (first | (with_reducible assumption) | (with_reducible exact AH.set_same _ _ _))); done) | (focus (repeat (first | assumption)); done))) | (apply Exists.intro; apply And.intro; first | (with_reducible assumption) | ((try simp only [List.getElem?_drop, Nat.mul_one, Nat.add_zero, Nat.zero_add]); first | (with_reducible assumption) | assumption | rfl)) | (apply Exists.intro; apply And.intro; (focus (intro G; ((conv => whnf); (try left); (conv => whnf); first | exact And.intro rfl rfl)))) | (apply And.intro; (first | rfl | (with_reducible assumption) | exact Nat.le_of_ble_eq_true rfl | omega | assumption | (simp <;> fail))) | (refine ACall.to (b0 _) ?_))) <;> (try (conv => whnf))
    all_goals exact ⟨_, _, AVle.tup (AVles.cons (AVle.agg (AVles.cons (AVle.refl _) (AVles.cons AVle.nils (AVles.cons AVle.nils AVles.nil)))) (AVles.refl _)), (by (first | ((repeat' (first | (with_reducible exact HLe.refl _) | (with_reducible assumption) | refine HLe.set_of _ _ ?_ ?_)); done)) : HLe H _), rfl, rfl⟩
open Go.Fw Go

theorem row_lt {n a k : Nat} (ha : a < 256) (hk : k < n) : a * n + k < 256 * n := by
  have := Nat.mul_le_mul_right n (show a + 1 ≤ 256 by omega)
  rw [Nat.add_mul, Nat.one_mul] at this
  omega
structure Well (n : Nat) (L P : List Int) : Prop where
  l : L.length = 256
  p : P.length = 256 * n
  ok : lbOk n L P 256
open Go.Fw Go

def bandL (n : Nat) (P : List Int) (k : Nat) : List Int := fnL 256 fun i => P.getD (i * n + k) 0
theorem bandL_len (n : Nat) (P : List Int) (k : Nat) : (bandL n P k).length = 256 := fnL_len _ _
def partsT (Z : List Int) (n : Nat) (L P : List Int) (k : Nat) : List (List UInt8) := labP L :: fnL k fun j => bandP Z (bandL n P j)
def packT (Z : List Int) (n : Nat) (L P : List Int) : List UInt8 := joinP (partsT Z n L P n)
theorem partsT_len (Z : List Int) (n : Nat) (L P : List Int) (k : Nat) : (partsT Z n L P k).length = k + 1 := by unfold partsT; rw [List.length_cons, fnL_len]
theorem partsT_snoc (Z : List Int) (n : Nat) (L P : List Int) (k : Nat) : partsT Z n L P (k + 1) = partsT Z n L P k ++ [bandP Z (bandL n P k)] := by
  unfold partsT; rw [fnL_snoc]; rfl
theorem Well.lab {n : Nat} {L P : List Int} (w : Well n L P) : I64L L := fun x hx => by
  obtain ⟨i, hi, rfl⟩ := List.getElem_of_mem hx
  have := (w.ok i (by rw [← w.l]; exact hi)).1
  rw [List.getD_eq_getElem?_getD, List.getElem?_eq_getElem hi] at this
  have : -1 ≤ L[i] ∧ L[i] ≤ 4095 := this
  omega
theorem Well.band {n : Nat} {L P : List Int} (w : Well n L P) {k : Nat} (hk : k < n) : BOk (bandL n P k) := by
  refine ⟨bandL_len _ _ _, fun x hx => ?_⟩
  unfold bandL fnL at hx
  obtain ⟨i, hi, rfl⟩ := List.mem_map.1 hx
  rw [List.mem_range] at hi
  exact ((w.ok i hi).2 k hk).1
theorem bandP_len {Z : List Int} (hz : ZO Z) {a : List Int} (h : BOk a) : (bandP Z a).length ≤ 33284 := by
  have := (ints_len (sortL_ok hz h) (m := 256) (by rw [sortL_len hz]; omega) (by omega)).1
  unfold bandP
  omega
theorem parts_le {Z : List Int} (hz : ZO Z) {n : Nat} {L P : List Int} (w : Well n L P) {k : Nat} (hk : k ≤ n) : ∀ p ∈ partsT Z n L P k, p.length ≤ 90000 := fun p hp => by
  unfold partsT at hp
  rcases List.mem_cons.1 hp with rfl | hp
  · have := labP_len w.lab (by rw [w.l]; omega); omega
  · unfold fnL at hp
    obtain ⟨j, hj, rfl⟩ := List.mem_map.1 hp
    rw [List.mem_range] at hj
    have := bandP_len hz (w.band (show j < n by omega)); omega
set_option maxRecDepth 8000 in
set_option maxHeartbeats 4000000 in
theorem encode_ok {Z : List Int} (hz : ZO Z) (hzig : ∀ H, ACall Try.prog 62 [.int .i64 16] H (fun y H' => y = .tup [.cs (iS .i64 Z) 256, .int .i64 0] ∧ H' = H)) (n : Nat) (hn : 1 ≤ n ∧ n ≤ 4) (L P : List Int) (w : Well n L P) (H : AH) :
    ACall Try.prog 7 [.agg [.int .i64 n, .cs (iS .i64 L) 256, .cs (iS .i64 P) (256 * n)]] H (fun y H' => y = .tup [.cs (u8s (packT Z n L P)) (packT Z n L P).length, .int .i64 0] ∧ H' = H) := by
  have hL := w.l
  have hP := w.p
  have vc := fun H => valid_c (n : Int) L P (by unfold J64; omega) (by unfold tI; omega) (by unfold tI; omega) H
  have hv : tileE (n : Int) L P = 0 := by
    unfold tileE
    rw [if_neg (fun h => h (by unfold tForm; omega)), Int.toNat_natCast, if_pos w.ok]
  rw [hv] at vc
  unfold tV at vc
  have lc := fun H => labelPart_c L w.lab (by omega) H
  rw [hL] at vc lc
  rw [hP] at vc
  have bc := fun k (hk : k < n) H => bandPart_c hz hzig (bandL n P k) (w.band hk) H
  have hPl : (iS .i64 P).length = 256 * n := by rw [iS_length, hP]
  have jc := fun H => join_c (partsT Z n L P n) (by rw [partsT_len]; omega) (by rw [partsT_len]; omega) (parts_le hz w (Nat.le_refl _)) H
  rw [partsT_len] at jc
  unfold packT
  generalize joinP (partsT Z n L P n) = B at *
  refine ACall.back ?_
  refine ACall_of tt_ok (dok _) Try.func7 rfl (by decide) rfl ?_
  (repeat' ((conv => whnf); first | left | refine OpsA.cons ?_ | refine OpsA.nil ?_ | refine AWq.seq ?_ | refine AWq.region ?_ | refine AWq.cond ?_ | refine AWq.block ?_ | refine AWq.skip ?_ | refine AWq.ret ?_ | refine AWq.exit ?_ | refine AWq.loop ?_ | (refine Both.mk ?_ ?_ <;> intro hc <;> (first | exact Bool.noConfusion hc | exact absurd (by with_reducible rfl) hc | (exfalso; omega) | skip)) | (intro c hc; (try (simp only [AH.none_iff] at hc; repeat (have hn := hc.1; replace hc := hc.2))); (first | (have hc2 := Eq.trans hc (by with_reducible assumption); clear hc; subst hc2) | (refine i64_k hc ?_ ?_ ?_ ; omega; omega; (clear hc; intro hc; subst hc)) | skip)) | (apply Exists.intro; apply And.intro; (first | (focus (repeat (first | (with_reducible assumption))); done))) | (apply Exists.intro; apply And.intro; first | (with_reducible assumption) | ((try simp only [List.getElem?_drop, Nat.mul_one, Nat.add_zero, Nat.zero_add]); first | (with_reducible assumption) | rfl)) | (apply And.intro; (first | rfl | (with_reducible assumption) | exact Nat.le_of_ble_eq_true rfl | omega)))) <;> (try (conv => whnf))
  refine Then.mk (AWq.in ?_)
  refine AWp_freezeP 1 rfl rfl (AH.set_same _ _ _) ?_
  rw [AH.del_set _ _ _ (by assumption)]
  refine AWp.of tt_ok (dok _) rfl ?_
  iterate 3 ((repeat' ((conv => whnf); first | left | refine OpsA.cons ?_ | refine OpsA.nil ?_ | refine AWq.seq ?_ | refine AWq.region ?_ | refine AWq.cond ?_ | refine AWq.block ?_ | refine AWq.skip ?_ | refine AWq.ret ?_ | refine AWq.exit ?_ | refine AWq.loop ?_ | (refine Both.mk ?_ ?_ <;> intro hc <;> (first | exact Bool.noConfusion hc | exact absurd (by with_reducible rfl) hc | (exfalso; omega) | skip)) | (intro c hc; (try (simp only [AH.none_iff] at hc; repeat (have hn := hc.1; replace hc := hc.2))); (first | (have hc2 := Eq.trans hc (by with_reducible assumption); clear hc; subst hc2) | (refine i64_k hc ?_ ?_ ?_ ; omega; omega; (clear hc; intro hc; subst hc)) | skip)) | (apply Exists.intro; apply And.intro; (first | (focus (repeat (first | (with_reducible assumption))); done))) | (apply Exists.intro; apply And.intro; first | (with_reducible assumption) | ((try simp only [List.getElem?_drop, Nat.mul_one, Nat.add_zero, Nat.zero_add]); first | (with_reducible assumption) | rfl)) | (apply And.intro; (first | rfl | (with_reducible assumption) | exact Nat.le_of_ble_eq_true rfl | omega)) | (refine ACall.to (vc _) ?_))) <;> (try (conv => whnf)); refine Then.mk ?_)
  (repeat' ((conv => whnf); first | refine Or.inr (Or.inl ?_) | refine OpsA.cons ?_ | refine OpsA.nil ?_ | refine AWq.seq ?_ | refine AWq.region ?_ | refine AWq.cond ?_ | refine AWq.block ?_ | refine AWq.skip ?_ | refine AWq.ret ?_ | refine AWq.exit ?_ | refine AWq.loop ?_ | (refine Both.mk ?_ ?_ <;> intro hc <;> (first | exact Bool.noConfusion hc | exact absurd (by with_reducible rfl) hc | (exfalso; omega) | skip)) | (intro c hc; (try (simp only [AH.none_iff] at hc; repeat (have hn := hc.1; replace hc := hc.2))); (first | (have hc2 := Eq.trans hc (by with_reducible assumption); clear hc; subst hc2) | (refine i64_k hc ?_ ?_ ?_ ; omega; omega; (clear hc; intro hc; subst hc)) | skip)) | (apply Exists.intro; apply And.intro; (first | (focus (repeat (first | (with_reducible assumption))); done))) | (apply Exists.intro; apply And.intro; first | (with_reducible assumption) | ((try simp only [List.getElem?_drop, Nat.mul_one, Nat.add_zero, Nat.zero_add]); first | (with_reducible assumption) | rfl)) | (apply And.intro; (first | rfl | (with_reducible assumption) | exact Nat.le_of_ble_eq_true rfl | omega)) | (refine ACall.to (lc _) ?_))) <;> (try (conv => whnf))
  (obtain ⟨q5, hq_⟩ : ∃ q5, q5 = c := ⟨_, rfl⟩); subst hq_
  have hq5 : H q5 = none := hc
  refine Then.mk ?_
  (repeat' ((conv => whnf); first | refine Then.mk ?_ | left | refine OpsA.cons ?_ | refine OpsA.nil ?_ | refine AWq.seq ?_ | refine AWq.region ?_ | refine AWq.cond ?_ | refine AWq.block ?_ | refine AWq.skip ?_ | refine AWq.ret ?_ | refine AWq.exit ?_ | refine AWq.loop ?_ | (refine Both.mk ?_ ?_ <;> intro hc <;> (first | exact Bool.noConfusion hc | exact absurd (by with_reducible rfl) hc | (exfalso; omega) | skip)) | (intro c hc; (try (simp only [AH.none_iff] at hc; repeat (have hn := hc.1; replace hc := hc.2))); (first | (have hc2 := Eq.trans hc (by with_reducible assumption); clear hc; subst hc2) | (refine i64_k hc ?_ ?_ ?_ ; omega; omega; (clear hc; intro hc; subst hc)) | skip)) | (apply Exists.intro; apply And.intro; (first | (focus (repeat (first | (with_reducible assumption))); done))) | (apply Exists.intro; apply And.intro; first | (with_reducible assumption) | ((try simp only [List.getElem?_drop, Nat.mul_one, Nat.add_zero, Nat.zero_add]); first | (with_reducible assumption) | rfl)) | (apply And.intro; (first | rfl | (with_reducible assumption) | exact Nat.le_of_ble_eq_true rfl | omega)))) <;> (try (conv => whnf))
  refine AWp_loop (σ := Nat) (5 :: 6 :: 7 :: 8 :: 20 :: 21 :: 22 :: 23 :: 24 :: 25 :: 26 :: 27 :: 28 :: 29 :: 30 :: 31 :: 32 :: 33 :: 34 :: 35 :: 36 :: 37 :: 38 :: 39 :: 40 :: 41 :: 42 :: 43 :: 44 :: 45 :: []) (fun k => [(20, .int .i64 k), (5, .sl q5 k 1 0 (k + 1) none)]) (fun k => H.set q5 (.row (pvL (partsT Z n L P k)) k)) (fun k => k ≤ n) (fun k => n - k) 0 rfl (Nat.zero_le _) ⟨rfl, rfl, trivial⟩ (HLe.refl _) ?_
  intro k hk
  refine AWp.of tt_ok (dok _) rfl ?_
  dsimp only at hk ⊢
  have gq := AH.set_same H q5 (.row (pvL (partsT Z n L P k)) k)
  have lq : (pvL (partsT Z n L P k)).length = k + 1 := by rw [pvL_len, partsT_len]
  by_cases hkt : k < n
  · have hps := pvL_snoc (partsT Z n L P k) (bandP Z (bandL n P k))
    rw [← partsT_snoc] at hps
    have bc := bc k hkt
    have hbl := bandL_len n P k
    generalize hG : AH.set H q5 (.row (pvL (partsT Z n L P k)) k) = G at *
    generalize hRP : pvL (partsT Z n L P k) = RP at *
    (repeat' ((conv => whnf); first | left | refine OpsA.cons ?_ | refine OpsA.nil ?_ | refine AWq.seq ?_ | refine AWq.region ?_ | refine AWq.cond ?_ | refine AWq.block ?_ | refine AWq.skip ?_ | refine AWq.ret ?_ | refine AWq.exit ?_ | refine AWq.loop ?_ | (refine Both.mk ?_ ?_ <;> intro hc <;> (first | exact Bool.noConfusion hc | exact absurd (by with_reducible rfl) hc | (exfalso; omega) | skip)) | (intro c hc; (try (simp only [AH.none_iff] at hc; repeat (have hn := hc.1; replace hc := hc.2))); (first | (have hc2 := Eq.trans hc (by with_reducible assumption); clear hc; subst hc2) | (refine i64_k hc ?_ ?_ ?_ ; omega; omega; (clear hc; intro hc; subst hc)) | skip)) | (apply Exists.intro; apply And.intro; (first | (focus (repeat (first | (with_reducible assumption))); done))) | (apply Exists.intro; apply And.intro; first | (with_reducible assumption) | ((try simp only [List.getElem?_drop, Nat.mul_one, Nat.add_zero, Nat.zero_add]); first | (with_reducible assumption) | rfl)) | (apply And.intro; (first | rfl | (with_reducible assumption) | exact Nat.le_of_ble_eq_true rfl | omega)))) <;> (try (conv => whnf))
    refine Then.mk ?_
    (repeat' ((conv => whnf); first | left | refine OpsA.cons ?_ | refine OpsA.nil ?_ | refine AWq.seq ?_ | refine AWq.region ?_ | refine AWq.cond ?_ | refine AWq.block ?_ | refine AWq.skip ?_ | refine AWq.ret ?_ | refine AWq.exit ?_ | refine AWq.loop ?_ | (refine Both.mk ?_ ?_ <;> intro hc <;> (first | exact Bool.noConfusion hc | exact absurd (by with_reducible rfl) hc | (exfalso; omega) | skip)) | (intro c hc; (try (simp only [AH.none_iff] at hc; repeat (have hn := hc.1; replace hc := hc.2))); (first | (have hc2 := Eq.trans hc (by with_reducible assumption); clear hc; subst hc2) | (refine i64_k hc ?_ ?_ ?_ ; omega; omega; (clear hc; intro hc; subst hc)) | skip)) | (apply Exists.intro; apply And.intro; (first | (focus (repeat (first | (with_reducible assumption))); done))) | (apply Exists.intro; apply And.intro; first | (with_reducible assumption) | ((try simp only [List.getElem?_drop, Nat.mul_one, Nat.add_zero, Nat.zero_add]); first | (with_reducible assumption) | rfl)) | (apply And.intro; (first | rfl | (with_reducible assumption) | exact Nat.le_of_ble_eq_true rfl | omega)))) <;> (try (conv => whnf))
    refine Then.mk ?_
    (repeat' ((conv => whnf); first | left | refine OpsA.cons ?_ | refine OpsA.nil ?_ | refine AWq.seq ?_ | refine AWq.region ?_ | refine AWq.cond ?_ | refine AWq.block ?_ | refine AWq.skip ?_ | refine AWq.ret ?_ | refine AWq.exit ?_ | refine AWq.loop ?_ | (refine Both.mk ?_ ?_ <;> intro hc <;> (first | exact Bool.noConfusion hc | exact absurd (by with_reducible rfl) hc | (exfalso; omega) | skip)) | (intro c hc; (try (simp only [AH.none_iff] at hc; repeat (have hn := hc.1; replace hc := hc.2))); (first | (have hc2 := Eq.trans hc (by with_reducible assumption); clear hc; subst hc2) | (refine i64_k hc ?_ ?_ ?_ ; omega; omega; (clear hc; intro hc; subst hc)) | skip)) | (apply Exists.intro; apply And.intro; (first | (focus (repeat (first | (with_reducible assumption))); done))) | (apply Exists.intro; apply And.intro; first | (with_reducible assumption) | ((try simp only [List.getElem?_drop, Nat.mul_one, Nat.add_zero, Nat.zero_add]); first | (with_reducible assumption) | rfl)) | (apply And.intro; (first | rfl | (with_reducible assumption) | exact Nat.le_of_ble_eq_true rfl | omega)))) <;> (try (conv => whnf))
    refine Then.mk ?_
    (repeat' ((conv => whnf); first | left | refine OpsA.cons ?_ | refine OpsA.nil ?_ | refine AWq.seq ?_ | refine AWq.region ?_ | refine AWq.cond ?_ | refine AWq.block ?_ | refine AWq.skip ?_ | refine AWq.ret ?_ | refine AWq.exit ?_ | refine AWq.loop ?_ | (refine Both.mk ?_ ?_ <;> intro hc <;> (first | exact Bool.noConfusion hc | exact absurd (by with_reducible rfl) hc | (exfalso; omega) | skip)) | (intro c hc; (try (simp only [AH.none_iff] at hc; repeat (have hn := hc.1; replace hc := hc.2))); (first | (have hc2 := Eq.trans hc (by with_reducible assumption); clear hc; subst hc2) | (refine i64_k hc ?_ ?_ ?_ ; omega; omega; (clear hc; intro hc; subst hc)) | skip)) | (apply Exists.intro; apply And.intro; (first | (focus (repeat (first | (with_reducible assumption))); done))) | (apply Exists.intro; apply And.intro; first | (with_reducible assumption) | ((try simp only [List.getElem?_drop, Nat.mul_one, Nat.add_zero, Nat.zero_add]); first | (with_reducible assumption) | rfl)) | (apply And.intro; (first | rfl | (with_reducible assumption) | exact Nat.le_of_ble_eq_true rfl | omega)))) <;> (try (conv => whnf))
    refine Then.mk (AWq.in ?_)
    refine AWp_nilrow1 7 1 rfl rfl fun q7 hq7 => ?_
    refine AWp.of tt_ok (dok _) rfl ?_
    have n75 : q7 ≠ q5 := fun h => by rw [h, gq] at hq7; cases hq7
    (repeat' ((conv => whnf); first | refine Then.mk ?_ | left | refine OpsA.cons ?_ | refine OpsA.nil ?_ | refine AWq.seq ?_ | refine AWq.region ?_ | refine AWq.cond ?_ | refine AWq.block ?_ | refine AWq.skip ?_ | refine AWq.ret ?_ | refine AWq.exit ?_ | refine AWq.loop ?_ | (refine Both.mk ?_ ?_ <;> intro hc <;> (first | exact Bool.noConfusion hc | exact absurd (by with_reducible rfl) hc | (exfalso; omega) | skip)) | (intro c hc; (try (simp only [AH.none_iff] at hc; repeat (have hn := hc.1; replace hc := hc.2))); (first | (have hc2 := Eq.trans hc (by with_reducible assumption); clear hc; subst hc2) | (refine i64_k hc ?_ ?_ ?_ ; omega; omega; (clear hc; intro hc; subst hc)) | skip)) | (apply Exists.intro; apply And.intro; (first | (focus (repeat (first | (with_reducible assumption))); done))) | (apply Exists.intro; apply And.intro; first | (with_reducible assumption) | ((try simp only [List.getElem?_drop, Nat.mul_one, Nat.add_zero, Nat.zero_add]); first | (with_reducible assumption) | rfl)) | (apply And.intro; (first | rfl | (with_reducible assumption) | exact Nat.le_of_ble_eq_true rfl | omega)))) <;> (try (conv => whnf))
    refine AWp_loop (σ := Nat) (7 :: 8 :: 23 :: 24 :: 25 :: 26 :: 27 :: 28 :: 29 :: 30 :: 31 :: 32 :: 33 :: 34 :: 35 :: 36 :: 37 :: 38 :: 39 :: []) (fun i => [(23, .int .i64 i), (7, .sl q7 i 1 0 i none)]) (fun i => G.set q7 (.row (iS .i64 ((bandL n P k).take i)) i)) (fun i => i ≤ 256) (fun i => 256 - i) 0 rfl (Nat.zero_le _) ⟨rfl, rfl, trivial⟩ (HLe.refl _) ?_
    intro i hi
    refine AWp.of tt_ok (dok _) rfl ?_
    dsimp only at hi ⊢
    have g7 := AH.set_same G q7 (.row (iS .i64 ((bandL n P k).take i)) i)
    have l7 : (iS .i64 ((bandL n P k).take i)).length = i := by rw [iS_length, List.length_take]; omega
    by_cases hit : i < 256
    · have hin := row_lt (n := n) hit hkt
      have gp : (iS .i64 P)[i * n + k]? = some (.int .i64 (P.getD (i * n + k) 0)) := iS_get (by omega)
      have hbi : (bandL n P k).getD i 0 = P.getD (i * n + k) 0 := getD_fnL _ hit
      rw [← hbi] at gp
      have w1 : IntKind.i64.wrap ((i : Int) * (n : Int)) = ((i * n : Nat) : Int) := by
        rw [← Int.natCast_mul, IntKind.wrap_i64]; omega
      have ht : iS .i64 ((bandL n P k).take (i + 1)) = iS .i64 ((bandL n P k).take i) ++ [.int .i64 ((bandL n P k).getD i 0)] := by
        rw [take_snoc (x := (bandL n P k).getD i 0) (by rw [List.getD_eq_getElem?_getD, List.getElem?_eq_getElem (by omega)]; rfl), ← iS_snoc]
      generalize (bandL n P k).getD i 0 = v at *
      generalize iS .i64 ((bandL n P k).take i) = R7 at *
      generalize i * n = Q at *
      have w2 : IntKind.i64.wrap ((Q : Int) + k) = (Q : Int) + k := by rw [IntKind.wrap_i64]; omega
      have gp : (iS .i64 P)[((Q : Int) + k).toNat]? = some (.int .i64 v) := by rw [show ((Q : Int) + k).toNat = Q + k by omega]; exact gp
      (repeat' ((conv => whnf); first | refine Then.mk ?_ | left | refine OpsA.cons ?_ | refine OpsA.nil ?_ | refine AWq.seq ?_ | refine AWq.region ?_ | refine AWq.cond ?_ | refine AWq.block ?_ | refine AWq.skip ?_ | refine AWq.ret ?_ | refine AWq.exit ?_ | refine AWq.loop ?_ | (refine Both.mk ?_ ?_ <;> intro hc <;> (first | exact Bool.noConfusion hc | exact absurd (by with_reducible rfl) hc | (exfalso; omega) | skip)) | (intro c hc; (try (simp only [AH.none_iff] at hc; repeat (have hn := hc.1; replace hc := hc.2))); (first | (have hc2 := Eq.trans hc (by with_reducible assumption); clear hc; subst hc2) | (refine i64_k hc ?_ ?_ ?_ ; omega; omega; (clear hc; intro hc; subst hc)) | skip)) | (apply Exists.intro; apply And.intro; (first | (focus (repeat (first | (with_reducible assumption))); done))) | (apply Exists.intro; apply And.intro; first | (with_reducible assumption) | ((try simp only [List.getElem?_drop, Nat.mul_one, Nat.add_zero, Nat.zero_add]); first | (with_reducible assumption) | rfl)) | (apply And.intro; (first | rfl | (with_reducible assumption) | exact Nat.le_of_ble_eq_true rfl | omega)))) <;> (try (conv => whnf))
      exact ⟨i + 1, hit, by omega, ⟨congrArg (AV.int .i64) (by omega), rfl, trivial⟩, HLe.of_eq (by rw [ht, AH.set_set])⟩
    · have hie : i = 256 := by omega
      subst hie
      rw [show (bandL n P k).take 256 = bandL n P k from List.take_of_length_le (by omega)] at g7 l7 ⊢
      (repeat' ((conv => whnf); first | left | refine OpsA.cons ?_ | refine OpsA.nil ?_ | refine AWq.seq ?_ | refine AWq.region ?_ | refine AWq.cond ?_ | refine AWq.block ?_ | refine AWq.skip ?_ | refine AWq.ret ?_ | refine AWq.exit ?_ | refine AWq.loop ?_ | (refine Both.mk ?_ ?_ <;> intro hc <;> (first | exact Bool.noConfusion hc | exact absurd (by with_reducible rfl) hc | (exfalso; omega) | skip)) | (intro c hc; (try (simp only [AH.none_iff] at hc; repeat (have hn := hc.1; replace hc := hc.2))); (first | (have hc2 := Eq.trans hc (by with_reducible assumption); clear hc; subst hc2) | (refine i64_k hc ?_ ?_ ?_ ; omega; omega; (clear hc; intro hc; subst hc)) | skip)) | (apply Exists.intro; apply And.intro; (first | (focus (repeat (first | (with_reducible assumption))); done))) | (apply Exists.intro; apply And.intro; first | (with_reducible assumption) | ((try simp only [List.getElem?_drop, Nat.mul_one, Nat.add_zero, Nat.zero_add]); first | (with_reducible assumption) | rfl)) | (apply And.intro; (first | rfl | (with_reducible assumption) | exact Nat.le_of_ble_eq_true rfl | omega)))) <;> (try (conv => whnf))
      refine Then.mk ?_
      (repeat' ((conv => whnf); first | left | refine OpsA.cons ?_ | refine OpsA.nil ?_ | refine AWq.seq ?_ | refine AWq.region ?_ | refine AWq.cond ?_ | refine AWq.block ?_ | refine AWq.skip ?_ | refine AWq.ret ?_ | refine AWq.exit ?_ | refine AWq.loop ?_ | (refine Both.mk ?_ ?_ <;> intro hc <;> (first | exact Bool.noConfusion hc | exact absurd (by with_reducible rfl) hc | (exfalso; omega) | skip)) | (intro c hc; (try (simp only [AH.none_iff] at hc; repeat (have hn := hc.1; replace hc := hc.2))); (first | (have hc2 := Eq.trans hc (by with_reducible assumption); clear hc; subst hc2) | (refine i64_k hc ?_ ?_ ?_ ; omega; omega; (clear hc; intro hc; subst hc)) | skip)) | (apply Exists.intro; apply And.intro; (first | (focus (repeat (first | (with_reducible assumption))); done))) | (apply Exists.intro; apply And.intro; first | (with_reducible assumption) | ((try simp only [List.getElem?_drop, Nat.mul_one, Nat.add_zero, Nat.zero_add]); first | (with_reducible assumption) | rfl)) | (apply And.intro; (first | rfl | (with_reducible assumption) | exact Nat.le_of_ble_eq_true rfl | omega)))) <;> (try (conv => whnf))
      refine Then.mk (AWq.in ?_)
      refine AWp_freeze1 7 rfl rfl g7 (by omega) ?_
      rw [AH.del_set _ _ _ hq7]
      refine AWp.of tt_ok (dok _) rfl ?_
      have hone : ∀ p : List UInt8, one (.cs (u8s p) p.length) = true := fun p => rfl
      (repeat' ((conv => whnf); first | refine Then.mk ?_ | left | refine OpsA.cons ?_ | refine OpsA.nil ?_ | refine AWq.seq ?_ | refine AWq.region ?_ | refine AWq.cond ?_ | refine AWq.block ?_ | refine AWq.skip ?_ | refine AWq.ret ?_ | refine AWq.exit ?_ | refine AWq.loop ?_ | (refine Both.mk ?_ ?_ <;> intro hc <;> (first | exact Bool.noConfusion hc | exact absurd (by with_reducible rfl) hc | (exfalso; omega) | skip)) | (intro c hc; (try (simp only [AH.none_iff] at hc; repeat (have hn := hc.1; replace hc := hc.2))); (first | (have hc2 := Eq.trans hc (by with_reducible assumption); clear hc; subst hc2) | (refine i64_k hc ?_ ?_ ?_ ; omega; omega; (clear hc; intro hc; subst hc)) | skip)) | (apply Exists.intro; apply And.intro; (first | (focus (repeat (first | (with_reducible assumption))); done))) | (apply Exists.intro; apply And.intro; first | (with_reducible assumption) | ((try simp only [List.getElem?_drop, Nat.mul_one, Nat.add_zero, Nat.zero_add]); first | (with_reducible assumption) | rfl)) | (apply And.intro; (first | rfl | (with_reducible assumption) | exact Nat.le_of_ble_eq_true rfl | omega)) | (refine ACall.to (bc _) ?_))) <;> (try (conv => whnf))
      exact ⟨k + 1, hkt, by omega, ⟨congrArg (AV.int .i64) (by omega), rfl, trivial⟩, HLe.of_eq (by rw [← hG, AH.set_set, hps])⟩
  · have hke : k = n := by omega
    subst hke
    (repeat' ((conv => whnf); first | left | refine OpsA.cons ?_ | refine OpsA.nil ?_ | refine AWq.seq ?_ | refine AWq.region ?_ | refine AWq.cond ?_ | refine AWq.block ?_ | refine AWq.skip ?_ | refine AWq.ret ?_ | refine AWq.exit ?_ | refine AWq.loop ?_ | (refine Both.mk ?_ ?_ <;> intro hc <;> (first | exact Bool.noConfusion hc | exact absurd (by with_reducible rfl) hc | (exfalso; omega) | skip)) | (intro c hc; (try (simp only [AH.none_iff] at hc; repeat (have hn := hc.1; replace hc := hc.2))); (first | (have hc2 := Eq.trans hc (by with_reducible assumption); clear hc; subst hc2) | (refine i64_k hc ?_ ?_ ?_ ; omega; omega; (clear hc; intro hc; subst hc)) | skip)) | (apply Exists.intro; apply And.intro; (first | (focus (repeat (first | (with_reducible assumption))); done))) | (apply Exists.intro; apply And.intro; first | (with_reducible assumption) | ((try simp only [List.getElem?_drop, Nat.mul_one, Nat.add_zero, Nat.zero_add]); first | (with_reducible assumption) | rfl)) | (apply And.intro; (first | rfl | (with_reducible assumption) | exact Nat.le_of_ble_eq_true rfl | omega)))) <;> (try (conv => whnf))
    refine Then.mk ?_
    (repeat' ((conv => whnf); first | left | refine OpsA.cons ?_ | refine OpsA.nil ?_ | refine AWq.seq ?_ | refine AWq.region ?_ | refine AWq.cond ?_ | refine AWq.block ?_ | refine AWq.skip ?_ | refine AWq.ret ?_ | refine AWq.exit ?_ | refine AWq.loop ?_ | (refine Both.mk ?_ ?_ <;> intro hc <;> (first | exact Bool.noConfusion hc | exact absurd (by with_reducible rfl) hc | (exfalso; omega) | skip)) | (intro c hc; (try (simp only [AH.none_iff] at hc; repeat (have hn := hc.1; replace hc := hc.2))); (first | (have hc2 := Eq.trans hc (by with_reducible assumption); clear hc; subst hc2) | (refine i64_k hc ?_ ?_ ?_ ; omega; omega; (clear hc; intro hc; subst hc)) | skip)) | (apply Exists.intro; apply And.intro; (first | (focus (repeat (first | (with_reducible assumption))); done))) | (apply Exists.intro; apply And.intro; first | (with_reducible assumption) | ((try simp only [List.getElem?_drop, Nat.mul_one, Nat.add_zero, Nat.zero_add]); first | (with_reducible assumption) | rfl)) | (apply And.intro; (first | rfl | (with_reducible assumption) | exact Nat.le_of_ble_eq_true rfl | omega)))) <;> (try (conv => whnf))
    refine Then.mk (AWq.in ?_)
    refine AWp_freeze1 5 rfl rfl gq (by omega) ?_
    rw [AH.del_set _ _ _ hq5]
    refine AWp.of tt_ok (dok _) rfl ?_
    (repeat' ((conv => whnf); first | refine Then.mk ?_ | left | refine OpsA.cons ?_ | refine OpsA.nil ?_ | refine AWq.seq ?_ | refine AWq.region ?_ | refine AWq.cond ?_ | refine AWq.block ?_ | refine AWq.skip ?_ | refine AWq.ret ?_ | refine AWq.exit ?_ | refine AWq.loop ?_ | (refine Both.mk ?_ ?_ <;> intro hc <;> (first | exact Bool.noConfusion hc | exact absurd (by with_reducible rfl) hc | (exfalso; omega) | skip)) | (intro c hc; (try (simp only [AH.none_iff] at hc; repeat (have hn := hc.1; replace hc := hc.2))); (first | (have hc2 := Eq.trans hc (by with_reducible assumption); clear hc; subst hc2) | (refine i64_k hc ?_ ?_ ?_ ; omega; omega; (clear hc; intro hc; subst hc)) | skip)) | (apply Exists.intro; apply And.intro; (first | (focus (repeat (first | (with_reducible assumption))); done))) | (apply Exists.intro; apply And.intro; first | (with_reducible assumption) | ((try simp only [List.getElem?_drop, Nat.mul_one, Nat.add_zero, Nat.zero_add]); first | (with_reducible assumption) | rfl)) | (apply And.intro; (first | rfl | (with_reducible assumption) | exact Nat.le_of_ble_eq_true rfl | omega)) | (refine ACall.to (jc _) ?_))) <;> (try (conv => whnf))
    exact HLe.refl _
open Go.Fw Go

theorem joinP_len {ps : List (List UInt8)} (h2 : ps.length ≤ 9) (hp : ∀ p ∈ ps, p.length ≤ 90000) : (joinP ps).length ≤ 820000 := by
  have hn10 := encI_len (n := (ps.length : Int) - 1) (by unfold I64; omega)
  have h3 := encRs_len (m := 90000) hp (by decide)
  have h4 := Nat.le_trans h3 (Nat.mul_le_mul_right (90000 + 10) h2)
  unfold joinP
  rw [List.length_append]
  have : 9 * (90000 + 10) = 810090 := rfl
  omega
theorem encRs_drop {ps : List (List UInt8)} {i : Nat} {p : List UInt8} (h : ps[i]? = some p) : encRs (ps.drop i) = encR p ++ encRs (ps.drop (i + 1)) := by
  have hi : i < ps.length := by
    by_cases hi : i < ps.length
    · exact hi
    · rw [List.getElem?_eq_none (by omega)] at h; cases h
  rw [List.drop_eq_getElem_cons hi]
  rw [List.getElem?_eq_getElem hi] at h
  rw [Option.some.inj h]; rfl
set_option maxRecDepth 8000 in
set_option maxHeartbeats 4000000 in
theorem split_ok (ps : List (List UInt8)) (h1 : 2 ≤ ps.length) (h2 : ps.length ≤ 5) (hp : ∀ p ∈ ps, p.length ≤ 90000) (H : AH) :
    ACall Try.prog 49 [.cs (u8s (joinP ps)) (joinP ps).length] H (fun y H' => y = .tup [.cs (pvL ps) ps.length, .int .i64 0] ∧ H' = H) := by
  have jc := fun H => join_c ps (by omega) (by omega) hp H
  have hjl := joinP_len (by omega) hp
  have hbl : (u8s (joinP ps)).length = (joinP ps).length := by simp
  have hpl := pvL_len ps
  have rI := rdI_enc (n := (ps.length : Int) - 1) (by unfold I64; omega) (encRs ps)
  have hJ : joinP ps = encI ((ps.length : Int) - 1) ++ encRs ps := rfl
  have hlr : (encRs ps).length ≤ 820000 := by rw [hJ, List.length_append] at hjl; omega
  rw [← hJ] at rI
  refine ACall.back ?_
  refine ACall_of tt_ok (dok _) Try.func49 rfl (by decide) rfl ?_
  (repeat' ((conv => whnf); first | left | refine OpsA.cons ?_ | refine OpsA.nil ?_ | refine AWq.seq ?_ | refine AWq.region ?_ | refine AWq.cond ?_ | refine AWq.block ?_ | refine AWq.skip ?_ | refine AWq.ret ?_ | refine AWq.exit ?_ | refine AWq.loop ?_ | refine DrawA.consD ?_ | refine DrawA.nil ?_ | refine AWq.draw (by decide +kernel) ?_ | (refine Both.mk ?_ ?_ <;> intro hc <;> (first | exact Bool.noConfusion hc | exact absurd (by with_reducible rfl) hc | (exfalso; omega) | skip)) | (intro c hc; (try (simp only [AH.none_iff] at hc; repeat (have hn := hc.1; replace hc := hc.2))); (first | (refine i64_k hc ?_ ?_ ?_ ; omega; omega; (clear hc; intro hc; subst hc)) | skip)) | (apply Exists.intro; apply And.intro; (first | (focus (repeat (first | (with_reducible assumption))); done))) | (apply Exists.intro; apply And.intro; first | (with_reducible assumption) | ((try simp only [List.getElem?_drop, Nat.mul_one, Nat.add_zero, Nat.zero_add]); first | (with_reducible assumption) | rfl)) | (apply And.intro; (first | rfl | (with_reducible assumption) | omega)))) <;> (try (conv => whnf))
  refine Then.mk ?_
  (repeat' ((conv => whnf); first | left | refine OpsA.cons ?_ | refine OpsA.nil ?_ | refine AWq.seq ?_ | refine AWq.region ?_ | refine AWq.cond ?_ | refine AWq.block ?_ | refine AWq.skip ?_ | refine AWq.ret ?_ | refine AWq.exit ?_ | refine AWq.loop ?_ | refine DrawA.consD ?_ | refine DrawA.nil ?_ | refine AWq.draw (by decide +kernel) ?_ | (refine Both.mk ?_ ?_ <;> intro hc <;> (first | exact Bool.noConfusion hc | exact absurd (by with_reducible rfl) hc | (exfalso; omega) | skip)) | (intro c hc; (try (simp only [AH.none_iff] at hc; repeat (have hn := hc.1; replace hc := hc.2))); (first | (refine i64_k hc ?_ ?_ ?_ ; omega; omega; (clear hc; intro hc; subst hc)) | skip)) | (apply Exists.intro; apply And.intro; (first | (focus (repeat (first | (with_reducible assumption))); done))) | (apply Exists.intro; apply And.intro; first | (with_reducible assumption) | ((try simp only [List.getElem?_drop, Nat.mul_one, Nat.add_zero, Nat.zero_add]); first | (with_reducible assumption) | rfl)) | (apply And.intro; (first | rfl | (with_reducible assumption) | omega)))) <;> (try (conv => whnf))
  refine (Read_c (joinP ps) (by omega) H).mono ?_
  rintro y H' ⟨p, hpn, rfl, rfl⟩
  have ri := rInt_ok p (by omega) rI H
  have hle : ∀ b, HLe H (RdH H p 0 b) := fun b => HLe.set_of _ _ (HLe.refl _) hpn
  generalize hG0 : RdH H p 0 (joinP ps) = G0 at *
  generalize hG1 : RdH H p 0 (encRs ps) = G1 at *
  iterate 4 ((repeat' ((conv => whnf); first | left | refine OpsA.cons ?_ | refine OpsA.nil ?_ | refine AWq.seq ?_ | refine AWq.region ?_ | refine AWq.cond ?_ | refine AWq.block ?_ | refine AWq.skip ?_ | refine AWq.ret ?_ | refine AWq.exit ?_ | refine AWq.loop ?_ | refine DrawA.consD ?_ | refine DrawA.nil ?_ | refine AWq.draw (by decide +kernel) ?_ | (refine Both.mk ?_ ?_ <;> intro hc <;> (first | exact Bool.noConfusion hc | exact absurd (by with_reducible rfl) hc | (exfalso; omega) | skip)) | (intro c hc; (try (simp only [AH.none_iff] at hc; repeat (have hn := hc.1; replace hc := hc.2))); (first | (refine i64_k hc ?_ ?_ ?_ ; omega; omega; (clear hc; intro hc; subst hc)) | skip)) | (apply Exists.intro; apply And.intro; (first | (focus (repeat (first | (with_reducible assumption))); done))) | (apply Exists.intro; apply And.intro; first | (with_reducible assumption) | ((try simp only [List.getElem?_drop, Nat.mul_one, Nat.add_zero, Nat.zero_add]); first | (with_reducible assumption) | rfl)) | (apply And.intro; (first | rfl | (with_reducible assumption) | omega)) | (refine ACall.to (ri) ?_))) <;> (try (conv => whnf)); refine Then.mk ?_)
  (repeat' ((conv => whnf); first | left | refine OpsA.cons ?_ | refine OpsA.nil ?_ | refine AWq.seq ?_ | refine AWq.region ?_ | refine AWq.cond ?_ | refine AWq.block ?_ | refine AWq.skip ?_ | refine AWq.ret ?_ | refine AWq.exit ?_ | refine AWq.loop ?_ | refine DrawA.consD ?_ | refine DrawA.nil ?_ | refine AWq.draw (by decide +kernel) ?_ | (refine Both.mk ?_ ?_ <;> intro hc <;> (first | exact Bool.noConfusion hc | exact absurd (by with_reducible rfl) hc | (exfalso; omega) | skip)) | (intro c hc; (try (simp only [AH.none_iff] at hc; repeat (have hn := hc.1; replace hc := hc.2))); (first | (refine i64_k hc ?_ ?_ ?_ ; omega; omega; (clear hc; intro hc; subst hc)) | skip)) | (apply Exists.intro; apply And.intro; (first | (focus (repeat (first | (with_reducible assumption))); done))) | (apply Exists.intro; apply And.intro; first | (with_reducible assumption) | ((try simp only [List.getElem?_drop, Nat.mul_one, Nat.add_zero, Nat.zero_add]); first | (with_reducible assumption) | rfl)) | (apply And.intro; (first | rfl | (with_reducible assumption) | omega)))) <;> (try (conv => whnf))
  refine Then.mk (AWq.in ?_)
  refine AWp_nilrow1 6 1 rfl rfl fun q hq => ?_
  have hqp : q ≠ p := fun h => by rw [h, ← hG1] at hq; unfold RdH at hq; rw [AH.set_same] at hq; cases hq
  have hqn : H q = none := by rw [← hG1] at hq; unfold RdH at hq; rw [AH.set_ne _ _ hqp] at hq; exact hq
  refine AWp.of tt_ok (dok _) rfl ?_
  (repeat' ((conv => whnf); first | refine Then.mk ?_ | left | refine OpsA.cons ?_ | refine OpsA.nil ?_ | refine AWq.seq ?_ | refine AWq.region ?_ | refine AWq.cond ?_ | refine AWq.block ?_ | refine AWq.skip ?_ | refine AWq.ret ?_ | refine AWq.exit ?_ | refine AWq.loop ?_ | refine DrawA.consD ?_ | refine DrawA.nil ?_ | refine AWq.draw (by decide +kernel) ?_ | (refine Both.mk ?_ ?_ <;> intro hc <;> (first | exact Bool.noConfusion hc | exact absurd (by with_reducible rfl) hc | (exfalso; omega) | skip)) | (intro c hc; (try (simp only [AH.none_iff] at hc; repeat (have hn := hc.1; replace hc := hc.2))); (first | (refine i64_k hc ?_ ?_ ?_ ; omega; omega; (clear hc; intro hc; subst hc)) | skip)) | (apply Exists.intro; apply And.intro; (first | (focus (repeat (first | (with_reducible assumption))); done))) | (apply Exists.intro; apply And.intro; first | (with_reducible assumption) | ((try simp only [List.getElem?_drop, Nat.mul_one, Nat.add_zero, Nat.zero_add]); first | (with_reducible assumption) | rfl)) | (apply And.intro; (first | rfl | (with_reducible assumption) | omega)))) <;> (try (conv => whnf))
  obtain ⟨N, hN⟩ : ∃ N, N = ps.length := ⟨_, rfl⟩
  obtain ⟨Hk, hHk⟩ : ∃ Hk : Nat → AH, ∀ i, Hk i = RdH (H.set q (.row (pvL (ps.take i)) i)) p 0 (encRs (ps.drop i)) := ⟨_, fun _ => rfl⟩
  have hH0 : Hk 0 = G1.set q (.row [] 0) := by
    rw [hHk, ← hG1]
    unfold RdH
    rw [AH.set_comm _ _ _ hqp]; rfl
  refine AWp_loop (σ := Nat) (6 :: 19 :: 20 :: 21 :: 22 :: 23 :: 24 :: 25 :: 26 :: []) (fun i => [(19, .int .i64 i), (6, .sl q i 1 0 i none)]) Hk (fun i => i ≤ ps.length) (fun i => ps.length - i) 0 rfl (Nat.zero_le _) ⟨rfl, rfl, trivial⟩ (HLe.of_eq hH0) ?_
  clear hH0 hG1 hG0 ri hq
  intro i hi
  refine AWp.of tt_ok (dok _) rfl ?_
  dsimp only at hi ⊢
  have gq : Hk i q = some (.row (pvL (ps.take i)) i) := by rw [hHk]; unfold RdH; rw [AH.set_ne _ _ hqp, AH.set_same]
  have lq : (pvL (ps.take i)).length = i := by rw [pvL_len, List.length_take]; omega
  by_cases hit : i < ps.length
  · obtain ⟨x, hx⟩ : ∃ x, ps[i]? = some x := ⟨_, List.getElem?_eq_getElem hit⟩
    have hxl := hp x (List.mem_of_getElem? hx)
    have hdr := encRs_drop hx
    have hdl : (encRs (ps.drop i)).length ≤ 820000 := by
      have : encRs ps = encRs (ps.take i) ++ encRs (ps.drop i) := by unfold encRs; rw [← List.flatMap_append, List.take_append_drop]
      rw [this, List.length_append] at hlr; omega
    have rR := rdRaw_enc (b := x) (by omega) (encRs (ps.drop (i + 1)))
    rw [← hdr] at rR
    have rw1 := rRaw_ok p (by omega) rR (H.set q (.row (pvL (ps.take i)) i))
    rw [← hHk] at rw1
    have ht : pvL (ps.take (i + 1)) = pvL (ps.take i) ++ [.cs (u8s x) x.length] := by rw [take_snoc hx, pvL_snoc]
    have hst : Hk (i + 1) = (RdH (H.set q (.row (pvL (ps.take i)) i)) p 0 (encRs (ps.drop (i + 1)))).set q (.row (pvL (ps.take i) ++ [.cs (u8s x) x.length]) (i + 1)) := by
      rw [hHk, ← ht]
      unfold RdH
      rw [AH.set_comm _ _ _ (Ne.symm hqp), AH.set_set]
    have gq2 : RdH (H.set q (.row (pvL (ps.take i)) i)) p 0 (encRs (ps.drop (i + 1))) q = some (.row (pvL (ps.take i)) i) := by unfold RdH; rw [AH.set_ne _ _ hqp, AH.set_same]
    generalize RdH (H.set q (.row (pvL (ps.take i)) i)) p 0 (encRs (ps.drop (i + 1))) = G2 at *
    generalize pvL (ps.take i) = R at *
    generalize hGi : Hk i = Gi at *
    (repeat' ((conv => whnf); first | refine Then.mk ?_ | left | refine OpsA.cons ?_ | refine OpsA.nil ?_ | refine AWq.seq ?_ | refine AWq.region ?_ | refine AWq.cond ?_ | refine AWq.block ?_ | refine AWq.skip ?_ | refine AWq.ret ?_ | refine AWq.exit ?_ | refine AWq.loop ?_ | refine DrawA.consD ?_ | refine DrawA.nil ?_ | refine AWq.draw (by decide +kernel) ?_ | (refine Both.mk ?_ ?_ <;> intro hc <;> (first | exact Bool.noConfusion hc | exact absurd (by with_reducible rfl) hc | (exfalso; omega) | skip)) | (intro c hc; (try (simp only [AH.none_iff] at hc; repeat (have hn := hc.1; replace hc := hc.2))); (first | (refine i64_k hc ?_ ?_ ?_ ; omega; omega; (clear hc; intro hc; subst hc)) | skip)) | (apply Exists.intro; apply And.intro; (first | (focus (repeat (first | (with_reducible assumption))); done))) | (apply Exists.intro; apply And.intro; first | (with_reducible assumption) | ((try simp only [List.getElem?_drop, Nat.mul_one, Nat.add_zero, Nat.zero_add]); first | (with_reducible assumption) | rfl)) | (apply And.intro; (first | rfl | (with_reducible assumption) | omega)) | (refine ACall.to (rw1) ?_))) <;> (try (conv => whnf))
    exact ⟨i + 1, hit, by omega, ⟨congrArg (AV.int .i64) (by omega), rfl, trivial⟩, HLe.of_eq hst⟩
  · have hie : i = ps.length := by omega
    subst hie
    rw [List.take_length] at *
    have hdel : (Hk ps.length).del q = RdH H p 0 [] := by
      rw [hHk, List.take_length, List.drop_length]
      unfold RdH
      rw [AH.set_comm _ _ _ hqp, AH.del_set _ _ _ (by rw [AH.set_ne _ _ hqp]; exact hqn)]; rfl
    have hen : ∀ H, ACall Try.prog 75 [.ptr p 0 0] (RdH H p 0 []) (fun y H' => y = .int .i64 0 ∧ H' = RdH H p 0 []) := fun H => rEnd_c p 0 [] H
    have hen := hen H
    have hle := hle []
    (repeat' ((conv => whnf); first | left | refine OpsA.cons ?_ | refine OpsA.nil ?_ | refine AWq.seq ?_ | refine AWq.region ?_ | refine AWq.cond ?_ | refine AWq.block ?_ | refine AWq.skip ?_ | refine AWq.ret ?_ | refine AWq.exit ?_ | refine AWq.loop ?_ | refine DrawA.consD ?_ | refine DrawA.nil ?_ | refine AWq.draw (by decide +kernel) ?_ | (refine Both.mk ?_ ?_ <;> intro hc <;> (first | exact Bool.noConfusion hc | exact absurd (by with_reducible rfl) hc | (exfalso; omega) | skip)) | (intro c hc; (try (simp only [AH.none_iff] at hc; repeat (have hn := hc.1; replace hc := hc.2))); (first | (refine i64_k hc ?_ ?_ ?_ ; omega; omega; (clear hc; intro hc; subst hc)) | skip)) | (apply Exists.intro; apply And.intro; (first | (focus (repeat (first | (with_reducible assumption))); done))) | (apply Exists.intro; apply And.intro; first | (with_reducible assumption) | ((try simp only [List.getElem?_drop, Nat.mul_one, Nat.add_zero, Nat.zero_add]); first | (with_reducible assumption) | rfl)) | (apply And.intro; (first | rfl | (with_reducible assumption) | omega)))) <;> (try (conv => whnf))
    refine Then.mk ?_
    (repeat' ((conv => whnf); first | left | refine OpsA.cons ?_ | refine OpsA.nil ?_ | refine AWq.seq ?_ | refine AWq.region ?_ | refine AWq.cond ?_ | refine AWq.block ?_ | refine AWq.skip ?_ | refine AWq.ret ?_ | refine AWq.exit ?_ | refine AWq.loop ?_ | refine DrawA.consD ?_ | refine DrawA.nil ?_ | refine AWq.draw (by decide +kernel) ?_ | (refine Both.mk ?_ ?_ <;> intro hc <;> (first | exact Bool.noConfusion hc | exact absurd (by with_reducible rfl) hc | (exfalso; omega) | skip)) | (intro c hc; (try (simp only [AH.none_iff] at hc; repeat (have hn := hc.1; replace hc := hc.2))); (first | (refine i64_k hc ?_ ?_ ?_ ; omega; omega; (clear hc; intro hc; subst hc)) | skip)) | (apply Exists.intro; apply And.intro; (first | (focus (repeat (first | (with_reducible assumption))); done))) | (apply Exists.intro; apply And.intro; first | (with_reducible assumption) | ((try simp only [List.getElem?_drop, Nat.mul_one, Nat.add_zero, Nat.zero_add]); first | (with_reducible assumption) | rfl)) | (apply And.intro; (first | rfl | (with_reducible assumption) | omega)))) <;> (try (conv => whnf))
    refine Then.mk (AWq.in ?_)
    refine AWp_freeze1 6 rfl rfl gq (by omega) ?_
    rw [hdel]
    refine AWp.of tt_ok (dok _) rfl ?_
    generalize hGE : RdH H p 0 [] = GE at *
    (repeat' ((conv => whnf); first | refine Then.mk ?_ | left | refine OpsA.cons ?_ | refine OpsA.nil ?_ | refine AWq.seq ?_ | refine AWq.region ?_ | refine AWq.cond ?_ | refine AWq.block ?_ | refine AWq.skip ?_ | refine AWq.ret ?_ | refine AWq.exit ?_ | refine AWq.loop ?_ | refine DrawA.consD ?_ | refine DrawA.nil ?_ | refine AWq.draw (by decide +kernel) ?_ | (apply Exists.intro; apply And.intro; exact hen) | (apply Exists.intro; apply And.intro; exact jc _) | (refine Both.mk ?_ ?_ <;> intro hc <;> (first | exact Bool.noConfusion hc | exact absurd (by with_reducible rfl) hc | (exfalso; omega) | skip)) | (intro c hc; (try (simp only [AH.none_iff] at hc; repeat (have hn := hc.1; replace hc := hc.2))); (first | (refine i64_k hc ?_ ?_ ?_ ; omega; omega; (clear hc; intro hc; subst hc)) | skip)) | (apply Exists.intro; apply And.intro; (first | (focus (repeat (first | (with_reducible assumption))); done))) | (apply Exists.intro; apply And.intro; first | (with_reducible assumption) | ((try simp only [List.getElem?_drop, Nat.mul_one, Nat.add_zero, Nat.zero_add]); first | (with_reducible assumption) | rfl)) | (apply And.intro; (first | rfl | (with_reducible assumption) | omega)))) <;> (try (conv => whnf))
    exact hle
open Go.Fw Go

set_option maxRecDepth 8000 in
theorem outside_c (lo hi : Int) (H : AH) : ACall Try.prog 77 [.int .i64 lo, .int .i64 hi] H (fun y H' => y = .fn (.func 102) [] [.cp [.int .i64 lo], .cp [.int .i64 hi]] ∧ H' = H) := by
  refine ACall.back ?_
  refine ACall_of tt_ok (dok _) Try.func77 rfl (by decide) rfl ?_
  (repeat' ((conv => whnf); first | refine OpsA.cons ?_ | refine OpsA.nil ?_ | refine AWq.seq ?_ | refine AWq.region ?_ | refine AWq.ret ?_ | (intro c hc; (try (simp only [AH.none_iff] at hc; repeat (have hn := hc.1; replace hc := hc.2))); (first | skip)) | (apply And.intro; (first | rfl)))) <;> (try (conv => whnf))
  rename_i c1 _
  have hc0 : ∀ o, (AH.set H c1 o) c = none := fun o => by rw [AH.set_ne _ _ hn]; exact hc
  have hc1 : H c1 = none := by assumption
  refine Then.mk (AWq.in ?_)
  refine AWp_freezeP (cells := [.int .i64 hi]) 3 rfl rfl (AH.set_same _ _ _) ?_
  rw [AH.del_set _ _ _ (hc0 _)]
  refine AWp_freezeP (cells := [.int .i64 lo]) 2 rfl rfl (AH.set_same _ _ _) ?_
  rw [AH.del_set _ _ _ hc1]
  refine AWp.of tt_ok (dok _) rfl ?_
  (repeat' ((conv => whnf); first | refine Then.mk ?_ | refine OpsA.cons ?_ | refine OpsA.nil ?_ | refine AWq.seq ?_ | refine AWq.region ?_ | refine AWq.ret ?_ | (intro c hc; (try (simp only [AH.none_iff] at hc; repeat (have hn := hc.1; replace hc := hc.2))); (first | skip)) | (apply And.intro; (first | rfl)))) <;> (try (conv => whnf))
  exact HLe.refl _
set_option maxRecDepth 8000 in
theorem out1_in (lo hi n : Int) (h : lo ≤ n ∧ n ≤ hi) (H : AH) : ACall Try.prog 102 [.int .i64 n, .cp [.int .i64 lo], .cp [.int .i64 hi]] H (fun y H' => y = .bool false ∧ H' = H) := by
  refine ACall_of tt_ok (dok _) Try.func102 rfl (by decide) rfl ?_
  (repeat' ((conv => whnf); first | refine Then.mk ?_ | refine OpsA.cons ?_ | refine OpsA.nil ?_ | refine AWq.seq ?_ | refine AWq.region ?_ | refine AWq.ret ?_ | (refine Both.mk ?_ ?_ <;> intro hc <;> (first | (exfalso; omega) | skip)) | (apply Exists.intro; apply And.intro; first | ((try simp only [List.getElem?_drop, Nat.mul_one, Nat.add_zero, Nat.zero_add]); first | rfl)) | (apply And.intro; (first | rfl)))) <;> (try (conv => whnf))
theorem expR_take (R : List (Int × Nat)) {j : Nat} {p : Int × Nat} (h : R[j]? = some p) : expR (R.take (j + 1)) = expR (R.take j) ++ List.replicate p.2 p.1 := by
  rw [take_snoc h, expR_app]
  show _ ++ (List.replicate p.2 p.1 ++ []) = _
  rw [List.append_nil]
theorem flatR_at {R : List (Int × Nat)} {j : Nat} {p : Int × Nat} (h : R[j]? = some p) : (flatR R).getD (2 * j) 0 = p.1 ∧ (flatR R).getD (2 * j + 1) 0 = p.2 := by
  have hj : j < R.length := by
    by_cases hj : j < R.length
    · exact hj
    · rw [List.getElem?_eq_none (by omega)] at h; cases h
  have e : R = R.take j ++ p :: R.drop (j + 1) := by
    have := List.drop_eq_getElem_cons hj
    rw [List.getElem?_eq_getElem hj] at h
    rw [Option.some.inj h] at this
    rw [← this, List.take_append_drop]
  have hl : (flatR (R.take j)).length = 2 * j := by rw [flatR_len, List.length_take]; omega
  have e2 : flatR R = flatR (R.take j) ++ (p.1 :: (p.2 : Int) :: flatR (R.drop (j + 1))) := by
    conv => lhs; rw [e]
    rw [flatR_app]; rfl
  rw [e2]
  refine ⟨?_, ?_⟩
  · rw [List.getD_eq_getElem?_getD, List.getElem?_append_right (by omega), hl, Nat.sub_self]; rfl
  · rw [List.getD_eq_getElem?_getD, List.getElem?_append_right (by omega), hl, show 2 * j + 1 - 2 * j = 1 by omega]; rfl
theorem expR_le (R : List (Int × Nat)) (j : Nat) : (expR (R.take j)).length ≤ (expR R).length := by
  have : expR R = expR (R.take j) ++ expR (R.drop j) := by rw [← expR_app, List.take_append_drop]
  rw [this, List.length_append]; omega
structure LbOk (L : List Int) : Prop where
  len : L.length = 256
  bd : ∀ x ∈ L, -1 ≤ x ∧ x ≤ 4095
set_option maxRecDepth 8000 in
set_option maxHeartbeats 4000000 in
theorem labels_ok (L : List Int) (h : LbOk L) (H : AH) : ACall Try.prog 50 [.cs (u8s (labP L)) (labP L).length] H (fun y H' => y = .tup [.cs (iS .i64 L) 256, .int .i64 0] ∧ H' = H) := by
  have hlen := h.len
  have hI : I64L L := fun x hx => by have := h.bd x hx; omega
  have lc := fun H => labelPart_c L hI (by omega) H
  have hll := labP_len hI (by omega)
  have hfl := flat_small (L := L) (by omega)
  have hfI := flat_I64 hI (by omega)
  obtain ⟨hil, hi0⟩ := ints_len hfI hfl (by omega)
  have hrr := read_round (l := flatR (runsR L)) (by omega) hfI
  have hfe := flatR_len (runsR L)
  have hrl := runsR_len L
  have hex := expR_runs L
  have hmem := fun p hp => runsR_mem _ L rfl p hp
  have hr1 : 1 ≤ (runsR L).length := by
    rcases list_end (runsR L) with e | ⟨S, x, e⟩
    · rw [e] at hex
      have : L = [] := hex.symm
      rw [this] at hlen; cases hlen
    · rw [e]; simp
  have rc := fun H => readInts_c (intsS (flatR (runsR L))).1 (by omega) (2 * ((runsR L).length : Int)) (by omega) H
  rw [show (2 * ((runsR L).length : Int)) = ((flatR (runsR L)).length : Int) by rw [hfe]; omega, hrr] at rc
  unfold resI at rc
  dsimp only at rc
  have rI := rdI_enc (n := ((runsR L).length : Int)) (by unfold I64; omega) (encR (intsS (flatR (runsR L))).1)
  have rR := rdRaw_enc (b := (intsS (flatR (runsR L))).1) (by omega) []
  rw [List.append_nil] at rR
  have hJ : labP L = encI ((runsR L).length : Int) ++ encR (intsS (flatR (runsR L))).1 := rfl
  rw [← hJ] at rI
  have hbl : (u8s (labP L)).length = (labP L).length := by simp
  have hel : (encR (intsS (flatR (runsR L))).1).length ≤ 79000 := by rw [hJ, List.length_append] at hll; omega
  generalize hF : flatR (runsR L) = F at *
  generalize hB : (intsS F).1 = B at *
  refine ACall.back ?_
  refine ACall_of tt_ok (dok _) Try.func50 rfl (by decide) rfl ?_
  (repeat' ((conv => whnf); first | refine OpsA.cons ?_ | refine OpsA.nil ?_ | refine AWq.seq ?_ | refine AWq.region ?_ | refine AWq.cond ?_ | refine AWq.block ?_ | refine AWq.skip ?_ | refine AWq.ret ?_ | refine AWq.exit ?_ | refine AWq.loop ?_ | refine DrawA.consD ?_ | refine DrawA.nil ?_ | refine AWq.draw (by decide +kernel) ?_ | (refine Both.mk ?_ ?_ <;> intro hc <;> (first | exact Bool.noConfusion hc | exact absurd (by with_reducible rfl) hc | (exfalso; omega) | skip)) | (intro c hc; (try (simp only [AH.none_iff] at hc; repeat (have hn := hc.1; replace hc := hc.2))); (first | (have hc2 := Eq.trans hc (by with_reducible assumption); clear hc; subst hc2) | (refine i64_k hc ?_ ?_ ?_ ; omega; omega; (clear hc; intro hc; subst hc)) | skip)) | (apply Exists.intro; apply And.intro; (first | (focus (repeat (first | (with_reducible assumption))); done))) | (apply Exists.intro; apply And.intro; first | (with_reducible assumption) | ((try simp only [List.getElem?_drop, Nat.mul_one, Nat.add_zero, Nat.zero_add]); first | (with_reducible assumption) | rfl)) | (apply And.intro; (first | rfl | (with_reducible assumption) | omega)))) <;> (try (conv => whnf))
  refine Then.mk ?_
  (repeat' ((conv => whnf); first | refine OpsA.cons ?_ | refine OpsA.nil ?_ | refine AWq.seq ?_ | refine AWq.region ?_ | refine AWq.cond ?_ | refine AWq.block ?_ | refine AWq.skip ?_ | refine AWq.ret ?_ | refine AWq.exit ?_ | refine AWq.loop ?_ | refine DrawA.consD ?_ | refine DrawA.nil ?_ | refine AWq.draw (by decide +kernel) ?_ | (refine Both.mk ?_ ?_ <;> intro hc <;> (first | exact Bool.noConfusion hc | exact absurd (by with_reducible rfl) hc | (exfalso; omega) | skip)) | (intro c hc; (try (simp only [AH.none_iff] at hc; repeat (have hn := hc.1; replace hc := hc.2))); (first | (have hc2 := Eq.trans hc (by with_reducible assumption); clear hc; subst hc2) | (refine i64_k hc ?_ ?_ ?_ ; omega; omega; (clear hc; intro hc; subst hc)) | skip)) | (apply Exists.intro; apply And.intro; (first | (focus (repeat (first | (with_reducible assumption))); done))) | (apply Exists.intro; apply And.intro; first | (with_reducible assumption) | ((try simp only [List.getElem?_drop, Nat.mul_one, Nat.add_zero, Nat.zero_add]); first | (with_reducible assumption) | rfl)) | (apply And.intro; (first | rfl | (with_reducible assumption) | omega)))) <;> (try (conv => whnf))
  refine (Read_c (labP L) (by omega) H).mono ?_
  rintro y H' ⟨p, hpn, rfl, rfl⟩
  have ri := rInt_ok p (by omega) rI H
  have rr := rRaw_ok p (by omega) rR H
  have hen : ∀ H, ACall Try.prog 75 [.ptr p 0 0] (RdH H p 0 []) (fun y H' => y = .int .i64 0 ∧ H' = RdH H p 0 []) := fun H => rEnd_c p 0 [] H
  have hen := hen H
  have hle : HLe H (RdH H p 0 []) := HLe.set_of _ _ (HLe.refl _) hpn
  generalize hG0 : RdH H p 0 (labP L) = G0 at *
  generalize hG1 : RdH H p 0 (encR B) = G1 at *
  generalize hG2 : RdH H p 0 [] = G2 at *
  generalize hn : (runsR L).length = n at *
  have e1 : IntKind.i64.wrap (2 * (n : Int)) = (F.length : Int) := by rw [IntKind.wrap_i64, hfe]; omega
  iterate 4 ((repeat' ((conv => whnf); first | refine OpsA.cons ?_ | refine OpsA.nil ?_ | refine AWq.seq ?_ | refine AWq.region ?_ | refine AWq.cond ?_ | refine AWq.block ?_ | refine AWq.skip ?_ | refine AWq.ret ?_ | refine AWq.exit ?_ | refine AWq.loop ?_ | refine DrawA.consD ?_ | refine DrawA.nil ?_ | refine AWq.draw (by decide +kernel) ?_ | (refine Both.mk ?_ ?_ <;> intro hc <;> (first | exact Bool.noConfusion hc | exact absurd (by with_reducible rfl) hc | (exfalso; omega) | skip)) | (intro c hc; (try (simp only [AH.none_iff] at hc; repeat (have hn := hc.1; replace hc := hc.2))); (first | (have hc2 := Eq.trans hc (by with_reducible assumption); clear hc; subst hc2) | (refine i64_k hc ?_ ?_ ?_ ; omega; omega; (clear hc; intro hc; subst hc)) | skip)) | (apply Exists.intro; apply And.intro; (first | (focus (repeat (first | (with_reducible assumption))); done))) | (apply Exists.intro; apply And.intro; first | (with_reducible assumption) | ((try simp only [List.getElem?_drop, Nat.mul_one, Nat.add_zero, Nat.zero_add]); first | (with_reducible assumption) | rfl)) | (apply And.intro; (first | rfl | (with_reducible assumption) | omega)) | (refine ACall.to (ri) ?_) | (refine ACall.to (rr) ?_) | (refine ACall.to (hen) ?_) | (refine ACall.to (rc _) ?_))) <;> (try (conv => whnf)); refine Then.mk ?_)
  iterate 4 ((repeat' ((conv => whnf); first | refine OpsA.cons ?_ | refine OpsA.nil ?_ | refine AWq.seq ?_ | refine AWq.region ?_ | refine AWq.cond ?_ | refine AWq.block ?_ | refine AWq.skip ?_ | refine AWq.ret ?_ | refine AWq.exit ?_ | refine AWq.loop ?_ | refine DrawA.consD ?_ | refine DrawA.nil ?_ | refine AWq.draw (by decide +kernel) ?_ | (refine Both.mk ?_ ?_ <;> intro hc <;> (first | exact Bool.noConfusion hc | exact absurd (by with_reducible rfl) hc | (exfalso; omega) | skip)) | (intro c hc; (try (simp only [AH.none_iff] at hc; repeat (have hn := hc.1; replace hc := hc.2))); (first | (have hc2 := Eq.trans hc (by with_reducible assumption); clear hc; subst hc2) | (refine i64_k hc ?_ ?_ ?_ ; omega; omega; (clear hc; intro hc; subst hc)) | skip)) | (apply Exists.intro; apply And.intro; (first | (focus (repeat (first | (with_reducible assumption))); done))) | (apply Exists.intro; apply And.intro; first | (with_reducible assumption) | ((try simp only [List.getElem?_drop, Nat.mul_one, Nat.add_zero, Nat.zero_add]); first | (with_reducible assumption) | rfl)) | (apply And.intro; (first | rfl | (with_reducible assumption) | omega)) | (refine ACall.to (ri) ?_) | (refine ACall.to (rr) ?_) | (refine ACall.to (hen) ?_) | (refine ACall.to (rc _) ?_))) <;> (try (conv => whnf)); refine Then.mk ?_)
  (repeat' ((conv => whnf); first | refine OpsA.cons ?_ | refine OpsA.nil ?_ | refine AWq.seq ?_ | refine AWq.region ?_ | refine AWq.cond ?_ | refine AWq.block ?_ | refine AWq.skip ?_ | refine AWq.ret ?_ | refine AWq.exit ?_ | refine AWq.loop ?_ | refine DrawA.consD ?_ | refine DrawA.nil ?_ | refine AWq.draw (by decide +kernel) ?_ | (refine Both.mk ?_ ?_ <;> intro hc <;> (first | exact Bool.noConfusion hc | exact absurd (by with_reducible rfl) hc | (exfalso; omega) | skip)) | (intro c hc; (try (simp only [AH.none_iff] at hc; repeat (have hn := hc.1; replace hc := hc.2))); (first | (have hc2 := Eq.trans hc (by with_reducible assumption); clear hc; subst hc2) | (refine i64_k hc ?_ ?_ ?_ ; omega; omega; (clear hc; intro hc; subst hc)) | skip)) | (apply Exists.intro; apply And.intro; (first | (focus (repeat (first | (with_reducible assumption))); done))) | (apply Exists.intro; apply And.intro; first | (with_reducible assumption) | ((try simp only [List.getElem?_drop, Nat.mul_one, Nat.add_zero, Nat.zero_add]); first | (with_reducible assumption) | rfl)) | (apply And.intro; (first | rfl | (with_reducible assumption) | omega)))) <;> (try (conv => whnf))
  refine Then.mk (AWq.in ?_)
  refine AWp_nilrow1 9 1 rfl rfl fun q hq => ?_
  refine AWp.of tt_ok (dok _) rfl ?_
  (repeat' ((conv => whnf); first | refine Then.mk ?_ | refine OpsA.cons ?_ | refine OpsA.nil ?_ | refine AWq.seq ?_ | refine AWq.region ?_ | refine AWq.cond ?_ | refine AWq.block ?_ | refine AWq.skip ?_ | refine AWq.ret ?_ | refine AWq.exit ?_ | refine AWq.loop ?_ | refine DrawA.consD ?_ | refine DrawA.nil ?_ | refine AWq.draw (by decide +kernel) ?_ | (refine Both.mk ?_ ?_ <;> intro hc <;> (first | exact Bool.noConfusion hc | exact absurd (by with_reducible rfl) hc | (exfalso; omega) | skip)) | (intro c hc; (try (simp only [AH.none_iff] at hc; repeat (have hn := hc.1; replace hc := hc.2))); (first | (have hc2 := Eq.trans hc (by with_reducible assumption); clear hc; subst hc2) | (refine i64_k hc ?_ ?_ ?_ ; omega; omega; (clear hc; intro hc; subst hc)) | skip)) | (apply Exists.intro; apply And.intro; (first | (focus (repeat (first | (with_reducible assumption))); done))) | (apply Exists.intro; apply And.intro; first | (with_reducible assumption) | ((try simp only [List.getElem?_drop, Nat.mul_one, Nat.add_zero, Nat.zero_add]); first | (with_reducible assumption) | rfl)) | (apply And.intro; (first | rfl | (with_reducible assumption) | omega)))) <;> (try (conv => whnf))
  have hFa := fun j p hp => flatR_at (R := runsR L) (j := j) (p := p) hp
  rw [hF] at hFa
  have hle2 := fun j => expR_le (runsR L) j
  rw [hex, hlen] at hle2
  have htk := fun j p hp => expR_take (runsR L) (j := j) (p := p) hp
  generalize hR : runsR L = R at *
  refine AWp_loop (σ := Nat) (2 :: 3 :: 9 :: 10 :: 37 :: 38 :: 39 :: 40 :: 41 :: 42 :: 43 :: 44 :: 45 :: 46 :: 47 :: 48 :: 49 :: 50 :: 51 :: 52 :: 53 :: 54 :: 55 :: 56 :: 57 :: 58 :: 59 :: 60 :: 61 :: 62 :: 63 :: 64 :: 65 :: 66 :: 67 :: 68 :: 69 :: 70 :: 71 :: 72 :: 73 :: 74 :: 75 :: 76 :: 77 :: 78 :: 79 :: 80 :: []) (fun j => [(10, .int .i64 (2 * j : Nat)), (9, .sl q j 1 0 (expR (R.take j)).length none)]) (fun j => G2.set q (.row (iS .i64 (expR (R.take j))) j)) (fun j => j ≤ n) (fun j => n - j) 0 rfl (Nat.zero_le _) ⟨rfl, rfl, trivial⟩ (HLe.refl _) ?_
  intro j hj
  refine AWp.of tt_ok (dok _) rfl ?_
  dsimp only at hj ⊢
  have gq := AH.set_same G2 q (.row (iS .i64 (expR (R.take j))) j)
  have lq : (iS .i64 (expR (R.take j))).length = (expR (R.take j)).length := by simp
  by_cases hjt : j < n
  · obtain ⟨⟨x, m⟩, hx⟩ : ∃ p, R[j]? = some p := ⟨_, List.getElem?_eq_getElem (by omega)⟩
    obtain ⟨f1, f2⟩ := hFa j _ hx
    have hm := hmem _ (List.mem_of_getElem? hx)
    have hbx := h.bd x hm.1
    have ht := htk j _ hx
    have hl2 := hle2 (j + 1)
    have hl1 := hle2 j
    dsimp only at f1 f2 hm ht
    have hm1 := hm.2.1
    have gx : (iS .i64 F)[((2 * j : Nat) : Int).toNat]? = some (.int .i64 x) := by
      rw [← f1, Int.toNat_natCast]; exact iS_get (by omega)
    have gm : (iS .i64 F)[(((2 * j : Nat) : Int) + 1).toNat]? = some (.int .i64 m) := by
      rw [← f2, show (((2 * j : Nat) : Int) + 1).toNat = 2 * j + 1 by omega]; exact iS_get (by omega)
    have oc := fun H => outside_c (-1) 4095 H
    have o1 := fun H => out1_in (-1) 4095 x hbx H
    have rp := fun H => repeat_k x m (by omega) (by omega) H
    have hap : iS .i64 (expR (R.take (j + 1))) = iS .i64 (expR (R.take j)) ++ iS .i64 (fnL m fun _ => x) := by
      rw [ht, ← fnL_rep]; unfold iS; rw [List.map_append]
    have hal : (expR (R.take (j + 1))).length = (expR (R.take j)).length + m := by rw [ht, List.length_append, List.length_replicate]
    have lF : (iS .i64 F).length = 2 * n := by rw [iS_length, hfe]
    have hcnt : (((2 * j : Nat) : Int) + 1).toNat - ((2 * j : Nat) : Int).toNat = 1 := by omega
    have hsl : List.take (((((2 * j : Nat) : Int) + 1).toNat - ((2 * j : Nat) : Int).toNat) * 1) (List.drop (((2 * j : Nat) : Int).toNat * 1) (iS .i64 F)) = [.int .i64 x] := by
      rw [hcnt, Int.toNat_natCast, Nat.mul_one, Nat.mul_one, List.drop_eq_getElem_cons (by omega)]
      rw [Int.toNat_natCast, List.getElem?_eq_getElem (by omega)] at gx
      rw [Option.some.inj gx]; rfl
    have rp2 : ∀ H, ACall Try.prog 72 [.cs (List.take (((((2 * j : Nat) : Int) + 1).toNat - ((2 * j : Nat) : Int).toNat) * 1) (List.drop (((2 * j : Nat) : Int).toNat * 1) (iS .i64 F))) ((((2 * j : Nat) : Int) + 1).toNat - ((2 * j : Nat) : Int).toNat), .int .i64 m] H (fun y H' => y = .cs (iS .i64 (fnL m fun _ => x)) m ∧ H' = H) := fun H => by
      rw [hsl, hcnt]; exact rp H
    have lM : (iS .i64 (fnL m fun _ => x)).length = m := by simp
    have oM : (iS .i64 (fnL m fun _ => x)).all one = true := one_iS _ _
    generalize iS .i64 (fnL m fun _ => x) = RM at *
    generalize iS .i64 (expR (R.take j)) = R9 at *
    iterate 4 ((repeat' ((conv => whnf); first | refine OpsA.cons ?_ | refine OpsA.nil ?_ | refine AWq.seq ?_ | refine AWq.region ?_ | refine AWq.cond ?_ | refine AWq.block ?_ | refine AWq.skip ?_ | refine AWq.ret ?_ | refine AWq.exit ?_ | refine AWq.loop ?_ | refine DrawA.consD ?_ | refine DrawA.nil ?_ | refine AWq.draw (by decide +kernel) ?_ | (apply Exists.intro; apply And.intro; exact oc _) | (apply Exists.intro; apply And.intro; exact o1 _) | (apply Exists.intro; apply And.intro; exact rp2 _) | (refine Both.mk ?_ ?_ <;> intro hc <;> (first | exact Bool.noConfusion hc | exact absurd (by with_reducible rfl) hc | (exfalso; omega) | skip)) | (intro c hc; (try (simp only [AH.none_iff] at hc; repeat (have hn := hc.1; replace hc := hc.2))); (first | (have hc2 := Eq.trans hc (by with_reducible assumption); clear hc; subst hc2) | (refine i64_k hc ?_ ?_ ?_ ; omega; omega; (clear hc; intro hc; subst hc)) | skip)) | (apply Exists.intro; apply And.intro; (first | (focus (repeat (first | (with_reducible assumption))); done))) | (apply Exists.intro; apply And.intro; first | (with_reducible assumption) | ((try simp only [List.getElem?_drop, Nat.mul_one, Nat.add_zero, Nat.zero_add]); first | (with_reducible assumption) | rfl)) | (apply And.intro; (first | rfl | (with_reducible assumption) | omega)))) <;> (try (conv => whnf)); refine Then.mk ?_)
    (repeat' ((conv => whnf); first | refine Then.mk ?_ | refine OpsA.cons ?_ | refine OpsA.nil ?_ | refine AWq.seq ?_ | refine AWq.region ?_ | refine AWq.cond ?_ | refine AWq.block ?_ | refine AWq.skip ?_ | refine AWq.ret ?_ | refine AWq.exit ?_ | refine AWq.loop ?_ | refine DrawA.consD ?_ | refine DrawA.nil ?_ | refine AWq.draw (by decide +kernel) ?_ | (apply Exists.intro; apply And.intro; exact oc _) | (apply Exists.intro; apply And.intro; exact o1 _) | (apply Exists.intro; apply And.intro; exact rp2 _) | (refine Both.mk ?_ ?_ <;> intro hc <;> (first | exact Bool.noConfusion hc | exact absurd (by with_reducible rfl) hc | (exfalso; omega) | skip)) | (intro c hc; (try (simp only [AH.none_iff] at hc; repeat (have hn := hc.1; replace hc := hc.2))); (first | (have hc2 := Eq.trans hc (by with_reducible assumption); clear hc; subst hc2) | (refine i64_k hc ?_ ?_ ?_ ; omega; omega; (clear hc; intro hc; subst hc)) | skip)) | (apply Exists.intro; apply And.intro; (first | (focus (repeat (first | (with_reducible assumption))); done))) | (apply Exists.intro; apply And.intro; first | (with_reducible assumption) | ((try simp only [List.getElem?_drop, Nat.mul_one, Nat.add_zero, Nat.zero_add]); first | (with_reducible assumption) | rfl)) | (apply And.intro; (first | rfl | (with_reducible assumption) | omega)))) <;> (try (conv => whnf))
    exact ⟨j + 1, hjt, by omega, ⟨congrArg (AV.int .i64) (by omega), by rw [hal]; rfl, trivial⟩, HLe.of_eq (by rw [hap, AH.set_set])⟩
  · have hje : j = n := by omega
    subst hje
    have htl : R.take j = R := List.take_of_length_le (by omega)
    rw [htl, hex] at gq lq ⊢
    rw [hlen] at lc lq ⊢
    have hbs : (u8s (labP L)).length = (labP L).length := by simp
    (repeat' ((conv => whnf); first | refine OpsA.cons ?_ | refine OpsA.nil ?_ | refine AWq.seq ?_ | refine AWq.region ?_ | refine AWq.cond ?_ | refine AWq.block ?_ | refine AWq.skip ?_ | refine AWq.ret ?_ | refine AWq.exit ?_ | refine AWq.loop ?_ | refine DrawA.consD ?_ | refine DrawA.nil ?_ | refine AWq.draw (by decide +kernel) ?_ | (refine Both.mk ?_ ?_ <;> intro hc <;> (first | exact Bool.noConfusion hc | exact absurd (by with_reducible rfl) hc | (exfalso; omega) | skip)) | (intro c hc; (try (simp only [AH.none_iff] at hc; repeat (have hn := hc.1; replace hc := hc.2))); (first | (have hc2 := Eq.trans hc (by with_reducible assumption); clear hc; subst hc2) | (refine i64_k hc ?_ ?_ ?_ ; omega; omega; (clear hc; intro hc; subst hc)) | skip)) | (apply Exists.intro; apply And.intro; (first | (focus (repeat (first | (with_reducible assumption))); done))) | (apply Exists.intro; apply And.intro; first | (with_reducible assumption) | ((try simp only [List.getElem?_drop, Nat.mul_one, Nat.add_zero, Nat.zero_add]); first | (with_reducible assumption) | rfl)) | (apply And.intro; (first | rfl | (with_reducible assumption) | omega)))) <;> (try (conv => whnf))
    refine Then.mk ?_
    (repeat' ((conv => whnf); first | refine OpsA.cons ?_ | refine OpsA.nil ?_ | refine AWq.seq ?_ | refine AWq.region ?_ | refine AWq.cond ?_ | refine AWq.block ?_ | refine AWq.skip ?_ | refine AWq.ret ?_ | refine AWq.exit ?_ | refine AWq.loop ?_ | refine DrawA.consD ?_ | refine DrawA.nil ?_ | refine AWq.draw (by decide +kernel) ?_ | (refine Both.mk ?_ ?_ <;> intro hc <;> (first | exact Bool.noConfusion hc | exact absurd (by with_reducible rfl) hc | (exfalso; omega) | skip)) | (intro c hc; (try (simp only [AH.none_iff] at hc; repeat (have hn := hc.1; replace hc := hc.2))); (first | (have hc2 := Eq.trans hc (by with_reducible assumption); clear hc; subst hc2) | (refine i64_k hc ?_ ?_ ?_ ; omega; omega; (clear hc; intro hc; subst hc)) | skip)) | (apply Exists.intro; apply And.intro; (first | (focus (repeat (first | (with_reducible assumption))); done))) | (apply Exists.intro; apply And.intro; first | (with_reducible assumption) | ((try simp only [List.getElem?_drop, Nat.mul_one, Nat.add_zero, Nat.zero_add]); first | (with_reducible assumption) | rfl)) | (apply And.intro; (first | rfl | (with_reducible assumption) | omega)))) <;> (try (conv => whnf))
    refine Then.mk (AWq.in ?_)
    refine AWp_freeze1 9 rfl rfl gq (by omega) ?_
    rw [AH.del_set _ _ _ hq]
    refine AWp.of tt_ok (dok _) rfl ?_
    (repeat' ((conv => whnf); first | refine Then.mk ?_ | refine OpsA.cons ?_ | refine OpsA.nil ?_ | refine AWq.seq ?_ | refine AWq.region ?_ | refine AWq.cond ?_ | refine AWq.block ?_ | refine AWq.skip ?_ | refine AWq.ret ?_ | refine AWq.exit ?_ | refine AWq.loop ?_ | refine DrawA.consD ?_ | refine DrawA.nil ?_ | refine AWq.draw (by decide +kernel) ?_ | (apply Exists.intro; apply And.intro; exact lc _) | (refine Both.mk ?_ ?_ <;> intro hc <;> (first | exact Bool.noConfusion hc | exact absurd (by with_reducible rfl) hc | (exfalso; omega) | skip)) | (intro c hc; (try (simp only [AH.none_iff] at hc; repeat (have hn := hc.1; replace hc := hc.2))); (first | (have hc2 := Eq.trans hc (by with_reducible assumption); clear hc; subst hc2) | (refine i64_k hc ?_ ?_ ?_ ; omega; omega; (clear hc; intro hc; subst hc)) | skip)) | (apply Exists.intro; apply And.intro; (first | (focus (repeat (first | (with_reducible assumption))); done))) | (apply Exists.intro; apply And.intro; first | (with_reducible assumption) | ((try simp only [List.getElem?_drop, Nat.mul_one, Nat.add_zero, Nat.zero_add]); first | (with_reducible assumption) | rfl)) | (apply And.intro; (first | rfl | (with_reducible assumption) | omega)))) <;> (try (conv => whnf))
    exact hle
open Go.Fw Go

set_option maxRecDepth 8000 in
set_option maxHeartbeats 4000000 in
theorem idx_none (f : FuncId) (lo hi : Int) (A : List Int) (hA : A.length ≤ 1000) (hf : ∀ x, x ∈ A → ∀ H, ACall Try.prog f [.int .i64 x, .cp [.int .i64 lo], .cp [.int .i64 hi]] H (fun y H' => y = .bool false ∧ H' = H)) (H : AH) :
    ACall Try.prog 79 [.cs (iS .i64 A) A.length, .fn (.func f) [] [.cp [.int .i64 lo], .cp [.int .i64 hi]]] H (fun y H' => y = .int .i64 (-1) ∧ H' = H) := by
  have hl : (iS .i64 A).length = A.length := by simp
  refine ACall_of tt_ok (dok _) Try.func79 rfl (by decide) rfl ?_
  (repeat' ((conv => whnf); first | refine Then.mk ?_ | refine OpsA.cons ?_ | refine OpsA.nil ?_ | refine AWq.seq ?_ | refine AWq.region ?_ | refine AWq.cond ?_ | refine AWq.block ?_ | refine AWq.skip ?_ | refine AWq.ret ?_ | refine AWq.exit ?_ | refine AWq.loop ?_ | (refine Both.mk ?_ ?_ <;> intro hc <;> (first | exact Bool.noConfusion hc | (exfalso; omega) | skip)) | (intro c hc; (try (simp only [AH.none_iff] at hc; repeat (have hn := hc.1; replace hc := hc.2))); (first | (refine i64_k hc ?_ ?_ ?_ ; omega; omega; (clear hc; intro hc; subst hc)) | skip)) | (apply Exists.intro; apply And.intro; first | (with_reducible assumption) | ((try simp only [List.getElem?_drop, Nat.mul_one, Nat.add_zero, Nat.zero_add]); first | (with_reducible assumption) | rfl)) | (apply And.intro; (first | rfl | (with_reducible assumption) | omega)))) <;> (try (conv => whnf))
  refine AWp_loop (σ := Nat) (4 :: 5 :: 8 :: 9 :: 10 :: 11 :: 12 :: 13 :: 14 :: 15 :: 16 :: 17 :: 18 :: []) (fun i => [(8, .int .i64 i)]) (fun _ => H) (fun i => i ≤ A.length) (fun i => A.length - i) 0 rfl (Nat.zero_le _) ⟨rfl, trivial⟩ (HLe.refl _) ?_
  intro i hi
  refine AWp.of tt_ok (dok _) rfl ?_
  dsimp only at hi ⊢
  by_cases hit : i < A.length
  · have g : (iS .i64 A)[(i : Int).toNat]? = some (.int .i64 (A.getD i 0)) := iS_get hit
    have h1 := hf _ (getD_mem hit)
    generalize A.getD i 0 = x at *
    (repeat' ((conv => whnf); first | refine Then.mk ?_ | refine OpsA.cons ?_ | refine OpsA.nil ?_ | refine AWq.seq ?_ | refine AWq.region ?_ | refine AWq.cond ?_ | refine AWq.block ?_ | refine AWq.skip ?_ | refine AWq.ret ?_ | refine AWq.exit ?_ | refine AWq.loop ?_ | (refine Both.mk ?_ ?_ <;> intro hc <;> (first | exact Bool.noConfusion hc | (exfalso; omega) | skip)) | (intro c hc; (try (simp only [AH.none_iff] at hc; repeat (have hn := hc.1; replace hc := hc.2))); (first | (refine i64_k hc ?_ ?_ ?_ ; omega; omega; (clear hc; intro hc; subst hc)) | skip)) | (apply Exists.intro; apply And.intro; first | (with_reducible assumption) | ((try simp only [List.getElem?_drop, Nat.mul_one, Nat.add_zero, Nat.zero_add]); first | (with_reducible assumption) | rfl)) | (apply And.intro; (first | rfl | (with_reducible assumption) | omega)) | (refine ACall.to (h1 _) ?_))) <;> (try (conv => whnf))
    exact ⟨i + 1, hit, show A.length - (i + 1) < A.length - i by omega, ⟨congrArg (AV.int .i64) (by omega), trivial⟩, HLe.refl _⟩
  · (repeat' ((conv => whnf); first | refine Then.mk ?_ | refine OpsA.cons ?_ | refine OpsA.nil ?_ | refine AWq.seq ?_ | refine AWq.region ?_ | refine AWq.cond ?_ | refine AWq.block ?_ | refine AWq.skip ?_ | refine AWq.ret ?_ | refine AWq.exit ?_ | refine AWq.loop ?_ | (refine Both.mk ?_ ?_ <;> intro hc <;> (first | exact Bool.noConfusion hc | (exfalso; omega) | skip)) | (intro c hc; (try (simp only [AH.none_iff] at hc; repeat (have hn := hc.1; replace hc := hc.2))); (first | (refine i64_k hc ?_ ?_ ?_ ; omega; omega; (clear hc; intro hc; subst hc)) | skip)) | (apply Exists.intro; apply And.intro; first | (with_reducible assumption) | ((try simp only [List.getElem?_drop, Nat.mul_one, Nat.add_zero, Nat.zero_add]); first | (with_reducible assumption) | rfl)) | (apply And.intro; (first | rfl | (with_reducible assumption) | omega)))) <;> (try (conv => whnf))
set_option maxRecDepth 8000 in
theorem has_none (f : FuncId) (lo hi : Int) (A : List Int) (hA : A.length ≤ 1000) (hf : ∀ x, x ∈ A → ∀ H, ACall Try.prog f [.int .i64 x, .cp [.int .i64 lo], .cp [.int .i64 hi]] H (fun y H' => y = .bool false ∧ H' = H)) (H : AH) :
    ACall Try.prog 78 [.cs (iS .i64 A) A.length, .fn (.func f) [] [.cp [.int .i64 lo], .cp [.int .i64 hi]]] H (fun y H' => y = .bool false ∧ H' = H) := by
  have ic := fun H => idx_none f lo hi A hA hf H
  refine ACall_of tt_ok (dok _) Try.func78 rfl (by decide) rfl ?_
  (repeat' ((conv => whnf); first | refine Then.mk ?_ | refine OpsA.cons ?_ | refine OpsA.nil ?_ | refine AWq.seq ?_ | refine AWq.region ?_ | refine AWq.ret ?_ | (refine Both.mk ?_ ?_ <;> intro hc <;> (first | (exfalso; omega) | skip)) | (apply And.intro; (first | rfl)) | (refine ACall.to (ic _) ?_))) <;> (try (conv => whnf))
set_option maxRecDepth 8000 in
set_option maxHeartbeats 4000000 in
theorem band_ok {Z : List Int} (hz : ZO Z) (hzig : ∀ H, ACall Try.prog 62 [.int .i64 16] H (fun y H' => y = .tup [.cs (iS .i64 Z) 256, .int .i64 0] ∧ H' = H)) (a : List Int) (h : BOk a) (H : AH) :
    ACall Try.prog 51 [.cs (u8s (bandP Z a)) (bandP Z a).length] H (fun y H' => y = .tup [.cs (iS .i64 (coefL a)) 256, .cs (iS .i64 a) 256, .int .i64 0] ∧ H' = H) := by
  have iv : ∀ H, ACall Try.prog 64 [.int .i64 16, .cs (iS .i64 (coefL a)) 256] H (fun y H' => y = .tup [.cs (iS .i64 a) 256, .int .i64 0] ∧ H' = H) := fun H => by
    have := Inverse_ok 4 (by decide) (coefL a) (by rw [coefL_len]) h.inC H
    unfold resV at this
    rw [coef_back h.len, coefL_len] at this
    dsimp only at this
    rw [h.len] at this
    exact this
  have hsI : I64L (sortL Z a) := sortL_ok hz h
  have hsl := sortL_len hz a
  have hbl := bandP_len hz h
  have hrr := read_round (l := sortL Z a) (by omega) hsI
  have rc := fun H => readInts_c (bandP Z a) (by omega) 256 (by decide) H
  rw [hsl] at hrr
  have hrr : readS (bandP Z a) 256 = (sortL Z a, 0) := hrr
  rw [hrr] at rc
  unfold resI at rc
  dsimp only at rc
  rw [hsl] at rc
  have bc := fun H => bandPart_c hz hzig a h H
  have oc := fun H => outside_c 0 65535 H
  have hc1 := fun H => has_none 102 0 65535 a (by rw [h.len]; omega) (fun x hx H => out1_in 0 65535 x (h.bd x hx) H) H
  rw [h.len] at hc1
  have hzl : (iS .i64 Z).length = 256 := by rw [iS_length]; exact hz.len
  have hsl2 : (iS .i64 (sortL Z a)).length = 256 := by rw [iS_length]; exact hsl
  have hs0 : (List.replicate (256 : Int).toNat [AV.int .i64 0]).flatten = iS .i64 (scat Z (sortL Z a) 0) := dL_zero 256
  have hbu : (u8s (bandP Z a)).length = (bandP Z a).length := by simp
  generalize bandP Z a = B at *
  refine ACall.back ?_
  refine ACall_of tt_ok (dok _) Try.func51 rfl (by decide) rfl ?_
  iterate 4 ((repeat' ((conv => whnf); first | refine OpsA.cons ?_ | refine OpsA.nil ?_ | refine AWq.seq ?_ | refine AWq.region ?_ | refine AWq.cond ?_ | refine AWq.block ?_ | refine AWq.skip ?_ | refine AWq.ret ?_ | refine AWq.exit ?_ | refine AWq.loop ?_ | refine DrawA.consD ?_ | refine DrawA.nil ?_ | refine AWq.draw (by decide +kernel) ?_ | (refine Both.mk ?_ ?_ <;> intro hc <;> (first | exact Bool.noConfusion hc | exact absurd (by with_reducible rfl) hc | (exfalso; omega) | skip)) | (intro c hc; (try (simp only [AH.none_iff] at hc; repeat (have hn := hc.1; replace hc := hc.2))); (first | (refine i64_k hc ?_ ?_ ?_ ; omega; omega; (clear hc; intro hc; subst hc)) | skip)) | (apply Exists.intro; apply And.intro; (first | (focus (repeat (first | (with_reducible assumption))); done))) | (apply Exists.intro; apply And.intro; first | (with_reducible assumption) | ((try simp only [List.getElem?_drop, Nat.mul_one, Nat.add_zero, Nat.zero_add]); first | (with_reducible assumption) | rfl)) | (apply And.intro; (first | rfl | (with_reducible assumption) | omega | (simp <;> omega))) | (refine ACall.to (rc _) ?_) | (refine ACall.to (hzig _) ?_))) <;> (try (conv => whnf)); refine Then.mk ?_)
  (repeat' ((conv => whnf); first | refine OpsA.cons ?_ | refine OpsA.nil ?_ | refine AWq.seq ?_ | refine AWq.region ?_ | refine AWq.cond ?_ | refine AWq.block ?_ | refine AWq.skip ?_ | refine AWq.ret ?_ | refine AWq.exit ?_ | refine AWq.loop ?_ | refine DrawA.consD ?_ | refine DrawA.nil ?_ | refine AWq.draw (by decide +kernel) ?_ | (refine Both.mk ?_ ?_ <;> intro hc <;> (first | exact Bool.noConfusion hc | exact absurd (by with_reducible rfl) hc | (exfalso; omega) | skip)) | (intro c hc; (try (simp only [AH.none_iff] at hc; repeat (have hn := hc.1; replace hc := hc.2))); (first | (refine i64_k hc ?_ ?_ ?_ ; omega; omega; (clear hc; intro hc; subst hc)) | skip)) | (apply Exists.intro; apply And.intro; (first | (focus (repeat (first | (with_reducible assumption))); done))) | (apply Exists.intro; apply And.intro; first | (with_reducible assumption) | ((try simp only [List.getElem?_drop, Nat.mul_one, Nat.add_zero, Nat.zero_add]); first | (with_reducible assumption) | rfl)) | (apply And.intro; (first | rfl | (with_reducible assumption) | omega | (simp <;> omega))) | (refine ACall.to (hzig _) ?_))) <;> (try (conv => whnf))
  refine Then.mk ?_
  (repeat' ((conv => whnf); first | refine OpsA.cons ?_ | refine OpsA.nil ?_ | refine AWq.seq ?_ | refine AWq.region ?_ | refine AWq.cond ?_ | refine AWq.block ?_ | refine AWq.skip ?_ | refine AWq.ret ?_ | refine AWq.exit ?_ | refine AWq.loop ?_ | refine DrawA.consD ?_ | refine DrawA.nil ?_ | refine AWq.draw (by decide +kernel) ?_ | (refine Both.mk ?_ ?_ <;> intro hc <;> (first | exact Bool.noConfusion hc | exact absurd (by with_reducible rfl) hc | (exfalso; omega) | skip)) | (intro c hc; (try (simp only [AH.none_iff] at hc; repeat (have hn := hc.1; replace hc := hc.2))); (first | (refine i64_k hc ?_ ?_ ?_ ; omega; omega; (clear hc; intro hc; subst hc)) | skip)) | (apply Exists.intro; apply And.intro; (first | (focus (repeat (first | (with_reducible assumption))); done))) | (apply Exists.intro; apply And.intro; first | (with_reducible assumption) | ((try simp only [List.getElem?_drop, Nat.mul_one, Nat.add_zero, Nat.zero_add]); first | (with_reducible assumption) | rfl)) | (apply And.intro; (first | rfl | (with_reducible assumption) | omega | (simp <;> omega))))) <;> (try (conv => whnf))
  (obtain ⟨q, hq_⟩ : ∃ q, q = c := ⟨_, rfl⟩); subst hq_
  have hq : H q = none := hc
  refine Then.mk (AWq.in ?_)
  rw [hs0]
  clear hs0 hrr
  refine AWp.of tt_ok (dok _) rfl ?_
  (repeat' ((conv => whnf); first | refine Then.mk ?_ | refine OpsA.cons ?_ | refine OpsA.nil ?_ | refine AWq.seq ?_ | refine AWq.region ?_ | refine AWq.cond ?_ | refine AWq.block ?_ | refine AWq.skip ?_ | refine AWq.ret ?_ | refine AWq.exit ?_ | refine AWq.loop ?_ | refine DrawA.consD ?_ | refine DrawA.nil ?_ | refine AWq.draw (by decide +kernel) ?_ | (refine Both.mk ?_ ?_ <;> intro hc <;> (first | exact Bool.noConfusion hc | exact absurd (by with_reducible rfl) hc | (exfalso; omega) | skip)) | (intro c hc; (try (simp only [AH.none_iff] at hc; repeat (have hn := hc.1; replace hc := hc.2))); (first | (refine i64_k hc ?_ ?_ ?_ ; omega; omega; (clear hc; intro hc; subst hc)) | skip)) | (apply Exists.intro; apply And.intro; (first | (focus (repeat (first | (with_reducible assumption))); done))) | (apply Exists.intro; apply And.intro; first | (with_reducible assumption) | ((try simp only [List.getElem?_drop, Nat.mul_one, Nat.add_zero, Nat.zero_add]); first | (with_reducible assumption) | rfl)) | (apply And.intro; (first | rfl | (with_reducible assumption) | omega | (simp <;> omega))))) <;> (try (conv => whnf))
  refine AWp_loop (σ := Nat) (10 :: 11 :: 27 :: 28 :: 29 :: 30 :: 31 :: 32 :: 33 :: 34 :: 35 :: 36 :: 37 :: 38 :: 39 :: []) (fun k => [(27, .int .i64 k)]) (fun k => H.set q (.row (iS .i64 (scat Z (sortL Z a) k)) 0)) (fun k => k ≤ 256) (fun k => 256 - k) 0 rfl (Nat.zero_le _) ⟨rfl, trivial⟩ (HLe.refl _) ?_
  intro k hk
  refine AWp.of tt_ok (dok _) rfl ?_
  dsimp only at hk ⊢
  have gq := AH.set_same H q (.row (iS .i64 (scat Z (sortL Z a) k)) 0)
  have lq : (iS .i64 (scat Z (sortL Z a) k)).length = 256 := by rw [iS_length]; exact scat_len _ _ _
  by_cases hkt : k < 256
  · have hkz : k < Z.length := by rw [hz.len]; exact hkt
    have gz : (iS .i64 Z)[(k : Int).toNat]? = some (.int .i64 (Z.getD k 0)) := iS_get hkz
    have gs : (iS .i64 (sortL Z a))[(k : Int).toNat]? = some (.int .i64 ((sortL Z a).getD k 0)) := iS_get (by rw [Int.toNat_natCast, hsl]; exact hkt)
    have hb := hz.bd _ (getD_mem hkz)
    have hwr : wrA (iS .i64 (scat Z (sortL Z a) k)) (0 + (Z.getD k 0).toNat * 1) [.int .i64 ((sortL Z a).getD k 0)] = iS .i64 (scat Z (sortL Z a) (k + 1)) := by
      rw [show 0 + (Z.getD k 0).toNat * 1 = (Z.getD k 0).toNat by omega, iS_wr1 (by rw [scat_len]; omega)]; rfl
    generalize Z.getD k 0 = z at *
    generalize (sortL Z a).getD k 0 = v at *
    generalize hR2 : iS .i64 (scat Z (sortL Z a) (k + 1)) = R2 at *
    generalize iS .i64 (scat Z (sortL Z a) k) = R at *
    generalize iS .i64 (sortL Z a) = RS at *
    (repeat' ((conv => whnf); first | refine Then.mk ?_ | refine OpsA.cons ?_ | refine OpsA.nil ?_ | refine AWq.seq ?_ | refine AWq.region ?_ | refine AWq.cond ?_ | refine AWq.block ?_ | refine AWq.skip ?_ | refine AWq.ret ?_ | refine AWq.exit ?_ | refine AWq.loop ?_ | refine DrawA.consD ?_ | refine DrawA.nil ?_ | refine AWq.draw (by decide +kernel) ?_ | (refine Both.mk ?_ ?_ <;> intro hc <;> (first | exact Bool.noConfusion hc | exact absurd (by with_reducible rfl) hc | (exfalso; omega) | skip)) | (intro c hc; (try (simp only [AH.none_iff] at hc; repeat (have hn := hc.1; replace hc := hc.2))); (first | (refine i64_k hc ?_ ?_ ?_ ; omega; omega; (clear hc; intro hc; subst hc)) | skip)) | (apply Exists.intro; apply And.intro; (first | (focus (repeat (first | (with_reducible assumption))); done))) | (apply Exists.intro; apply And.intro; first | (with_reducible assumption) | ((try simp only [List.getElem?_drop, Nat.mul_one, Nat.add_zero, Nat.zero_add]); first | (with_reducible assumption) | rfl)) | (apply And.intro; (first | rfl | (with_reducible assumption) | omega | (simp <;> omega))))) <;> (try (conv => whnf))
    exact ⟨k + 1, hkt, by omega, ⟨congrArg (AV.int .i64) (by omega), trivial⟩, HLe.of_eq (by rw [AH.set_set, hR2]; exact congrArg (fun x => AH.set H q (.row x 0)) hwr.symm)⟩
  · have hke : k = 256 := by omega
    subst hke
    have hse := scat_end hz a
    rw [hse] at gq lq ⊢
    clear hse
    (repeat' ((conv => whnf); first | refine OpsA.cons ?_ | refine OpsA.nil ?_ | refine AWq.seq ?_ | refine AWq.region ?_ | refine AWq.cond ?_ | refine AWq.block ?_ | refine AWq.skip ?_ | refine AWq.ret ?_ | refine AWq.exit ?_ | refine AWq.loop ?_ | refine DrawA.consD ?_ | refine DrawA.nil ?_ | refine AWq.draw (by decide +kernel) ?_ | (refine Both.mk ?_ ?_ <;> intro hc <;> (first | exact Bool.noConfusion hc | exact absurd (by with_reducible rfl) hc | (exfalso; omega) | skip)) | (intro c hc; (try (simp only [AH.none_iff] at hc; repeat (have hn := hc.1; replace hc := hc.2))); (first | (refine i64_k hc ?_ ?_ ?_ ; omega; omega; (clear hc; intro hc; subst hc)) | skip)) | (apply Exists.intro; apply And.intro; (first | (focus (repeat (first | (with_reducible assumption))); done))) | (apply Exists.intro; apply And.intro; first | (with_reducible assumption) | ((try simp only [List.getElem?_drop, Nat.mul_one, Nat.add_zero, Nat.zero_add]); first | (with_reducible assumption) | rfl)) | (apply And.intro; (first | rfl | (with_reducible assumption) | omega | (simp <;> omega))))) <;> (try (conv => whnf))
    refine Then.mk ?_
    (repeat' ((conv => whnf); first | refine OpsA.cons ?_ | refine OpsA.nil ?_ | refine AWq.seq ?_ | refine AWq.region ?_ | refine AWq.cond ?_ | refine AWq.block ?_ | refine AWq.skip ?_ | refine AWq.ret ?_ | refine AWq.exit ?_ | refine AWq.loop ?_ | refine DrawA.consD ?_ | refine DrawA.nil ?_ | refine AWq.draw (by decide +kernel) ?_ | (refine Both.mk ?_ ?_ <;> intro hc <;> (first | exact Bool.noConfusion hc | exact absurd (by with_reducible rfl) hc | (exfalso; omega) | skip)) | (intro c hc; (try (simp only [AH.none_iff] at hc; repeat (have hn := hc.1; replace hc := hc.2))); (first | (refine i64_k hc ?_ ?_ ?_ ; omega; omega; (clear hc; intro hc; subst hc)) | skip)) | (apply Exists.intro; apply And.intro; (first | (focus (repeat (first | (with_reducible assumption))); done))) | (apply Exists.intro; apply And.intro; first | (with_reducible assumption) | ((try simp only [List.getElem?_drop, Nat.mul_one, Nat.add_zero, Nat.zero_add]); first | (with_reducible assumption) | rfl)) | (apply And.intro; (first | rfl | (with_reducible assumption) | omega | (simp <;> omega))))) <;> (try (conv => whnf))
    refine Then.mk (AWq.in ?_)
    refine AWp_freeze1 9 rfl rfl gq (by omega) ?_
    rw [AH.del_set _ _ _ hq]
    refine AWp.of tt_ok (dok _) rfl ?_
    (repeat' ((conv => whnf); first | refine Then.mk ?_ | refine OpsA.cons ?_ | refine OpsA.nil ?_ | refine AWq.seq ?_ | refine AWq.region ?_ | refine AWq.cond ?_ | refine AWq.block ?_ | refine AWq.skip ?_ | refine AWq.ret ?_ | refine AWq.exit ?_ | refine AWq.loop ?_ | refine DrawA.consD ?_ | refine DrawA.nil ?_ | refine AWq.draw (by decide +kernel) ?_ | (apply Exists.intro; apply And.intro; exact oc _) | (apply Exists.intro; apply And.intro; exact hc1 _) | (apply Exists.intro; apply And.intro; exact bc _) | (refine Both.mk ?_ ?_ <;> intro hc <;> (first | exact Bool.noConfusion hc | exact absurd (by with_reducible rfl) hc | (exfalso; omega) | skip)) | (intro c hc; (try (simp only [AH.none_iff] at hc; repeat (have hn := hc.1; replace hc := hc.2))); (first | (refine i64_k hc ?_ ?_ ?_ ; omega; omega; (clear hc; intro hc; subst hc)) | skip)) | (apply Exists.intro; apply And.intro; (first | (focus (repeat (first | (with_reducible assumption))); done))) | (apply Exists.intro; apply And.intro; first | (with_reducible assumption) | ((try simp only [List.getElem?_drop, Nat.mul_one, Nat.add_zero, Nat.zero_add]); first | (with_reducible assumption) | rfl)) | (apply And.intro; (first | rfl | (with_reducible assumption) | omega | (simp <;> omega))) | (refine ACall.to (iv _) ?_))) <;> (try (conv => whnf))
    exact HLe.refl _
open Go.Fw Go

def lowR (s : Int) (a : List Int) (t : Int) : List Int × Int :=
  if IsSide s ∧ IsSide t ∧ t ≤ s ∧ (a.length : Int) = s * s then sqR 4398046511104 inv t (toL t.toNat (ofL s.toNat a)) else ([], 1)

theorem sqR_len (m : Int) (f : Nat → Mat → Mat) (s : Int) (a : List Int) : (sqR m f s a).1.length ≤ 256 := by
  unfold sqR
  split
  · rename_i h
    obtain ⟨k, hk, hs⟩ := side_pow h.1
    split
    · rw [toL_len, hs, Int.toNat_natCast]
      exact Nat.mul_le_mul (pow_side hk).2.1 (pow_side hk).2.1
    · simp
  · simp
theorem lowR_len (s : Int) (a : List Int) (t : Int) : (lowR s a t).1.length ≤ 256 := by
  unfold lowR
  split
  · exact sqR_len _ _ _ _
  · simp

theorem take_row {T i : Nat} (M : Mat) (hi : i < T) : (toL T M).take ((i + 1) * T) = (toL T M).take (i * T) ++ lnL T (M i) := by
  rw [← toL_row M hi (Nat.le_refl T), Nat.add_mul, Nat.one_mul, List.take_add]

theorem part_list {S T i : Nat} {a : List Int} (hl : a.length = S * S) (hi : i < T) (hT : T ≤ S) : ((iS .i64 a).drop (i * S)).take T = iS .i64 (lnL T (ofL S a i)) := by
  rw [iS_drop, iS_take]
  refine congrArg (iS .i64) ?_
  have := toL_row (s := S) (n := T) (ofL S a) (show i < S by omega) hT
  rw [toL_ofL hl] at this
  exact this

set_option maxRecDepth 8000 in
theorem Low_c (s : Int) (h1 : -9223372036854775808 ≤ s) (h2 : s ≤ 9223372036854775807) (a : List Int) (hb : a.length ≤ 1000000) (t : Int) (g1 : -9223372036854775808 ≤ t) (g2 : t ≤ 9223372036854775807) (H : AH) :
    ACall Try.prog 34 [.int .i64 s, .cs (iS .i64 a) a.length, .int .i64 t] H (fun y H' => y = resV (lowR s a t) ∧ H' = H) := by
  have s1 := fun H => sides_c s h1 h2 H
  have s2 := fun H => sides_c t g1 g2 H
  obtain ⟨R, hR⟩ : ∃ R, R = lowR s a t := ⟨_, rfl⟩
  rw [← hR]
  unfold lowR at hR
  refine ACall.told ?_
  by_cases hs : IsSide s
  · rw [decide_eq_true hs] at s1
    have hs16 : 1 ≤ s ∧ s ≤ 16 := by unfold IsSide at hs; omega
    have hss : 0 ≤ s * s ∧ s * s ≤ 256 := by rcases hs with rfl | rfl | rfl | rfl | rfl <;> omega
    by_cases ht : IsSide t
    · rw [decide_eq_true ht] at s2
      have ht16 : 1 ≤ t ∧ t ≤ 16 := by unfold IsSide at ht; omega
      by_cases hle : t ≤ s ∧ (a.length : Int) = s * s
      · rw [if_pos ⟨hs, ht, hle⟩] at hR
        obtain ⟨S, rfl⟩ : ∃ S : Nat, s = S := ⟨s.toNat, by omega⟩
        obtain ⟨T, rfl⟩ : ∃ T : Nat, t = T := ⟨t.toNat, by omega⟩
        have hl : a.length = S * S := by have := hle.2; rw [← Int.natCast_mul] at this; omega
        have hTS : T ≤ S := by omega
        have hTT : T * T ≤ 256 := Nat.mul_le_mul (show T ≤ 16 by omega) (show T ≤ 16 by omega)
        obtain ⟨L, hL⟩ : ∃ L, L = toL T (ofL S a) := ⟨_, rfl⟩
        have lL : L.length = T * T := by rw [hL]; exact toL_len _ _
        have hi := fun H => Inverse_c (T : Int) g1 g2 L (by omega) H
        rw [Int.toNat_natCast, Int.toNat_natCast, ← hL] at hR
        rw [← hR] at hi
        refine ACall_of tt_ok (dok _) Try.func34 rfl (by decide) rfl ?_
        (repeat' ((conv => whnf); first | refine Then.mk ?_ | refine OpsA.cons ?_ | refine OpsA.nil ?_ | refine AWq.seq ?_ | refine AWq.region ?_ | refine AWq.cond ?_ | refine AWq.block ?_ | refine AWq.skip ?_ | refine AWq.ret ?_ | refine AWq.exit ?_ | refine AWq.loop ?_ | (refine Both.mk ?_ ?_ <;> intro hc <;> (first | exact Bool.noConfusion hc | (exfalso; omega) | skip)) | (intro c hc; (try (simp only [AH.none_iff] at hc; repeat (have hn := hc.1; replace hc := hc.2))); (first | (refine i64_k hc ?_ ?_ ?_ ; omega; omega; (clear hc; intro hc; subst hc)) | skip)) | (apply Exists.intro; apply And.intro; (first | (focus (repeat (first | (with_reducible assumption) | (with_reducible exact AH.set_same _ _ _))); done))) | (apply And.intro; (first | rfl | (with_reducible assumption) | omega | (simp <;> fail) | (simp <;> omega) | (focus (repeat' (first | (with_reducible assumption) | exact one_iS _ _ | rfl | apply one_take | apply one_drop)); done))) | (refine ACall.to (s1 _) ?_) | (refine ACall.to (s2 _) ?_))) <;> (try (conv => whnf))
        refine AWp_nilrow1 8 1 rfl rfl fun r1 hr1 => ?_
        refine AWp_loop (σ := Nat × Nat) (8 :: 9 :: 32 :: 33 :: 34 :: 35 :: 36 :: 37 :: 38 :: 39 :: 40 :: 41 :: 42 :: 43 :: 44 :: 45 :: 46 :: 47 :: []) (fun (i, v) => [(32, .int .i64 i), (8, .sl r1 v 1 0 (i * T) none)]) (fun (i, v) => AH.set H r1 (.row (iS .i64 (L.take (i * T))) v)) (fun (i, v) => i ≤ T) (fun (i, v) => T - i) (0, 0) rfl ?_ ?_ ?_ ?_
        · exact Nat.zero_le _
        · exact ⟨rfl, by show AV.sl r1 0 1 0 0 none = AV.sl r1 0 1 0 (0 * T) none; rw [Nat.zero_mul], trivial⟩
        · refine HLe.of_eq ?_
          show AH.set H r1 (.row (iS .i64 (L.take (0 * T))) 0) = _
          rw [Nat.zero_mul]; rfl
        · rintro ⟨i, v⟩ hiT
          dsimp only at hiT ⊢
          refine AWp.of tt_ok (dok _) rfl ?_
          by_cases hlt : i < T
          · have p1 : 0 ≤ (i : Int) * S := Int.mul_nonneg (by omega) (by omega)
            have p2 : i * S + T ≤ S * S := by
              have : (i + 1) * S ≤ S * S := Nat.mul_le_mul_right _ (by omega)
              rw [Nat.add_mul] at this; omega
            have p3 : (i : Int) * S = ((i * S : Nat) : Int) := (Int.natCast_mul _ _).symm
            have p5 : i * T + T ≤ T * T := by
              have : (i + 1) * T ≤ T * T := Nat.mul_le_mul_right _ (by omega)
              rw [Nat.add_mul] at this; omega
            have e1 : ((i : Int) * S + T).toNat - ((i : Int) * S).toNat = T := by omega
            have e2 : ((i : Int) * S).toNat = i * S := by omega
            have lt : (L.take (i * T)).length = i * T := by rw [List.length_take]; omega
            have hpl := part_list hl hlt hTS
            have hcl : (List.take T (List.drop (i * S) (iS .i64 a))).length = T := by rw [hpl, iS_length, lnL_len]
            (repeat' ((conv => whnf); first | refine Then.mk ?_ | refine OpsA.cons ?_ | refine OpsA.nil ?_ | refine AWq.seq ?_ | refine AWq.region ?_ | refine AWq.cond ?_ | refine AWq.block ?_ | refine AWq.skip ?_ | refine AWq.ret ?_ | refine AWq.exit ?_ | refine AWq.loop ?_ | (refine Both.mk ?_ ?_ <;> intro hc <;> (first | exact Bool.noConfusion hc | (exfalso; omega) | skip)) | (intro c hc; (try (simp only [AH.none_iff] at hc; repeat (have hn := hc.1; replace hc := hc.2))); (first | (refine i64_k hc ?_ ?_ ?_ ; omega; omega; (clear hc; intro hc; subst hc)) | skip)) | (apply Exists.intro; apply And.intro; (first | (focus (repeat (first | (with_reducible assumption) | (with_reducible exact AH.set_same _ _ _))); done))) | (apply And.intro; (first | rfl | (with_reducible assumption) | omega | (simp <;> fail) | (simp <;> omega) | (focus (repeat' (first | (with_reducible assumption) | exact one_iS _ _ | rfl | apply one_take | apply one_drop)); done))))) <;> (try (conv => whnf))
            refine ⟨(i + 1, v + 1), by show i + 1 ≤ T; omega, by show T - (i + 1) < T - i; omega, ⟨congrArg (AV.int .i64) (by omega), ?_, trivial⟩, HLe.of_eq (Eq.symm ((AH.set_set _ _ _ _).trans ?_))⟩
            · show AV.sl r1 (v + 1) 1 0 (i * T + (((i : Int) * S + T).toNat - ((i : Int) * S).toNat)) none = AV.sl r1 (v + 1) 1 0 ((i + 1) * T) none
              rw [e1, Nat.add_mul, Nat.one_mul]
            · refine congrArg (fun l => AH.set H r1 (.row l (v + 1))) ?_
              show iS .i64 (L.take (i * T)) ++ List.take ((((i : Int) * S + T).toNat - ((i : Int) * S).toNat) * 1) (List.drop (((i : Int) * S).toNat * 1) (iS .i64 a)) = iS .i64 (L.take ((i + 1) * T))
              rw [e1, e2, Nat.mul_one, Nat.mul_one, hpl, iS_append, hL, take_row _ hlt]
          · have hie : i = T := by omega
            have hLL : L.take (i * T) = L := List.take_of_length_le (by rw [hie, lL]; exact Nat.le_refl _)
            rw [hLL, hie, ← lL]
            (repeat' ((conv => whnf); first | refine Then.mk ?_ | refine OpsA.cons ?_ | refine OpsA.nil ?_ | refine AWq.seq ?_ | refine AWq.region ?_ | refine AWq.cond ?_ | refine AWq.block ?_ | refine AWq.skip ?_ | refine AWq.ret ?_ | refine AWq.exit ?_ | refine AWq.loop ?_ | (refine Both.mk ?_ ?_ <;> intro hc <;> (first | exact Bool.noConfusion hc | (exfalso; omega) | skip)) | (intro c hc; (try (simp only [AH.none_iff] at hc; repeat (have hn := hc.1; replace hc := hc.2))); (first | (refine i64_k hc ?_ ?_ ?_ ; omega; omega; (clear hc; intro hc; subst hc)) | skip)) | (apply Exists.intro; apply And.intro; (first | (focus (repeat (first | (with_reducible assumption) | (with_reducible exact AH.set_same _ _ _))); done))) | (apply And.intro; (first | rfl | (with_reducible assumption) | omega | (simp <;> fail) | (simp <;> omega) | (focus (repeat' (first | (with_reducible assumption) | exact one_iS _ _ | rfl | apply one_take | apply one_drop)); done))))) <;> (try (conv => whnf))
            refine ACall.frz (pre := [.int .i64 T]) (post := []) (n := L.length) (cells := iS .i64 L) (AH.set_same _ _ _) (by simp) ?_
            (repeat' ((conv => whnf); first | refine Then.mk ?_ | refine OpsA.cons ?_ | refine OpsA.nil ?_ | refine AWq.seq ?_ | refine AWq.region ?_ | refine AWq.cond ?_ | refine AWq.block ?_ | refine AWq.skip ?_ | refine AWq.ret ?_ | refine AWq.exit ?_ | refine AWq.loop ?_ | (refine Both.mk ?_ ?_ <;> intro hc <;> (first | exact Bool.noConfusion hc | (exfalso; omega) | skip)) | (intro c hc; (try (simp only [AH.none_iff] at hc; repeat (have hn := hc.1; replace hc := hc.2))); (first | (refine i64_k hc ?_ ?_ ?_ ; omega; omega; (clear hc; intro hc; subst hc)) | skip)) | (apply Exists.intro; apply And.intro; (first | (focus (repeat (first | (with_reducible assumption) | (with_reducible exact AH.set_same _ _ _))); done))) | (apply And.intro; (first | rfl | (with_reducible assumption) | omega | (simp <;> fail) | (simp <;> omega) | (focus (repeat' (first | (with_reducible assumption) | exact one_iS _ _ | rfl | apply one_take | apply one_drop)); done))) | (refine ACall.to (hi _) ?_))) <;> (try (conv => whnf))
            exact ⟨resV R, H, AVle.refl _, HLe.del _ (HLe.fresh _ hr1) hr1, rfl, rfl⟩
      · rw [if_neg (fun h => hle h.2.2)] at hR
        refine ACall_of tt_ok (dok _) Try.func34 rfl (by decide) rfl ?_
        (repeat' ((conv => whnf); first | refine Then.mk ?_ | refine OpsA.cons ?_ | refine OpsA.nil ?_ | refine AWq.seq ?_ | refine AWq.region ?_ | refine AWq.cond ?_ | refine AWq.block ?_ | refine AWq.skip ?_ | refine AWq.ret ?_ | refine AWq.exit ?_ | refine AWq.loop ?_ | (refine Both.mk ?_ ?_ <;> intro hc <;> (first | exact Bool.noConfusion hc | (exfalso; omega) | skip)) | (intro c hc; (try (simp only [AH.none_iff] at hc; repeat (have hn := hc.1; replace hc := hc.2))); (first | (refine i64_k hc ?_ ?_ ?_ ; omega; omega; (clear hc; intro hc; subst hc)) | skip)) | (apply Exists.intro; apply And.intro; (first | (focus (repeat (first | (with_reducible assumption) | (with_reducible exact AH.set_same _ _ _))); done))) | (apply And.intro; (first | rfl | (with_reducible assumption) | omega | (simp <;> fail) | (simp <;> omega) | (focus (repeat' (first | (with_reducible assumption) | exact one_iS _ _ | rfl | apply one_take | apply one_drop)); done))) | (refine ACall.to (s1 _) ?_) | (refine ACall.to (s2 _) ?_))) <;> (try (conv => whnf))
        all_goals exact res_told hR
    · rw [decide_eq_false ht] at s2
      rw [if_neg (fun h => ht h.2.1)] at hR
      refine ACall_of tt_ok (dok _) Try.func34 rfl (by decide) rfl ?_
      (repeat' ((conv => whnf); first | refine Then.mk ?_ | refine OpsA.cons ?_ | refine OpsA.nil ?_ | refine AWq.seq ?_ | refine AWq.region ?_ | refine AWq.cond ?_ | refine AWq.block ?_ | refine AWq.skip ?_ | refine AWq.ret ?_ | refine AWq.exit ?_ | refine AWq.loop ?_ | (refine Both.mk ?_ ?_ <;> intro hc <;> (first | exact Bool.noConfusion hc | (exfalso; omega) | skip)) | (intro c hc; (try (simp only [AH.none_iff] at hc; repeat (have hn := hc.1; replace hc := hc.2))); (first | (refine i64_k hc ?_ ?_ ?_ ; omega; omega; (clear hc; intro hc; subst hc)) | skip)) | (apply Exists.intro; apply And.intro; (first | (focus (repeat (first | (with_reducible assumption) | (with_reducible exact AH.set_same _ _ _))); done))) | (apply And.intro; (first | rfl | (with_reducible assumption) | omega | (simp <;> fail) | (simp <;> omega) | (focus (repeat' (first | (with_reducible assumption) | exact one_iS _ _ | rfl | apply one_take | apply one_drop)); done))) | (refine ACall.to (s1 _) ?_) | (refine ACall.to (s2 _) ?_))) <;> (try (conv => whnf))
      exact res_told hR
  · rw [decide_eq_false hs] at s1
    rw [if_neg (fun h => hs h.1)] at hR
    refine ACall_of tt_ok (dok _) Try.func34 rfl (by decide) rfl ?_
    (repeat' ((conv => whnf); first | refine Then.mk ?_ | refine OpsA.cons ?_ | refine OpsA.nil ?_ | refine AWq.seq ?_ | refine AWq.region ?_ | refine AWq.cond ?_ | refine AWq.block ?_ | refine AWq.skip ?_ | refine AWq.ret ?_ | refine AWq.exit ?_ | refine AWq.loop ?_ | (refine Both.mk ?_ ?_ <;> intro hc <;> (first | exact Bool.noConfusion hc | (exfalso; omega) | skip)) | (intro c hc; (try (simp only [AH.none_iff] at hc; repeat (have hn := hc.1; replace hc := hc.2))); (first | (refine i64_k hc ?_ ?_ ?_ ; omega; omega; (clear hc; intro hc; subst hc)) | skip)) | (apply Exists.intro; apply And.intro; (first | (focus (repeat (first | (with_reducible assumption) | (with_reducible exact AH.set_same _ _ _))); done))) | (apply And.intro; (first | rfl | (with_reducible assumption) | omega | (simp <;> fail) | (simp <;> omega) | (focus (repeat' (first | (with_reducible assumption) | exact one_iS _ _ | rfl | apply one_take | apply one_drop)); done))) | (refine ACall.to (s1 _) ?_) | (refine ACall.to (s2 _) ?_))) <;> (try (conv => whnf))
    exact res_told hR

set_option maxRecDepth 8000 in
theorem rLow_c (s : Int) (h1 : -9223372036854775808 ≤ s) (h2 : s ≤ 9223372036854775807) (a : List Int) (hb : a.length ≤ 1000000) (t : Int) (g1 : -9223372036854775808 ≤ t) (g2 : t ≤ 9223372036854775807) (H : AH) :
    ACall Try.prog 36 [.int .i64 s, .cs (iS .i64 a) a.length, .int .i64 t] H (fun y H' => y = resV (lowR s a t) ∧ H' = H) := by
  have s1 := fun H => Side_c s h1 h2 H
  have s2 := fun H => Side_c t g1 g2 H
  obtain ⟨R, hR⟩ : ∃ R, R = lowR s a t := ⟨_, rfl⟩
  rw [← hR]
  unfold lowR at hR
  refine ACall.told ?_
  by_cases hs : IsSide s
  · rw [decide_eq_true hs] at s1
    have hs16 : 1 ≤ s ∧ s ≤ 16 := by unfold IsSide at hs; omega
    have hss : 0 ≤ s * s ∧ s * s ≤ 256 := by rcases hs with rfl | rfl | rfl | rfl | rfl <;> omega
    by_cases ht : IsSide t
    · rw [decide_eq_true ht] at s2
      have ht16 : 1 ≤ t ∧ t ≤ 16 := by unfold IsSide at ht; omega
      by_cases hle : t ≤ s ∧ (a.length : Int) = s * s
      · rw [if_pos ⟨hs, ht, hle⟩] at hR
        obtain ⟨S, rfl⟩ : ∃ S : Nat, s = S := ⟨s.toNat, by omega⟩
        obtain ⟨T, rfl⟩ : ∃ T : Nat, t = T := ⟨t.toNat, by omega⟩
        have hl : a.length = S * S := by have := hle.2; rw [← Int.natCast_mul] at this; omega
        have hTS : T ≤ S := by omega
        have hTT : T * T ≤ 256 := Nat.mul_le_mul (show T ≤ 16 by omega) (show T ≤ 16 by omega)
        obtain ⟨L, hL⟩ : ∃ L, L = toL T (ofL S a) := ⟨_, rfl⟩
        have lL : L.length = T * T := by rw [hL]; exact toL_len _ _
        have hi := fun H => rInverse_c (T : Int) g1 g2 L (by omega) H
        rw [Int.toNat_natCast, Int.toNat_natCast, ← hL] at hR
        rw [← hR] at hi
        have hm0 : iS .i64 a = mL S (ofL S a) := by unfold mL; rw [toL_ofL hl]
        have hpk := fun i (hi : i < T) H => part_rk S T i (by omega) hTS (by omega) (ofL S a) (iS .i64 a) H (by rw [iS_length, hl]) (fun r c hr hc => by rw [hm0]; exact mL_get _ hr hc)
        refine ACall_of tt_ok (dok _) Try.func36 rfl (by decide) rfl ?_
        (repeat' ((conv => whnf); first | refine Then.mk ?_ | refine OpsA.cons ?_ | refine OpsA.nil ?_ | refine AWq.seq ?_ | refine AWq.region ?_ | refine AWq.cond ?_ | refine AWq.block ?_ | refine AWq.skip ?_ | refine AWq.ret ?_ | refine AWq.exit ?_ | refine AWq.loop ?_ | (refine Both.mk ?_ ?_ <;> intro hc <;> (first | exact Bool.noConfusion hc | (exfalso; omega) | skip)) | (intro c hc; (try (simp only [AH.none_iff] at hc; repeat (have hn := hc.1; replace hc := hc.2))); (first | (refine i64_k hc ?_ ?_ ?_ ; omega; omega; (clear hc; intro hc; subst hc)) | skip)) | (apply Exists.intro; apply And.intro; (first | (focus (repeat (first | (with_reducible exact AH.set_same _ _ _))); done))) | (apply And.intro; (first | rfl | omega | (simp <;> fail) | (simp <;> omega) | (focus (repeat' (first | exact one_iS _ _ | rfl)); done))) | (refine ACall.to (s1 _) ?_) | (refine ACall.to (s2 _) ?_))) <;> (try (conv => whnf))
        refine AWp_nilrow1 10 1 rfl rfl fun r1 hr1 => ?_
        refine AWp_loop (σ := Nat × Nat) (10 :: 11 :: 35 :: 36 :: 37 :: 38 :: 39 :: 40 :: 41 :: 42 :: 43 :: 44 :: 45 :: 46 :: []) (fun (i, v) => [(11, .int .i64 i), (10, .sl r1 v 1 0 (i * T) none)]) (fun (i, v) => AH.set H r1 (.row (iS .i64 (L.take (i * T))) v)) (fun (i, v) => i ≤ T) (fun (i, v) => T - i) (0, 0) rfl ?_ ?_ ?_ ?_
        · exact Nat.zero_le _
        · exact ⟨rfl, by show AV.sl r1 0 1 0 0 none = AV.sl r1 0 1 0 (0 * T) none; rw [Nat.zero_mul], trivial⟩
        · refine HLe.of_eq ?_
          show AH.set H r1 (.row (iS .i64 (L.take (0 * T))) 0) = _
          rw [Nat.zero_mul]; rfl
        · rintro ⟨i, v⟩ hiT
          dsimp only at hiT ⊢
          refine AWp.of tt_ok (dok _) rfl ?_
          by_cases hlt : i < T
          · have p5 : i * T + T ≤ T * T := by
              have : (i + 1) * T ≤ T * T := Nat.mul_le_mul_right _ (by omega)
              rw [Nat.add_mul] at this; omega
            have lt : (L.take (i * T)).length = i * T := by rw [List.length_take]; omega
            have hp := hpk i hlt
            rw [← hl] at hp
            have li := iL_len T (ofL S a i)
            (repeat' ((conv => whnf); first | refine Then.mk ?_ | refine OpsA.cons ?_ | refine OpsA.nil ?_ | refine AWq.seq ?_ | refine AWq.region ?_ | refine AWq.cond ?_ | refine AWq.block ?_ | refine AWq.skip ?_ | refine AWq.ret ?_ | refine AWq.exit ?_ | refine AWq.loop ?_ | (refine Both.mk ?_ ?_ <;> intro hc <;> (first | exact Bool.noConfusion hc | (exfalso; omega) | skip)) | (intro c hc; (try (simp only [AH.none_iff] at hc; repeat (have hn := hc.1; replace hc := hc.2))); (first | (refine i64_k hc ?_ ?_ ?_ ; omega; omega; (clear hc; intro hc; subst hc)) | skip)) | (apply Exists.intro; apply And.intro; (first | (focus (repeat (first | (with_reducible exact AH.set_same _ _ _))); done))) | (apply And.intro; (first | rfl | omega | (simp <;> fail) | (simp <;> omega) | (focus (repeat' (first | exact one_iS _ _ | rfl)); done))) | (refine ACall.to (hp _) ?_))) <;> (try (conv => whnf))
            refine ⟨(i + 1, v + 1), by show i + 1 ≤ T; omega, by show T - (i + 1) < T - i; omega, ⟨congrArg (AV.int .i64) (by omega), ?_, trivial⟩, HLe.of_eq (Eq.symm ((AH.set_set _ _ _ _).trans ?_))⟩
            · show AV.sl r1 (v + 1) 1 0 (i * T + T) none = AV.sl r1 (v + 1) 1 0 ((i + 1) * T) none
              rw [Nat.add_mul, Nat.one_mul]
            · refine congrArg (fun l => AH.set H r1 (.row l (v + 1))) ?_
              show iS .i64 (L.take (i * T)) ++ iS .i64 (lnL T (ofL S a i)) = iS .i64 (L.take ((i + 1) * T))
              rw [iS_append, hL, take_row _ hlt]
          · have hie : i = T := by omega
            have hLL : L.take (i * T) = L := List.take_of_length_le (by rw [hie, lL]; exact Nat.le_refl _)
            rw [hLL, hie, ← lL]
            (repeat' ((conv => whnf); first | refine Then.mk ?_ | refine OpsA.cons ?_ | refine OpsA.nil ?_ | refine AWq.seq ?_ | refine AWq.region ?_ | refine AWq.cond ?_ | refine AWq.block ?_ | refine AWq.skip ?_ | refine AWq.ret ?_ | refine AWq.exit ?_ | refine AWq.loop ?_ | (refine Both.mk ?_ ?_ <;> intro hc <;> (first | exact Bool.noConfusion hc | (exfalso; omega) | skip)) | (intro c hc; (try (simp only [AH.none_iff] at hc; repeat (have hn := hc.1; replace hc := hc.2))); (first | (refine i64_k hc ?_ ?_ ?_ ; omega; omega; (clear hc; intro hc; subst hc)) | skip)) | (apply Exists.intro; apply And.intro; (first | (focus (repeat (first | (with_reducible exact AH.set_same _ _ _))); done))) | (apply And.intro; (first | rfl | omega | (simp <;> fail) | (simp <;> omega) | (focus (repeat' (first | exact one_iS _ _ | rfl)); done))))) <;> (try (conv => whnf))
            refine ACall.frz (pre := [.int .i64 T]) (post := []) (n := L.length) (cells := iS .i64 L) (AH.set_same _ _ _) (by simp) ?_
            (repeat' ((conv => whnf); first | refine Then.mk ?_ | refine OpsA.cons ?_ | refine OpsA.nil ?_ | refine AWq.seq ?_ | refine AWq.region ?_ | refine AWq.cond ?_ | refine AWq.block ?_ | refine AWq.skip ?_ | refine AWq.ret ?_ | refine AWq.exit ?_ | refine AWq.loop ?_ | (refine Both.mk ?_ ?_ <;> intro hc <;> (first | exact Bool.noConfusion hc | (exfalso; omega) | skip)) | (intro c hc; (try (simp only [AH.none_iff] at hc; repeat (have hn := hc.1; replace hc := hc.2))); (first | (refine i64_k hc ?_ ?_ ?_ ; omega; omega; (clear hc; intro hc; subst hc)) | skip)) | (apply Exists.intro; apply And.intro; (first | (focus (repeat (first | (with_reducible exact AH.set_same _ _ _))); done))) | (apply And.intro; (first | rfl | omega | (simp <;> fail) | (simp <;> omega) | (focus (repeat' (first | exact one_iS _ _ | rfl)); done))) | (refine ACall.to (hi _) ?_))) <;> (try (conv => whnf))
            exact ⟨resV R, H, AVle.refl _, HLe.del _ (HLe.fresh _ hr1) hr1, rfl, rfl⟩
      · rw [if_neg (fun h => hle h.2.2)] at hR
        refine ACall_of tt_ok (dok _) Try.func36 rfl (by decide) rfl ?_
        (repeat' ((conv => whnf); first | refine Then.mk ?_ | refine OpsA.cons ?_ | refine OpsA.nil ?_ | refine AWq.seq ?_ | refine AWq.region ?_ | refine AWq.cond ?_ | refine AWq.block ?_ | refine AWq.skip ?_ | refine AWq.ret ?_ | refine AWq.exit ?_ | refine AWq.loop ?_ | (refine Both.mk ?_ ?_ <;> intro hc <;> (first | exact Bool.noConfusion hc | (exfalso; omega) | skip)) | (intro c hc; (try (simp only [AH.none_iff] at hc; repeat (have hn := hc.1; replace hc := hc.2))); (first | (refine i64_k hc ?_ ?_ ?_ ; omega; omega; (clear hc; intro hc; subst hc)) | skip)) | (apply Exists.intro; apply And.intro; (first | (focus (repeat (first | (with_reducible exact AH.set_same _ _ _))); done))) | (apply And.intro; (first | rfl | omega | (simp <;> fail) | (simp <;> omega) | (focus (repeat' (first | exact one_iS _ _ | rfl)); done))) | (refine ACall.to (s1 _) ?_) | (refine ACall.to (s2 _) ?_))) <;> (try (conv => whnf))
        all_goals exact res_told hR
    · rw [decide_eq_false ht] at s2
      rw [if_neg (fun h => ht h.2.1)] at hR
      refine ACall_of tt_ok (dok _) Try.func36 rfl (by decide) rfl ?_
      (repeat' ((conv => whnf); first | refine Then.mk ?_ | refine OpsA.cons ?_ | refine OpsA.nil ?_ | refine AWq.seq ?_ | refine AWq.region ?_ | refine AWq.cond ?_ | refine AWq.block ?_ | refine AWq.skip ?_ | refine AWq.ret ?_ | refine AWq.exit ?_ | refine AWq.loop ?_ | (refine Both.mk ?_ ?_ <;> intro hc <;> (first | exact Bool.noConfusion hc | (exfalso; omega) | skip)) | (intro c hc; (try (simp only [AH.none_iff] at hc; repeat (have hn := hc.1; replace hc := hc.2))); (first | (refine i64_k hc ?_ ?_ ?_ ; omega; omega; (clear hc; intro hc; subst hc)) | skip)) | (apply Exists.intro; apply And.intro; (first | (focus (repeat (first | (with_reducible exact AH.set_same _ _ _))); done))) | (apply And.intro; (first | rfl | omega | (simp <;> fail) | (simp <;> omega) | (focus (repeat' (first | exact one_iS _ _ | rfl)); done))) | (refine ACall.to (s1 _) ?_) | (refine ACall.to (s2 _) ?_))) <;> (try (conv => whnf))
      exact res_told hR
  · rw [decide_eq_false hs] at s1
    rw [if_neg (fun h => hs h.1)] at hR
    refine ACall_of tt_ok (dok _) Try.func36 rfl (by decide) rfl ?_
    (repeat' ((conv => whnf); first | refine Then.mk ?_ | refine OpsA.cons ?_ | refine OpsA.nil ?_ | refine AWq.seq ?_ | refine AWq.region ?_ | refine AWq.cond ?_ | refine AWq.block ?_ | refine AWq.skip ?_ | refine AWq.ret ?_ | refine AWq.exit ?_ | refine AWq.loop ?_ | (refine Both.mk ?_ ?_ <;> intro hc <;> (first | exact Bool.noConfusion hc | (exfalso; omega) | skip)) | (intro c hc; (try (simp only [AH.none_iff] at hc; repeat (have hn := hc.1; replace hc := hc.2))); (first | (refine i64_k hc ?_ ?_ ?_ ; omega; omega; (clear hc; intro hc; subst hc)) | skip)) | (apply Exists.intro; apply And.intro; (first | (focus (repeat (first | (with_reducible exact AH.set_same _ _ _))); done))) | (apply And.intro; (first | rfl | omega | (simp <;> fail) | (simp <;> omega) | (focus (repeat' (first | exact one_iS _ _ | rfl)); done))) | (refine ACall.to (s1 _) ?_) | (refine ACall.to (s2 _) ?_))) <;> (try (conv => whnf))
    all_goals exact res_told hR
open Go.Fw Go

def Zg (Z : List Int) : Prop := ∀ H, ACall Try.prog 62 [.int .i64 16] H (fun y H' => y = .tup [.cs (iS .i64 Z) 256, .int .i64 0] ∧ H' = H)
theorem zg_ex : ∃ Z, ZO Z ∧ Zg Z := by
  refine ⟨zgz (2 ^ 4) 4, zo_16, fun H => ?_⟩
  have h := zig_ok 4 (by decide) H
  have hl := zo_16.len
  generalize zgz (2 ^ 4) 4 = Z at *
  unfold resV at h
  dsimp only at h
  rw [hl] at h
  exact h
theorem Well.lb {n : Nat} {L P : List Int} (w : Well n L P) : LbOk L := by
  refine ⟨w.l, fun x hx => ?_⟩
  obtain ⟨i, hi, rfl⟩ := List.getElem_of_mem hx
  have := (w.ok i (by rw [← w.l]; exact hi)).1
  rw [List.getD_eq_getElem?_getD, List.getElem?_eq_getElem hi] at this
  exact this
theorem parts_0 (Z : List Int) (n : Nat) (L P : List Int) : (partsT Z n L P n)[0]? = some (labP L) := rfl
theorem parts_k (Z : List Int) {n k : Nat} (L P : List Int) (hk : k < n) : (partsT Z n L P n)[k + 1]? = some (bandP Z (bandL n P k)) := by
  unfold partsT
  rw [List.getElem?_cons_succ, fnL_get _ hk]
section
variable {Z : List Int} (hz : ZO Z) (hzig : Zg Z) {n : Nat} (hn : 1 ≤ n ∧ n ≤ 4) {L P : List Int} (w : Well n L P) (H : AH)
include hz hn w
theorem split_t : ACall Try.prog 49 [.cs (u8s (packT Z n L P)) (packT Z n L P).length] H (fun y H' => y = .tup [.cs (pvL (partsT Z n L P n)) (n + 1), .int .i64 0] ∧ H' = H) := by
  have := split_ok (partsT Z n L P n) (by rw [partsT_len]; omega) (by rw [partsT_len]; omega) (parts_le hz w (Nat.le_refl _)) H
  rw [partsT_len] at this
  exact this
set_option maxRecDepth 8000 in
theorem Labels_t : ACall Try.prog 23 [.cs (u8s (packT Z n L P)) (packT Z n L P).length] H (fun y H' => y = .tup [.cs (iS .i64 L) 256, .int .i64 0] ∧ H' = H) := by
  have sc := fun H => split_t hz hn w H
  have lc := fun H => labels_ok L w.lb H
  have g0 : (pvL (partsT Z n L P n))[(0 : Int).toNat]? = some (.cs (u8s (labP L)) (labP L).length) := pvL_get (parts_0 Z n L P)
  have lp : (pvL (partsT Z n L P n)).length = n + 1 := by rw [pvL_len, partsT_len]
  generalize pvL (partsT Z n L P n) = R at *
  generalize packT Z n L P = B at *
  refine ACall_of tt_ok (dok _) Try.func23 rfl (by decide) rfl ?_
  (repeat' ((conv => whnf); first | refine Then.mk ?_ | refine OpsA.cons ?_ | refine OpsA.nil ?_ | refine AWq.seq ?_ | refine AWq.region ?_ | refine AWq.cond ?_ | refine AWq.skip ?_ | refine AWq.ret ?_ | (refine Both.mk ?_ ?_ <;> intro hc <;> (first | exact Bool.noConfusion hc | exact absurd (by with_reducible rfl) hc | skip)) | (apply Exists.intro; apply And.intro; (first | (focus (repeat (first | assumption)); done))) | (apply And.intro; (first | rfl | exact Nat.le_of_ble_eq_true rfl | omega | assumption)) | (refine ACall.to (sc _) ?_) | (refine ACall.to (lc _) ?_))) <;> (try (conv => whnf))
set_option maxRecDepth 8000 in
theorem Thumb_bad (t : Int) : ACall Try.prog 10 [.cs (u8s (packT Z n L P)) (packT Z n L P).length, .int .i64 n, .int .i64 t] H (fun y H' => y = .tup [.nils, .int .i64 1] ∧ H' = H) := by
  have sc := fun H => split_t hz hn w H
  have lp : (pvL (partsT Z n L P n)).length = n + 1 := by rw [pvL_len, partsT_len]
  generalize pvL (partsT Z n L P n) = R at *
  generalize packT Z n L P = B at *
  have oc : ∀ H, ACall Try.prog 33 [.cs (u8s B) B.length, .int .i64 n] H (fun y H' => y = .tup [.nils, .nils, .int .i64 1] ∧ H' = H) := fun H => by
    refine ACall_of tt_ok (dok _) Try.func33 rfl (by decide) rfl ?_
    (repeat' ((conv => whnf); first | refine Then.mk ?_ | refine OpsA.cons ?_ | refine OpsA.nil ?_ | refine AWq.seq ?_ | refine AWq.region ?_ | refine AWq.cond ?_ | refine AWq.block ?_ | refine AWq.ret ?_ | (refine Both.mk ?_ ?_ <;> intro hc <;> (first | exact Bool.noConfusion hc | exact absurd (by with_reducible rfl) hc | (exfalso; omega) | skip)) | (intro c hc; (try (simp only [AH.none_iff] at hc; repeat (have hn := hc.1; replace hc := hc.2))); (first | (refine i64_k hc ?_ ?_ ?_ ; omega; omega; (clear hc; intro hc; subst hc)) | skip)) | (apply And.intro; (first | rfl)) | (refine ACall.to (sc _) ?_))) <;> (try (conv => whnf))
  refine ACall_of tt_ok (dok _) Try.func10 rfl (by decide) rfl ?_
  (repeat' ((conv => whnf); first | refine Then.mk ?_ | refine OpsA.cons ?_ | refine OpsA.nil ?_ | refine AWq.seq ?_ | refine AWq.region ?_ | refine AWq.cond ?_ | refine AWq.block ?_ | refine AWq.ret ?_ | (refine Both.mk ?_ ?_ <;> intro hc <;> (first | exact Bool.noConfusion hc | exact absurd (by with_reducible rfl) hc | (exfalso; omega) | skip)) | (intro c hc; (try (simp only [AH.none_iff] at hc; repeat (have hn := hc.1; replace hc := hc.2))); (first | (refine i64_k hc ?_ ?_ ?_ ; omega; omega; (clear hc; intro hc; subst hc)) | skip)) | (apply And.intro; (first | rfl)) | (refine ACall.to (oc _) ?_))) <;> (try (conv => whnf))
include hzig
set_option maxRecDepth 8000 in
theorem one_t {k : Nat} (hk : k < n) : ACall Try.prog 33 [.cs (u8s (packT Z n L P)) (packT Z n L P).length, .int .i64 k] H (fun y H' => y = .tup [.cs (iS .i64 (coefL (bandL n P k))) 256, .cs (iS .i64 (bandL n P k)) 256, .int .i64 0] ∧ H' = H) := by
  have sc := fun H => split_t hz hn w H
  have bc := fun H => band_ok hz hzig (bandL n P k) (w.band hk) H
  have g0 : (pvL (partsT Z n L P n))[((k : Int) + 1).toNat]? = some (.cs (u8s (bandP Z (bandL n P k))) (bandP Z (bandL n P k)).length) := pvL_get (by rw [show ((k : Int) + 1).toNat = k + 1 by omega]; exact parts_k Z L P hk)
  have lp : (pvL (partsT Z n L P n)).length = n + 1 := by rw [pvL_len, partsT_len]
  generalize pvL (partsT Z n L P n) = R at *
  generalize packT Z n L P = B at *
  refine ACall_of tt_ok (dok _) Try.func33 rfl (by decide) rfl ?_
  (repeat' ((conv => whnf); first | refine Then.mk ?_ | refine OpsA.cons ?_ | refine OpsA.nil ?_ | refine AWq.seq ?_ | refine AWq.region ?_ | refine AWq.cond ?_ | refine AWq.block ?_ | refine AWq.skip ?_ | refine AWq.ret ?_ | (refine Both.mk ?_ ?_ <;> intro hc <;> (first | exact Bool.noConfusion hc | exact absurd (by with_reducible rfl) hc | (exfalso; omega) | skip)) | (intro c hc; (try (simp only [AH.none_iff] at hc; repeat (have hn := hc.1; replace hc := hc.2))); (first | (refine i64_k hc ?_ ?_ ?_ ; omega; omega; (clear hc; intro hc; subst hc)) | skip)) | (apply Exists.intro; apply And.intro; first | (with_reducible assumption) | ((try simp only [List.getElem?_drop, Nat.mul_one, Nat.add_zero, Nat.zero_add]); first | (with_reducible assumption) | rfl)) | (apply And.intro; (first | rfl | (with_reducible assumption) | omega)) | (refine ACall.to (sc _) ?_) | (refine ACall.to (bc _) ?_))) <;> (try (conv => whnf))
set_option maxRecDepth 8000 in
theorem Band_t {k : Nat} (hk : k < n) : ACall Try.prog 13 [.cs (u8s (packT Z n L P)) (packT Z n L P).length, .int .i64 k] H (fun y H' => y = .tup [.cs (iS .i64 (bandL n P k)) 256, .int .i64 0] ∧ H' = H) := by
  have oc := fun H => one_t hz hzig hn w H hk
  generalize packT Z n L P = B at *
  refine ACall_of tt_ok (dok _) Try.func13 rfl (by decide) rfl ?_
  (repeat' ((conv => whnf); first | refine Then.mk ?_ | refine OpsA.cons ?_ | refine OpsA.nil ?_ | refine AWq.seq ?_ | refine AWq.region ?_ | refine AWq.ret ?_ | (apply And.intro; (first | rfl)) | (refine ACall.to (oc _) ?_))) <;> (try (conv => whnf))
set_option maxRecDepth 8000 in
theorem Thumb_t {k : Nat} (hk : k < n) (t : Int) (ht : J64 t) : ACall Try.prog 10 [.cs (u8s (packT Z n L P)) (packT Z n L P).length, .int .i64 k, .int .i64 t] H (fun y H' => y = resV (lowR 16 (coefL (bandL n P k)) t) ∧ H' = H) := by
  have oc := fun H => one_t hz hzig hn w H hk
  have lc := fun H => Low_c 16 (by decide) (by decide) (coefL (bandL n P k)) (by rw [coefL_len]; omega) t ht.1 ht.2 H
  rw [coefL_len] at lc
  unfold resV at lc ⊢
  generalize packT Z n L P = B at *
  generalize (lowR 16 (coefL (bandL n P k)) t).1 = X at *
  generalize (lowR 16 (coefL (bandL n P k)) t).2 = e at *
  refine ACall_of tt_ok (dok _) Try.func10 rfl (by decide) rfl ?_
  (repeat' ((conv => whnf); first | refine Then.mk ?_ | refine OpsA.cons ?_ | refine OpsA.nil ?_ | refine AWq.seq ?_ | refine AWq.region ?_ | refine AWq.cond ?_ | refine AWq.skip ?_ | refine AWq.ret ?_ | (refine Both.mk ?_ ?_ <;> intro hc <;> (first | exact Bool.noConfusion hc | exact absurd (by with_reducible rfl) hc | skip)) | (apply And.intro; (first | rfl)) | (refine ACall.to (oc _) ?_) | (refine ACall.to (lc _) ?_))) <;> (try (conv => whnf))
end
end Go.Proofs.Ytgpfmojlgejnhaa
/- codec.Parts of bytes that have parts. -/
namespace Go.Fw
open Go.RowKit
theorem ACall.coldS {P : Program} {g : FuncId} {args : List AV} {H : AH} {K : AV → Prop}
    (h : ACall P g args H fun y H' => ∃ r v es n cells e, H r = none ∧ cells.length = n * es ∧ y = .tup [.sl r v es 0 n none, .int .i64 e] ∧ HLe (H.set r (.row cells v)) H' ∧ K (.tup [.cs cells n, .int .i64 e])) :
    ACall P g args H fun y H' => K y ∧ H' = H := by
  refine ⟨h.ent, fun κ F B w0 w cargs hI hA => (h.run κ F B w0 w cargs hI hA).mono ?_⟩
  rintro e w' ⟨x, he, y, H', κ', F', k1, k2, I, hv, r, v, es, n, cells, e', hr, hl, rfl, hle, hK⟩
  have I := I.less hle.le
  obtain ⟨F1, hF1, I1, ha1⟩ := I.coolAll (r := r) (v := v) (cells := cells) (AH.set_same _ _ _)
  rw [AH.del_set _ _ _ hr] at I1
  refine ⟨x, he, _, H, κ', F1, k1, k2.trans hF1, I1, ?_, hK, rfl⟩
  cases hv with
  | tup hsz hi =>
    refine .tup hsz fun i hi' => ?_
    match i, hi' with
    | 0, _ => exact ha1 _ _ _ _ _ hl (hi 0 (by simp))
    | 1, _ => have := hi 1 (by simp); simp only [List.getElem_cons_succ, List.getElem_cons_zero] at this ⊢; generalize Array.getD _ _ _ = x3 at this ⊢; cases this; exact .int _ _
end Go.Fw
namespace Go.Proofs.Ytgpfmojlgejnhaa
open Go.Fw Go
set_option linter.unusedVariables false
set_option linter.unusedSimpArgs false

def endP (ps : List (List UInt8)) (i : Nat) : Nat := (encI ((ps.length : Int) - 1)).length + (encRs (ps.take (i + 1))).length
def placeP (ps : List (List UInt8)) (i : Nat) : Int × Int := ((endP ps i : Int) - ((ps.getD i []).length : Int), ((ps.getD i []).length : Int))
def placesP (ps : List (List UInt8)) (k : Nat) : List (Int × Int) := fnL ps.length fun i => if ps.length - k ≤ i then placeP ps i else (0, 0)
theorem placesP_len (ps : List (List UInt8)) (k : Nat) : (placesP ps k).length = ps.length := fnL_len _ _
theorem placesP_step (ps : List (List UInt8)) {k : Nat} (hk : k < ps.length) : (placesP ps k).set (ps.length - 1 - k) (placeP ps (ps.length - 1 - k)) = placesP ps (k + 1) := by
  unfold placesP
  rw [fnL_set]
  refine fnL_congr fun i hi => ?_
  by_cases e : i = ps.length - 1 - k
  · rw [if_pos e, if_pos (by omega), e]
  · rw [if_neg e]
    by_cases e2 : ps.length - k ≤ i
    · rw [if_pos e2, if_pos (by omega)]
    · rw [if_neg e2, if_neg (by omega)]
set_option maxRecDepth 8000 in
set_option maxHeartbeats 4000000 in
theorem pplace_c (ps : List (List UInt8)) (hl : ps.length ≤ 9) (hp : ∀ p ∈ ps, p.length ≤ 90000) (i : Nat) (hi : i < ps.length) (E : Nat) (hE1 : (encR (ps.getD i [])).length ≤ E) (hE : E ≤ 1000000) (c q v : Nat) (R : List AV) (hR : R.length = ps.length * 2) (H : AH)
    (hc1 : H c = some (.row [.int .i64 E] 0)) (hq1 : H q = some (.row R v)) (hcq : c ≠ q) :
    ACall Try.prog 73 [.int .i64 i, .cp [.cs (pvL ps) ps.length], .ptr c 0 0, .cp [.sl q v 2 0 ps.length none]] H
      (fun y H' => y = .tup [] ∧ H' = (H.set q (.row (wrA R (i * 2) [.int .i64 ((E : Int) - ((ps.getD i []).length : Int)), .int .i64 (ps.getD i []).length]) v)).set c (.row [.int .i64 (E - (encR (ps.getD i [])).length : Nat)] 0)) := by
  obtain ⟨x, hx⟩ : ∃ x, ps[i]? = some x := ⟨_, List.getElem?_eq_getElem hi⟩
  have hxe : ps.getD i [] = x := by rw [List.getD_eq_getElem?_getD, hx]; rfl
  have hxl := hp x (List.mem_of_getElem? hx)
  have gp : (pvL ps)[(i : Int).toNat]? = some (.cs (u8s x) x.length) := pvL_get hx
  have lp := pvL_len ps
  have hel := encR_len (b := x) (by omega)
  have hel2 : x.length ≤ (encR x).length := by unfold encR; rw [List.length_append]; omega
  rw [hxe] at hE1 ⊢
  refine ACall.told ?_
  refine ACall_of tt_ok (dok _) Try.func73 rfl (by decide) rfl ?_
  (repeat' ((conv => whnf); first | left | refine OpsA.cons ?_ | refine OpsA.nil ?_ | refine AWq.seq ?_ | refine AWq.region ?_ | refine DrawA.consD ?_ | refine DrawA.nil ?_ | refine AWq.draw (by decide +kernel) ?_ | (intro c hc; (try (simp only [AH.none_iff] at hc; repeat (have hn := hc.1; replace hc := hc.2))); (first | (have hc2 := Eq.trans hc (by with_reducible assumption); clear hc; subst hc2) | (refine i64_k hc ?_ ?_ ?_ ; omega; omega; (clear hc; intro hc; subst hc)) | skip)) | (apply Exists.intro; apply And.intro; (first | (focus (repeat (first | (with_reducible assumption))); done))) | (apply Exists.intro; apply And.intro; first | (with_reducible assumption) | ((try simp only [List.getElem?_drop, Nat.mul_one, Nat.add_zero, Nat.zero_add]); first | (with_reducible assumption) | rfl)) | (apply And.intro; (first | rfl | (with_reducible assumption) | exact Nat.le_of_ble_eq_true rfl | omega | (simp <;> omega))))) <;> (try (conv => whnf))
  refine Then.mk ?_
  (repeat' ((conv => whnf); first | left | refine OpsA.cons ?_ | refine OpsA.nil ?_ | refine AWq.seq ?_ | refine AWq.region ?_ | refine DrawA.consD ?_ | refine DrawA.nil ?_ | refine AWq.draw (by decide +kernel) ?_ | (intro c hc; (try (simp only [AH.none_iff] at hc; repeat (have hn := hc.1; replace hc := hc.2))); (first | (have hc2 := Eq.trans hc (by with_reducible assumption); clear hc; subst hc2) | (refine i64_k hc ?_ ?_ ?_ ; omega; omega; (clear hc; intro hc; subst hc)) | skip)) | (apply Exists.intro; apply And.intro; (first | (focus (repeat (first | (with_reducible assumption))); done))) | (apply Exists.intro; apply And.intro; first | (with_reducible assumption) | ((try simp only [List.getElem?_drop, Nat.mul_one, Nat.add_zero, Nat.zero_add]); first | (with_reducible assumption) | rfl)) | (apply And.intro; (first | rfl | (with_reducible assumption) | exact Nat.le_of_ble_eq_true rfl | omega | (simp <;> omega))))) <;> (try (conv => whnf))
  rw [show 0 + (i : Int).toNat * 2 = i * 2 by omega]
  have h1c : (AH.set H q (.row (wrA R (i * 2) [.int .i64 ((E : Int) - (x.length : Int)), .int .i64 x.length]) v)) c = some (.row [.int .i64 E] 0) := by rw [AH.set_ne _ _ hcq]; exact hc1
  generalize hH1 : AH.set H q (.row (wrA R (i * 2) [.int .i64 ((E : Int) - (x.length : Int)), .int .i64 x.length]) v) = H1 at *
  refine Then.mk ?_
  (repeat' ((conv => whnf); first | left | refine OpsA.cons ?_ | refine OpsA.nil ?_ | refine AWq.seq ?_ | refine AWq.region ?_ | refine DrawA.consD ?_ | refine DrawA.nil ?_ | refine AWq.draw (by decide +kernel) ?_ | (intro c hc; (try (simp only [AH.none_iff] at hc; repeat (have hn := hc.1; replace hc := hc.2))); (first | (have hc2 := Eq.trans hc (by with_reducible assumption); clear hc; subst hc2) | (refine i64_k hc ?_ ?_ ?_ ; omega; omega; (clear hc; intro hc; subst hc)) | skip)) | (apply Exists.intro; apply And.intro; (first | (focus (repeat (first | (with_reducible assumption))); done))) | (apply Exists.intro; apply And.intro; first | (with_reducible assumption) | ((try simp only [List.getElem?_drop, Nat.mul_one, Nat.add_zero, Nat.zero_add]); first | (with_reducible assumption) | rfl)) | (apply And.intro; (first | rfl | (with_reducible assumption) | exact Nat.le_of_ble_eq_true rfl | omega | (simp <;> omega))))) <;> (try (conv => whnf))
  (obtain ⟨w, hq_⟩ : ∃ w, w = c := ⟨_, rfl⟩); subst hq_
  have hcc : H1 w = none := hc
  refine Then.mk (AWq.in ?_)
  refine AWp_writer hcc fun r hcr hr => ?_
  have hle : ∀ v bs, HLe H1 (WrH H1 w r v bs) := fun v bs => HLe.set_of _ _ (HLe.set_of _ _ (HLe.refl _) hcc) hr
  have hcw : c ≠ w := fun h => by rw [h, hcc] at h1c; cases h1c
  have hcr2 : c ≠ r := fun h => by rw [h, hr] at h1c; cases h1c
  have w1 := wRaw_c w r 0 [] x (by omega) (by simp) H1 hcr
  rw [List.nil_append] at w1
  refine AWp.of tt_ok (dok _) rfl ?_
  generalize hG : WrH H1 w r 0 [] = G at *
  (repeat' ((conv => whnf); first | refine Then.mk ?_ | left | refine OpsA.cons ?_ | refine OpsA.nil ?_ | refine AWq.seq ?_ | refine AWq.region ?_ | refine DrawA.consD ?_ | refine DrawA.nil ?_ | refine AWq.draw (by decide +kernel) ?_ | (intro c hc; (try (simp only [AH.none_iff] at hc; repeat (have hn := hc.1; replace hc := hc.2))); (first | (have hc2 := Eq.trans hc (by with_reducible assumption); clear hc; subst hc2) | (refine i64_k hc ?_ ?_ ?_ ; omega; omega; (clear hc; intro hc; subst hc)) | skip)) | (apply Exists.intro; apply And.intro; (first | (focus (repeat (first | (with_reducible assumption))); done))) | (apply Exists.intro; apply And.intro; first | (with_reducible assumption) | ((try simp only [List.getElem?_drop, Nat.mul_one, Nat.add_zero, Nat.zero_add]); first | (with_reducible assumption) | rfl)) | (apply And.intro; (first | rfl | (with_reducible assumption) | exact Nat.le_of_ble_eq_true rfl | omega | (simp <;> omega))))) <;> (try (conv => whnf))
  refine w1.mono ?_
  rintro y H' ⟨rfl, v1, rfl⟩
  have gc : WrH H1 w r v1 (encR x) c = some (.row [.int .i64 E] 0) := by unfold WrH; rw [AH.set_ne _ _ hcr2, AH.set_ne _ _ hcw]; exact h1c
  have w2 := wDone_c w r v1 (encR x) (by omega) H1 hcr
  have hle := hle v1 (encR x)
  have e1 : IntKind.i64.wrap ((E : Int) - ((encR x).length : Int)) = ((E - (encR x).length : Nat) : Int) := by rw [IntKind.wrap_i64]; omega
  generalize WrH H1 w r v1 (encR x) = G1 at *
  generalize (encR x).length = m at *
  (repeat' ((conv => whnf); first | refine Then.mk ?_ | left | refine OpsA.cons ?_ | refine OpsA.nil ?_ | refine AWq.seq ?_ | refine AWq.region ?_ | refine DrawA.consD ?_ | refine DrawA.nil ?_ | refine AWq.draw (by decide +kernel) ?_ | (apply Exists.intro; apply And.intro; exact w2) | (intro c hc; (try (simp only [AH.none_iff] at hc; repeat (have hn := hc.1; replace hc := hc.2))); (first | (have hc2 := Eq.trans hc (by with_reducible assumption); clear hc; subst hc2) | (refine i64_k hc ?_ ?_ ?_ ; omega; omega; (clear hc; intro hc; subst hc)) | skip)) | (apply Exists.intro; apply And.intro; (first | (focus (repeat (first | (with_reducible assumption))); done))) | (apply Exists.intro; apply And.intro; first | (with_reducible assumption) | ((try simp only [List.getElem?_drop, Nat.mul_one, Nat.add_zero, Nat.zero_add]); first | (with_reducible assumption) | rfl)) | (apply And.intro; (first | rfl | (with_reducible assumption) | exact Nat.le_of_ble_eq_true rfl | omega | (simp <;> omega))))) <;> (try (conv => whnf))
  exact ⟨_, _, AVle.refl _, HLe.set hle _ _, rfl, rfl⟩
set_option maxRecDepth 8000 in
set_option maxHeartbeats 4000000 in
theorem Parts_ok (ps : List (List UInt8)) (h1 : 2 ≤ ps.length) (h2 : ps.length ≤ 5) (hp : ∀ p ∈ ps, p.length ≤ 90000) (H : AH) :
    ACall Try.prog 40 [.cs (u8s (joinP ps)) (joinP ps).length] H (fun y H' => y = .tup [.cs (prL (placesP ps ps.length)) ps.length, .int .i64 0] ∧ H' = H) := by
  have sc := fun H => split_ok ps h1 h2 hp H
  have hjl := joinP_len (by omega) hp
  have hzero : (List.replicate ps.length [AV.int .i64 0, AV.int .i64 0]).flatten = prL (placesP ps 0) := by
    have e : placesP ps 0 = List.replicate ps.length (0, 0) := by
      unfold placesP
      rw [fnL_rep]
      exact fnL_congr fun i hi => if_neg (by omega)
    rw [e]
    exact fL_rep prA (0, 0) ps.length
  refine ACall.coldS ?_
  refine ACall_of tt_ok (dok _) Try.func40 rfl (by decide) rfl ?_
  (repeat' ((conv => whnf); first | refine OpsA.cons ?_ | refine OpsA.nil ?_ | refine AWq.seq ?_ | refine AWq.region ?_ | refine AWq.cond ?_ | refine AWq.block ?_ | refine AWq.skip ?_ | refine AWq.ret ?_ | refine AWq.exit ?_ | refine AWq.loop ?_ | (refine Both.mk ?_ ?_ <;> intro hc <;> (first | exact Bool.noConfusion hc | exact absurd (by with_reducible rfl) hc | (exfalso; omega) | skip)) | (intro c hc; (try (simp only [AH.none_iff] at hc; repeat (have hn := hc.1; replace hc := hc.2))); (first | (refine i64_k hc ?_ ?_ ?_ ; omega; omega; (clear hc; intro hc; subst hc)) | skip)) | (apply Exists.intro; apply And.intro; (first | (focus (repeat (first | (with_reducible exact AH.set_same _ _ _))); done))) | (apply Exists.intro; apply And.intro; first | ((try simp only [List.getElem?_drop, Nat.mul_one, Nat.add_zero, Nat.zero_add]); first | rfl)) | (apply And.intro; (first | rfl | exact Nat.le_of_ble_eq_true rfl | omega)))) <;> (try (conv => whnf))
  refine Then.mk ?_
  (repeat' ((conv => whnf); first | refine OpsA.cons ?_ | refine OpsA.nil ?_ | refine AWq.seq ?_ | refine AWq.region ?_ | refine AWq.cond ?_ | refine AWq.block ?_ | refine AWq.skip ?_ | refine AWq.ret ?_ | refine AWq.exit ?_ | refine AWq.loop ?_ | (refine Both.mk ?_ ?_ <;> intro hc <;> (first | exact Bool.noConfusion hc | exact absurd (by with_reducible rfl) hc | (exfalso; omega) | skip)) | (intro c hc; (try (simp only [AH.none_iff] at hc; repeat (have hn := hc.1; replace hc := hc.2))); (first | (refine i64_k hc ?_ ?_ ?_ ; omega; omega; (clear hc; intro hc; subst hc)) | skip)) | (apply Exists.intro; apply And.intro; (first | (focus (repeat (first | (with_reducible exact AH.set_same _ _ _))); done))) | (apply Exists.intro; apply And.intro; first | ((try simp only [List.getElem?_drop, Nat.mul_one, Nat.add_zero, Nat.zero_add]); first | rfl)) | (apply And.intro; (first | rfl | exact Nat.le_of_ble_eq_true rfl | omega)) | (refine ACall.to (sc _) ?_))) <;> (try (conv => whnf))
  refine Then.mk (AWq.in ?_)
  refine AWp_segP 4 [.cs (pvL ps) ps.length] rfl rfl (by assumption) rfl rfl ?_
  refine AWp.of tt_ok (dok _) rfl ?_
  (repeat' ((conv => whnf); first | refine OpsA.cons ?_ | refine OpsA.nil ?_ | refine AWq.seq ?_ | refine AWq.region ?_ | refine AWq.cond ?_ | refine AWq.block ?_ | refine AWq.skip ?_ | refine AWq.ret ?_ | refine AWq.exit ?_ | refine AWq.loop ?_ | (refine Both.mk ?_ ?_ <;> intro hc <;> (first | exact Bool.noConfusion hc | exact absurd (by with_reducible rfl) hc | (exfalso; omega) | skip)) | (intro c hc; (try (simp only [AH.none_iff] at hc; repeat (have hn := hc.1; replace hc := hc.2))); (first | (refine i64_k hc ?_ ?_ ?_ ; omega; omega; (clear hc; intro hc; subst hc)) | skip)) | (apply Exists.intro; apply And.intro; (first | (focus (repeat (first | (with_reducible exact AH.set_same _ _ _))); done))) | (apply Exists.intro; apply And.intro; first | ((try simp only [List.getElem?_drop, Nat.mul_one, Nat.add_zero, Nat.zero_add]); first | rfl)) | (apply And.intro; (first | rfl | exact Nat.le_of_ble_eq_true rfl | omega)))) <;> (try (conv => whnf))
  refine Then.mk ?_
  (repeat' ((conv => whnf); first | refine OpsA.cons ?_ | refine OpsA.nil ?_ | refine AWq.seq ?_ | refine AWq.region ?_ | refine AWq.cond ?_ | refine AWq.block ?_ | refine AWq.skip ?_ | refine AWq.ret ?_ | refine AWq.exit ?_ | refine AWq.loop ?_ | (refine Both.mk ?_ ?_ <;> intro hc <;> (first | exact Bool.noConfusion hc | exact absurd (by with_reducible rfl) hc | (exfalso; omega) | skip)) | (intro c hc; (try (simp only [AH.none_iff] at hc; repeat (have hn := hc.1; replace hc := hc.2))); (first | (refine i64_k hc ?_ ?_ ?_ ; omega; omega; (clear hc; intro hc; subst hc)) | skip)) | (apply Exists.intro; apply And.intro; (first | (focus (repeat (first | (with_reducible exact AH.set_same _ _ _))); done))) | (apply Exists.intro; apply And.intro; first | ((try simp only [List.getElem?_drop, Nat.mul_one, Nat.add_zero, Nat.zero_add]); first | rfl)) | (apply And.intro; (first | rfl | exact Nat.le_of_ble_eq_true rfl | omega)))) <;> (try (conv => whnf))
  refine Then.mk ?_
  (repeat' ((conv => whnf); first | refine OpsA.cons ?_ | refine OpsA.nil ?_ | refine AWq.seq ?_ | refine AWq.region ?_ | refine AWq.cond ?_ | refine AWq.block ?_ | refine AWq.skip ?_ | refine AWq.ret ?_ | refine AWq.exit ?_ | refine AWq.loop ?_ | (refine Both.mk ?_ ?_ <;> intro hc <;> (first | exact Bool.noConfusion hc | exact absurd (by with_reducible rfl) hc | (exfalso; omega) | skip)) | (intro c hc; (try (simp only [AH.none_iff] at hc; repeat (have hn := hc.1; replace hc := hc.2))); (first | (refine i64_k hc ?_ ?_ ?_ ; omega; omega; (clear hc; intro hc; subst hc)) | skip)) | (apply Exists.intro; apply And.intro; (first | (focus (repeat (first | (with_reducible exact AH.set_same _ _ _))); done))) | (apply Exists.intro; apply And.intro; first | ((try simp only [List.getElem?_drop, Nat.mul_one, Nat.add_zero, Nat.zero_add]); first | rfl)) | (apply And.intro; (first | rfl | exact Nat.le_of_ble_eq_true rfl | omega)))) <;> (try (conv => whnf))
  rename_i q hq
  have hqc : ∀ o, (AH.set H q o) c = none := fun o => by rw [AH.set_ne _ _ hn]; exact hc
  rw [Int.toNat_natCast, hzero]
  refine Then.mk (AWq.in ?_)
  refine AWp_segP 6 [.sl q 0 2 0 ps.length none] rfl rfl (hqc _) rfl rfl ?_
  clear hn hqc hc
  refine AWp.of tt_ok (dok _) rfl ?_
  (repeat' ((conv => whnf); first | refine OpsA.cons ?_ | refine OpsA.nil ?_ | refine AWq.seq ?_ | refine AWq.region ?_ | refine AWq.cond ?_ | refine AWq.block ?_ | refine AWq.skip ?_ | refine AWq.ret ?_ | refine AWq.exit ?_ | refine AWq.loop ?_ | (refine Both.mk ?_ ?_ <;> intro hc <;> (first | exact Bool.noConfusion hc | exact absurd (by with_reducible rfl) hc | (exfalso; omega) | skip)) | (intro c hc; (try (simp only [AH.none_iff] at hc; repeat (have hn := hc.1; replace hc := hc.2))); (first | (refine i64_k hc ?_ ?_ ?_ ; omega; omega; (clear hc; intro hc; subst hc)) | skip)) | (apply Exists.intro; apply And.intro; (first | (focus (repeat (first | (with_reducible exact AH.set_same _ _ _))); done))) | (apply Exists.intro; apply And.intro; first | ((try simp only [List.getElem?_drop, Nat.mul_one, Nat.add_zero, Nat.zero_add]); first | rfl)) | (apply And.intro; (first | rfl | exact Nat.le_of_ble_eq_true rfl | omega)))) <;> (try (conv => whnf))
  (obtain ⟨d, hq_⟩ : ∃ d, d = c := ⟨_, rfl⟩); subst hq_
  have hqd : d ≠ q := hn
  have hd : H d = none := hc
  refine Then.mk ?_
  obtain ⟨N, hN⟩ : ∃ N, N = ps.length := ⟨_, rfl⟩
  have hE0 : ((joinP ps).length : Int) = ((encI ((ps.length : Int) - 1)).length + (encRs (ps.take (ps.length - 0))).length : Nat) := by
    rw [Nat.sub_zero, List.take_length]; unfold joinP; rw [List.length_append]
  (repeat' ((conv => whnf); first | refine Then.mk ?_ | refine OpsA.cons ?_ | refine OpsA.nil ?_ | refine AWq.seq ?_ | refine AWq.region ?_ | refine AWq.cond ?_ | refine AWq.block ?_ | refine AWq.skip ?_ | refine AWq.ret ?_ | refine AWq.exit ?_ | refine AWq.loop ?_ | (refine Both.mk ?_ ?_ <;> intro hc <;> (first | exact Bool.noConfusion hc | exact absurd (by with_reducible rfl) hc | (exfalso; omega) | skip)) | (intro c hc; (try (simp only [AH.none_iff] at hc; repeat (have hn := hc.1; replace hc := hc.2))); (first | (refine i64_k hc ?_ ?_ ?_ ; omega; omega; (clear hc; intro hc; subst hc)) | skip)) | (apply Exists.intro; apply And.intro; (first | (focus (repeat (first | (with_reducible exact AH.set_same _ _ _))); done))) | (apply Exists.intro; apply And.intro; first | ((try simp only [List.getElem?_drop, Nat.mul_one, Nat.add_zero, Nat.zero_add]); first | rfl)) | (apply And.intro; (first | rfl | exact Nat.le_of_ble_eq_true rfl | omega)))) <;> (try (conv => whnf))
  refine AWp_loop (σ := Nat) (9 :: 26 :: 27 :: 28 :: 29 :: 30 :: 31 :: 32 :: 33 :: 34 :: 35 :: 36 :: []) (fun k => [(26, .int .i64 k)]) (fun k => (AH.set H q (.row (prL (placesP ps k)) 0)).set d (.row [.int .i64 ((encI ((ps.length : Int) - 1)).length + (encRs (ps.take (ps.length - k))).length : Nat)] 0)) (fun k => k ≤ ps.length) (fun k => ps.length - k) 0 rfl (Nat.zero_le _) ⟨rfl, trivial⟩ (HLe.of_eq (by rw [← hE0, AH.set_set]; rfl)) ?_
  intro k hk
  refine AWp.of tt_ok (dok _) rfl ?_
  dsimp only at hk ⊢
  have gd := AH.set_same (AH.set H q (.row (prL (placesP ps k)) 0)) d (.row [.int .i64 ((encI ((ps.length : Int) - 1)).length + (encRs (ps.take (ps.length - k))).length : Nat)] 0)
  have gq : (AH.set (AH.set H q (.row (prL (placesP ps k)) 0)) d (.row [.int .i64 ((encI ((ps.length : Int) - 1)).length + (encRs (ps.take (ps.length - k))).length : Nat)] 0)) q = some (.row (prL (placesP ps k)) 0) := by rw [AH.set_ne _ _ (Ne.symm hqd), AH.set_same]
  have lq : (prL (placesP ps k)).length = ps.length * 2 := by rw [prL_len, placesP_len]
  by_cases hkt : k < ps.length
  · obtain ⟨i, hi⟩ : ∃ i, i = ps.length - 1 - k := ⟨_, rfl⟩
    have hil : i < ps.length := by omega
    obtain ⟨x, hx⟩ : ∃ x, ps[i]? = some x := ⟨_, List.getElem?_eq_getElem hil⟩
    have hxe : ps.getD i [] = x := by rw [List.getD_eq_getElem?_getD, hx]; rfl
    have hlen1 : (encRs (ps.take (ps.length - k))).length = (encRs (ps.take (ps.length - (k + 1)))).length + (encR x).length := by
      rw [show ps.length - k = i + 1 by omega, show ps.length - (k + 1) = i by omega, take_snoc hx, encRs_snoc, List.length_append]
    have hjl2 : (encI ((ps.length : Int) - 1)).length + (encRs (ps.take (ps.length - k))).length ≤ 820000 := by
      have e1 : encRs ps = encRs (ps.take (ps.length - k)) ++ encRs (ps.drop (ps.length - k)) := by unfold encRs; rw [← List.flatMap_append, List.take_append_drop]
      have : (joinP ps).length = (encI ((ps.length : Int) - 1)).length + (encRs ps).length := by unfold joinP; rw [List.length_append]
      rw [e1, List.length_append] at this; omega
    have pc := pplace_c ps (by omega) hp i hil ((encI ((ps.length : Int) - 1)).length + (encRs (ps.take (ps.length - k))).length) (by rw [hxe]; omega) (by omega) d q 0 (prL (placesP ps k)) lq _ gd gq hqd
    have hst : (AH.set H q (.row (prL (placesP ps (k + 1))) 0)).set d (.row [.int .i64 ((encI ((ps.length : Int) - 1)).length + (encRs (ps.take (ps.length - (k + 1)))).length : Nat)] 0) =
        (((AH.set H q (.row (prL (placesP ps k)) 0)).set d (.row [.int .i64 ((encI ((ps.length : Int) - 1)).length + (encRs (ps.take (ps.length - k))).length : Nat)] 0)).set q (.row (wrA (prL (placesP ps k)) (i * 2) [.int .i64 ((((encI ((ps.length : Int) - 1)).length + (encRs (ps.take (ps.length - k))).length : Nat) : Int) - ((ps.getD i []).length : Int)), .int .i64 (ps.getD i []).length]) 0)).set d (.row [.int .i64 ((encI ((ps.length : Int) - 1)).length + (encRs (ps.take (ps.length - k))).length - (encR (ps.getD i [])).length : Nat)] 0) := by
      have hpl : endP ps i = (encI ((ps.length : Int) - 1)).length + (encRs (ps.take (ps.length - k))).length := by
        unfold endP; rw [show i + 1 = ps.length - k by omega]
      have hw : wrA (prL (placesP ps k)) (i * 2) [.int .i64 ((((encI ((ps.length : Int) - 1)).length + (encRs (ps.take (ps.length - k))).length : Nat) : Int) - ((ps.getD i []).length : Int)), .int .i64 (ps.getD i []).length] = prL (placesP ps (k + 1)) := by
        have h3 := fL_wr (f := prA) (k := 2) prA_len (l := placesP ps k) (i := i) (by rw [placesP_len]; exact hil) (b := placeP ps i)
        unfold prL
        rw [← placesP_step ps hkt, ← hi, ← h3]
        unfold prA placeP
        rw [hpl]
      rw [hw, hxe, show (encI ((ps.length : Int) - 1)).length + (encRs (ps.take (ps.length - k))).length - (encR x).length = (encI ((ps.length : Int) - 1)).length + (encRs (ps.take (ps.length - (k + 1)))).length by omega]
      have hdq := Ne.symm hqd
      ((funext s; simp only [AH.set, AH.del]; repeat' split) <;> (first | rfl | (exfalso; omega)))
    rw [show ((i : Nat) : Int) = (ps.length : Int) - 1 - k by omega] at pc
    generalize hGk : (AH.set H q (.row (prL (placesP ps k)) 0)).set d (.row [.int .i64 ((encI ((ps.length : Int) - 1)).length + (encRs (ps.take (ps.length - k))).length : Nat)] 0) = Gk at *
    (repeat' ((conv => whnf); first | refine Then.mk ?_ | refine OpsA.cons ?_ | refine OpsA.nil ?_ | refine AWq.seq ?_ | refine AWq.region ?_ | refine AWq.cond ?_ | refine AWq.block ?_ | refine AWq.skip ?_ | refine AWq.ret ?_ | refine AWq.exit ?_ | refine AWq.loop ?_ | (refine Both.mk ?_ ?_ <;> intro hc <;> (first | exact Bool.noConfusion hc | exact absurd (by with_reducible rfl) hc | (exfalso; omega) | skip)) | (intro c hc; (try (simp only [AH.none_iff] at hc; repeat (have hn := hc.1; replace hc := hc.2))); (first | (refine i64_k hc ?_ ?_ ?_ ; omega; omega; (clear hc; intro hc; subst hc)) | skip)) | (apply Exists.intro; apply And.intro; (first | (focus (repeat (first | (with_reducible exact AH.set_same _ _ _))); done))) | (apply Exists.intro; apply And.intro; first | ((try simp only [List.getElem?_drop, Nat.mul_one, Nat.add_zero, Nat.zero_add]); first | rfl)) | (apply And.intro; (first | rfl | exact Nat.le_of_ble_eq_true rfl | omega)) | (refine ACall.to (pc) ?_))) <;> (try (conv => whnf))
    exact ⟨k + 1, hkt, by omega, ⟨congrArg (AV.int .i64) (by omega), trivial⟩, HLe.of_eq hst⟩
  · have hke : k = ps.length := by omega
    subst hke
    have hle : HLe (AH.set H q (.row (prL (placesP ps ps.length)) 0)) ((AH.set H q (.row (prL (placesP ps ps.length)) 0)).set d (.row [.int .i64 ((encI ((ps.length : Int) - 1)).length + (encRs (ps.take (ps.length - ps.length))).length : Nat)] 0)) := HLe.fresh _ (by rw [AH.set_ne _ _ hqd]; exact hd)
    generalize (AH.set H q (.row (prL (placesP ps ps.length)) 0)).set d (.row [.int .i64 ((encI ((ps.length : Int) - 1)).length + (encRs (ps.take (ps.length - ps.length))).length : Nat)] 0) = Gk at *
    (repeat' ((conv => whnf); first | refine Then.mk ?_ | refine OpsA.cons ?_ | refine OpsA.nil ?_ | refine AWq.seq ?_ | refine AWq.region ?_ | refine AWq.cond ?_ | refine AWq.block ?_ | refine AWq.skip ?_ | refine AWq.ret ?_ | refine AWq.exit ?_ | refine AWq.loop ?_ | (refine Both.mk ?_ ?_ <;> intro hc <;> (first | exact Bool.noConfusion hc | exact absurd (by with_reducible rfl) hc | (exfalso; omega) | skip)) | (intro c hc; (try (simp only [AH.none_iff] at hc; repeat (have hn := hc.1; replace hc := hc.2))); (first | (refine i64_k hc ?_ ?_ ?_ ; omega; omega; (clear hc; intro hc; subst hc)) | skip)) | (apply Exists.intro; apply And.intro; (first | (focus (repeat (first | (with_reducible exact AH.set_same _ _ _))); done))) | (apply Exists.intro; apply And.intro; first | ((try simp only [List.getElem?_drop, Nat.mul_one, Nat.add_zero, Nat.zero_add]); first | rfl)) | (apply And.intro; (first | rfl | exact Nat.le_of_ble_eq_true rfl | omega)))) <;> (try (conv => whnf))
    exact ⟨q, 0, 2, ps.length, _, 0, hq, lq, rfl, hle, rfl⟩
theorem Parts_t {Z : List Int} (hz : ZO Z) {n : Nat} (hn : 1 ≤ n ∧ n ≤ 4) {L P : List Int} (w : Well n L P) (H : AH) :
    ACall Try.prog 40 [.cs (u8s (packT Z n L P)) (packT Z n L P).length] H (fun y H' => y = .tup [.cs (prL (placesP (partsT Z n L P n) (n + 1))) (n + 1), .int .i64 0] ∧ H' = H) := by
  have := Parts_ok (partsT Z n L P n) (by rw [partsT_len]; omega) (by rw [partsT_len]; omega) (parts_le hz w (Nat.le_refl _)) H
  rw [partsT_len] at this
  exact this
open Go.Fw Go

def stpM (k : Nat) (M : Mat) : Mat := colsM spl (2 ^ (k + 1)) (rowsM spl (2 ^ (k + 1)) M)
def lowM : Nat → Mat → Mat
  | 0, M => M
  | d + 1, M => stpM (3 - d) (lowM d M)
theorem fwd_low (M : Mat) {j : Nat} (hj : j ≤ 4) : fwd 4 M = fwd j (lowM (4 - j) M) := by
  rcases (show j = 0 ∨ j = 1 ∨ j = 2 ∨ j = 3 ∨ j = 4 by omega) with rfl | rfl | rfl | rfl | rfl <;> rfl
theorem joi_congr {n : Nat} {x y : Ln} (hn : n % 2 = 0) (h : ∀ c, c < n → x c = y c) (c : Nat) (hc : c < n) : joi n x c = joi n y c := by
  unfold joi
  rw [h (c / 2) (by omega), h (n / 2 + c / 2) (by omega)]
theorem inv_congr : ∀ (k : Nat) (X Y : Mat), (∀ r c, r < 2 ^ k → c < 2 ^ k → X r c = Y r c) → ∀ r c, r < 2 ^ k → c < 2 ^ k → inv k X r c = inv k Y r c
  | 0, X, Y, h, r, c, hr, hc => h r c hr hc
  | k + 1, X, Y, h, r, c, hr, hc => by
    have hp := pow_half k
    have hin : ∀ r c, r < 2 ^ (k + 1) → c < 2 ^ (k + 1) → inv k X r c = inv k Y r c := fun r c hr hc => by
      by_cases hh : r < 2 ^ k ∧ c < 2 ^ k
      · exact inv_congr k X Y (fun r c hr hc => h r c (by omega) (by omega)) r c hh.1 hh.2
      · rw [inv_out k X r c hh, inv_out k Y r c hh, h r c hr hc]
    have hcol : ∀ r c, r < 2 ^ (k + 1) → c < 2 ^ (k + 1) → colsM joi (2 ^ (k + 1)) (inv k X) r c = colsM joi (2 ^ (k + 1)) (inv k Y) r c := fun r c hr hc => by
      unfold colsM
      rw [if_pos ⟨hr, hc⟩, if_pos ⟨hr, hc⟩]
      exact joi_congr (by omega) (fun i hi => hin i c hi hc) r hr
    show rowsM joi _ (colsM joi _ (inv k X)) r c = rowsM joi _ (colsM joi _ (inv k Y)) r c
    unfold rowsM
    rw [if_pos ⟨hr, hc⟩, if_pos ⟨hr, hc⟩]
    exact joi_congr (by omega) (fun i hi => hcol r i hr hi) c hc
theorem toL_same {s : Nat} {X Y : Mat} (h : ∀ r c, r < s → c < s → X r c = Y r c) : toL s X = toL s Y := by
  unfold toL
  refine List.map_congr_left fun p hp => ?_
  rw [List.mem_range] at hp
  have hs : 0 < s := Nat.pos_of_ne_zero fun h0 => by rw [h0] at hp; omega
  exact h _ _ (Nat.div_lt_of_lt_mul hp) (Nat.mod_lt _ hs)
theorem low_eq {a : List Int} (h : BOk a) {j : Nat} (hj : j ≤ 4) : lowR 16 (coefL a) ((2 ^ j : Nat) : Int) = (toL (2 ^ j) (lowM (4 - j) (ofL (2 ^ 4) a)), 0) := by
  have hs := pow_side hj
  have h16 : IsSide 16 := (pow_side (k := 4) (by decide)).1
  have hX : ofL 16 (coefL a) = fwd 4 (ofL (2 ^ 4) a) := fwd_ofL 4 a
  have hbS := inB_bnd (by omega) h.inC 16
  have hin : inB 4398046511104 (toL (2 ^ j) (ofL 16 (coefL a))) = true := inB_toL fun r c hr hc => hbS r c (by omega) (by omega)
  have hlog : Nat.log2 (2 ^ j) = j := by
    rcases (show j = 0 ∨ j = 1 ∨ j = 2 ∨ j = 3 ∨ j = 4 by omega) with rfl | rfl | rfl | rfl | rfl <;> decide
  unfold lowR
  rw [if_pos ⟨h16, hs.1, by omega, by rw [coefL_len]; rfl⟩, Int.toNat_natCast]
  show sqR 4398046511104 inv ((2 ^ j : Nat) : Int) (toL (2 ^ j) (ofL 16 (coefL a))) = _
  unfold sqR
  rw [if_pos ⟨hs.1, by rw [toL_len, Int.natCast_mul]⟩, if_pos hin, Int.toNat_natCast, hlog]
  refine congrArg (fun l => (l, (0 : Int))) ?_
  have e1 : ∀ r c, r < 2 ^ j → c < 2 ^ j → ofL (2 ^ j) (toL (2 ^ j) (ofL 16 (coefL a))) r c = fwd 4 (ofL (2 ^ 4) a) r c := fun r c hr hc => by
    show (if r < 2 ^ j ∧ c < 2 ^ j then (toL (2 ^ j) (ofL 16 (coefL a))).getD (r * 2 ^ j + c) 0 else 0) = _
    rw [if_pos ⟨hr, hc⟩, toL_getD _ hr hc, hX]
  rw [toL_same fun r c hr hc => inv_congr j _ _ e1 r c hr hc, fwd_low _ hj, inv_fwd]
theorem stp_at {k : Nat} (M : Mat) {r c : Nat} (hr : r < 2 ^ k) (hc : c < 2 ^ k) : stpM k M r c = ((M (2 * r) (2 * c) + M (2 * r) (2 * c + 1)) / 2 + (M (2 * r + 1) (2 * c) + M (2 * r + 1) (2 * c + 1)) / 2) / 2 := by
  have hp := pow_half k
  have hrow : ∀ i, i < 2 ^ (k + 1) → rowsM spl (2 ^ (k + 1)) M i c = (M i (2 * c) + M i (2 * c + 1)) / 2 := fun i hi => by
    unfold rowsM
    rw [if_pos ⟨hi, by omega⟩]
    unfold spl
    rw [if_pos (by omega)]
  unfold stpM colsM
  rw [if_pos ⟨by omega, by omega⟩]
  show spl (2 ^ (k + 1)) (fun i => rowsM spl (2 ^ (k + 1)) M i c) r = _
  unfold spl
  rw [if_pos (by omega)]
  show (rowsM spl _ M (2 * r) c + rowsM spl _ M (2 * r + 1) c) / 2 = _
  rw [hrow (2 * r) (by omega), hrow (2 * r + 1) (by omega)]
theorem low_const {v : Int} {M : Mat} (h : ∀ r c, r < 16 → c < 16 → M r c = v) : ∀ d, d ≤ 4 → ∀ r c, r < 2 ^ (4 - d) → c < 2 ^ (4 - d) → lowM d M r c = v
  | 0, _, r, c, hr, hc => h r c hr hc
  | d + 1, hd, r, c, hr, hc => by
    have ih := low_const h d (by omega)
    have e : 4 - d = 3 - d + 1 := by omega
    rw [e, pow_half] at ih
    rw [show 4 - (d + 1) = 3 - d by omega] at hr hc
    show stpM (3 - d) (lowM d M) r c = v
    rw [stp_at _ hr hc, ih _ _ (by omega) (by omega), ih _ _ (by omega) (by omega), ih _ _ (by omega) (by omega), ih _ _ (by omega) (by omega)]
    omega
theorem low_same {v : Int} (hv : 0 ≤ v ∧ v ≤ 65535) {j : Nat} (hj : j ≤ 4) : lowR 16 (coefL (fnL 256 fun _ => v)) ((2 ^ j : Nat) : Int) = (fnL (2 ^ j * 2 ^ j) fun _ => v, 0) := by
  have hb : BOk (fnL 256 fun _ => v) := ⟨fnL_len _ _, fun x hx => by
    unfold fnL at hx
    obtain ⟨i, hi, rfl⟩ := List.mem_map.1 hx
    exact hv⟩
  rw [low_eq hb hj]
  refine congrArg (fun l => (l, (0 : Int))) ?_
  have hM : ∀ r c, r < 16 → c < 16 → ofL (2 ^ 4) (fnL 256 fun _ => v) r c = v := fun r c hr hc => by
    unfold ofL
    rw [if_pos ⟨hr, hc⟩, List.getD_eq_getElem?_getD, fnL_get _ (by omega)]; rfl
  unfold toL fnL
  refine List.map_congr_left fun p hp => ?_
  rw [List.mem_range] at hp
  have hs : 0 < 2 ^ j := Nat.two_pow_pos j
  exact low_const hM (4 - j) (by omega) _ _ (by rw [show 4 - (4 - j) = j by omega]; exact Nat.div_lt_of_lt_mul hp) (by rw [show 4 - (4 - j) = j by omega]; exact Nat.mod_lt _ hs)
open Go.Fw Go

theorem empty_well : Well 1 emL (emP 1) := by
  refine ⟨emL_len, emP_len 1, fun j hj => ?_⟩
  have e1 : emL.getD j 0 = -1 := getD_fnL _ hj
  refine ⟨by rw [e1]; omega, fun k hk => ?_⟩
  have e2 : (emP 1).getD (j * 1 + k) 0 = 0 := getD_fnL _ (by omega)
  rw [e1, e2]
  exact ⟨by omega, fun _ => rfl⟩
theorem empty_band : bandL 1 (emP 1) 0 = fnL 256 fun _ => 0 := fnL_congr fun i hi => getD_fnL _ (by omega)
set_option maxRecDepth 8000 in
set_option maxHeartbeats 4000000 in
theorem lives26_c (H : AH) : ACall Try.prog 16 [] H (fun y H' => y = .bool true ∧ H' = H) := by
  obtain ⟨Z, hz, hzig⟩ := zg_ex
  have w := empty_well
  have em : ∀ H, ACall Try.prog 39 [.int .i64 1] H (fun y H' => y = .tup [.agg [.int .i64 1, .cs (iS .i64 emL) 256, .cs (iS .i64 (emP 1)) 256], .int .i64 0] ∧ H' = H) := fun H => by
    have := empty_c 1 (by decide) H
    have e : emV 1 = (tV 1 emL (emP 1), 0) := if_pos (by decide)
    rw [e] at this
    unfold tV at this
    rw [emL_len, emP_len] at this
    exact this
  have en := fun H => encode_ok hz hzig 1 (by decide) emL (emP 1) w H
  have lb := fun H => Labels_t hz (n := 1) (by decide) w H
  have th := fun H => Thumb_t hz hzig (n := 1) (by decide) w H (k := 0) (by decide) 1 (by decide)
  have hth : lowR 16 (coefL (bandL 1 (emP 1) 0)) 1 = (fnL 1 fun _ => 0, 0) := by rw [empty_band]; exact low_same (v := 0) (by decide) (j := 0) (by decide)
  rw [hth] at th
  unfold resV at th
  have pa := fun H => Parts_t hz (n := 1) (by decide) w H
  have si : ∀ H, ACall Try.prog 12 [.cs (iS .i64 (fnL 1 fun _ => 0)) 1, .cs [.int .i64 0] 1] H (fun y H' => y = .bool true ∧ H' = H) := fun H => by
    have := sameints_c [0] [0] (by decide) (by decide) H
    rw [decide_eq_true rfl] at this
    exact this
  have g0 : (iS .i64 emL)[(0 : Int).toNat]? = some (.int .i64 (-1)) := by rw [iS_get (by rw [emL_len]; decide)]; exact congrArg (fun z => some (AV.int .i64 z)) (getD_fnL _ (by decide))
  have g255 : (iS .i64 emL)[(255 : Int).toNat]? = some (.int .i64 (-1)) := by rw [iS_get (by rw [emL_len]; decide)]; exact congrArg (fun z => some (AV.int .i64 z)) (getD_fnL _ (by decide))
  have le : (iS .i64 emL).length = 256 := by rw [iS_length]; exact emL_len
  generalize packT Z 1 emL (emP 1) = B at *
  generalize prL (placesP (partsT Z 1 emL (emP 1) 1) (1 + 1)) = PL at *
  clear hth w
  generalize iS .i64 emL = RL at *
  generalize iS .i64 (emP 1) = RP at *
  refine ACall_of tt_ok (dok _) Try.func16 rfl (by decide) rfl ?_
  (repeat' ((conv => whnf); first | (refine Then.mk (AWq.in ?_); refine AWp_segP 1 ([.int .i64 1, .cs RL 256, .cs RP 256]) rfl rfl (by assumption) (rfl) (rfl) ?_; refine AWp.of tt_ok (dok _) rfl ?_) | refine Then.mk ?_ | left | refine OpsA.cons ?_ | refine OpsA.nil ?_ | refine AWq.seq ?_ | refine AWq.region ?_ | refine AWq.ret ?_ | (refine Both.mk ?_ ?_ <;> intro hc <;> (first | exact absurd (by with_reducible rfl) hc | (exfalso; omega) | skip)) | (intro c hc; (try (simp only [AH.none_iff] at hc; repeat (have hn := hc.1; replace hc := hc.2))); (first | skip)) | (apply Exists.intro; apply And.intro; (first | (focus (repeat (first | (with_reducible assumption) | (with_reducible exact AH.set_same _ _ _))); done) | (focus (repeat (first | assumption)); done))) | (apply Exists.intro; apply And.intro; first | (with_reducible assumption) | ((try simp only [List.getElem?_drop, Nat.mul_one, Nat.add_zero, Nat.zero_add]); first | (with_reducible assumption) | assumption | rfl)) | (apply And.intro; (first | rfl | (with_reducible assumption) | exact Nat.le_of_ble_eq_true rfl | omega | assumption)) | (refine ACall.to (em _) ?_) | (refine ACall.to (en _) ?_) | (refine ACall.to (lb _) ?_) | (refine ACall.to (th _) ?_) | (refine ACall.to (pa _) ?_) | (refine ACall.to (si _) ?_))) <;> (try (conv => whnf))
open Go.Fw Go

theorem tile_well (l : List Int) {n : Nat} (hn : 1 ≤ n ∧ n ≤ 3) : Well n (fnL 256 (tlA l)) (fnL (256 * n) (tlB l n)) := by
  refine ⟨fnL_len _ _, fnL_len _ _, fun i hi => ?_⟩
  have hb := lblN_bd l 16 i
  rw [getD_fnL _ hi]
  refine ⟨by unfold tlA; omega, fun k hk => ?_⟩
  rw [getD_fnL _ hi, getD_fnL _ (row_lt hi hk), tlB_at l i hk]
  unfold vOk tlA tlQ
  split <;> omega
set_option maxRecDepth 8000 in
set_option maxHeartbeats 4000000 in
theorem Values_c (n k : Nat) (hk : k < n) (hn : n ≤ 4) (L P : List Int) (hP : P.length = 256 * n) (H : AH) :
    ACall Try.prog 9 [.agg [.int .i64 n, .cs (iS .i64 L) 256, .cs (iS .i64 P) (256 * n)], .int .i64 k] H (fun y H' => y = .cs (iS .i64 (bandL n P k)) 256 ∧ H' = H) := by
  have hPl : (iS .i64 P).length = 256 * n := by rw [iS_length, hP]
  have hbl := bandL_len n P k
  refine ACall.cold (es := 1) (by rw [iS_length, hbl]) ?_
  refine ACall.told ?_
  refine ACall_of tt_ok (dok _) Try.func9 rfl (by decide) rfl ?_
  (repeat' ((conv => whnf); first | left | refine OpsA.cons ?_ | refine OpsA.nil ?_ | refine AWq.seq ?_ | refine AWq.region ?_ | refine AWq.cond ?_ | refine AWq.block ?_ | refine AWq.skip ?_ | refine AWq.ret ?_ | refine AWq.exit ?_ | refine AWq.loop ?_ | (refine Both.mk ?_ ?_ <;> intro hc <;> (first | exact Bool.noConfusion hc | (exfalso; omega) | skip)) | (intro c hc; (try (simp only [AH.none_iff] at hc; repeat (have hn := hc.1; replace hc := hc.2))); (first | (have hc2 := Eq.trans hc (by with_reducible assumption); clear hc; subst hc2) | skip)) | (apply Exists.intro; apply And.intro; (first | (focus (repeat (first | (with_reducible assumption))); done))) | (apply Exists.intro; apply And.intro; first | (with_reducible assumption) | ((try simp only [List.getElem?_drop, Nat.mul_one, Nat.add_zero, Nat.zero_add]); first | (with_reducible assumption) | rfl)) | (apply And.intro; (first | rfl | (with_reducible assumption) | exact Nat.le_of_ble_eq_true rfl | omega)))) <;> (try (conv => whnf))
  refine Then.mk (AWq.in ?_)
  refine AWp_freezeP 2 rfl rfl (AH.set_same _ _ _) ?_
  rw [AH.del_set _ _ _ (by assumption)]
  refine AWp.of tt_ok (dok _) rfl ?_
  (repeat' ((conv => whnf); first | left | refine OpsA.cons ?_ | refine OpsA.nil ?_ | refine AWq.seq ?_ | refine AWq.region ?_ | refine AWq.cond ?_ | refine AWq.block ?_ | refine AWq.skip ?_ | refine AWq.ret ?_ | refine AWq.exit ?_ | refine AWq.loop ?_ | (refine Both.mk ?_ ?_ <;> intro hc <;> (first | exact Bool.noConfusion hc | (exfalso; omega) | skip)) | (intro c hc; (try (simp only [AH.none_iff] at hc; repeat (have hn := hc.1; replace hc := hc.2))); (first | (have hc2 := Eq.trans hc (by with_reducible assumption); clear hc; subst hc2) | skip)) | (apply Exists.intro; apply And.intro; (first | (focus (repeat (first | (with_reducible assumption))); done))) | (apply Exists.intro; apply And.intro; first | (with_reducible assumption) | ((try simp only [List.getElem?_drop, Nat.mul_one, Nat.add_zero, Nat.zero_add]); first | (with_reducible assumption) | rfl)) | (apply And.intro; (first | rfl | (with_reducible assumption) | exact Nat.le_of_ble_eq_true rfl | omega)))) <;> (try (conv => whnf))
  refine Then.mk (AWq.in ?_)
  refine AWp_nilrow1 5 1 rfl rfl fun q hq => ?_
  refine AWp.of tt_ok (dok _) rfl ?_
  (repeat' ((conv => whnf); first | refine Then.mk ?_ | left | refine OpsA.cons ?_ | refine OpsA.nil ?_ | refine AWq.seq ?_ | refine AWq.region ?_ | refine AWq.cond ?_ | refine AWq.block ?_ | refine AWq.skip ?_ | refine AWq.ret ?_ | refine AWq.exit ?_ | refine AWq.loop ?_ | (refine Both.mk ?_ ?_ <;> intro hc <;> (first | exact Bool.noConfusion hc | (exfalso; omega) | skip)) | (intro c hc; (try (simp only [AH.none_iff] at hc; repeat (have hn := hc.1; replace hc := hc.2))); (first | (have hc2 := Eq.trans hc (by with_reducible assumption); clear hc; subst hc2) | skip)) | (apply Exists.intro; apply And.intro; (first | (focus (repeat (first | (with_reducible assumption))); done))) | (apply Exists.intro; apply And.intro; first | (with_reducible assumption) | ((try simp only [List.getElem?_drop, Nat.mul_one, Nat.add_zero, Nat.zero_add]); first | (with_reducible assumption) | rfl)) | (apply And.intro; (first | rfl | (with_reducible assumption) | exact Nat.le_of_ble_eq_true rfl | omega)))) <;> (try (conv => whnf))
  refine AWp_loop (σ := Nat) (5 :: 6 :: 8 :: 9 :: 10 :: 11 :: 12 :: 13 :: 14 :: 15 :: 16 :: 17 :: 18 :: 19 :: 20 :: 21 :: 22 :: 23 :: 24 :: []) (fun i => [(6, .int .i64 (i * n + k : Nat)), (5, .sl q i 1 0 i none)]) (fun i => H.set q (.row (iS .i64 ((bandL n P k).take i)) i)) (fun i => i ≤ 256) (fun i => 256 - i) 0 rfl (Nat.zero_le _) ⟨by rw [Nat.zero_mul, Nat.zero_add]; rfl, rfl, trivial⟩ (HLe.refl _) ?_
  intro i hi
  refine AWp.of tt_ok (dok _) rfl ?_
  dsimp only at hi ⊢
  have gq := AH.set_same H q (.row (iS .i64 ((bandL n P k).take i)) i)
  have lq : (iS .i64 ((bandL n P k).take i)).length = i := by rw [iS_length, List.length_take]; omega
  by_cases hit : i < 256
  · have hin := row_lt (n := n) hit hk
    have gp : (iS .i64 P)[((i * n + k : Nat) : Int).toNat]? = some (.int .i64 (P.getD (i * n + k) 0)) := by rw [Int.toNat_natCast]; exact iS_get (by omega)
    have hbi : (bandL n P k).getD i 0 = P.getD (i * n + k) 0 := getD_fnL _ hit
    rw [← hbi] at gp
    have ht : iS .i64 ((bandL n P k).take (i + 1)) = iS .i64 ((bandL n P k).take i) ++ [.int .i64 ((bandL n P k).getD i 0)] := by
      rw [take_snoc (x := (bandL n P k).getD i 0) (by rw [List.getD_eq_getElem?_getD, List.getElem?_eq_getElem (by omega)]; rfl), ← iS_snoc]
    have hnx : ((((i + 1) * n + k : Nat)) : Int) = ((i * n + k : Nat) : Int) + n := by rw [Nat.add_mul, Nat.one_mul]; omega
    generalize (bandL n P k).getD i 0 = v at *
    generalize iS .i64 ((bandL n P k).take i) = R7 at *
    generalize hQ : i * n + k = Q at *
    have e1 : IntKind.i64.wrap ((Q : Int) + n) = (Q : Int) + n := by rw [IntKind.wrap_i64]; omega
    (repeat' ((conv => whnf); first | refine Then.mk ?_ | left | refine OpsA.cons ?_ | refine OpsA.nil ?_ | refine AWq.seq ?_ | refine AWq.region ?_ | refine AWq.cond ?_ | refine AWq.block ?_ | refine AWq.skip ?_ | refine AWq.ret ?_ | refine AWq.exit ?_ | refine AWq.loop ?_ | (refine Both.mk ?_ ?_ <;> intro hc <;> (first | exact Bool.noConfusion hc | (exfalso; omega) | skip)) | (intro c hc; (try (simp only [AH.none_iff] at hc; repeat (have hn := hc.1; replace hc := hc.2))); (first | (have hc2 := Eq.trans hc (by with_reducible assumption); clear hc; subst hc2) | skip)) | (apply Exists.intro; apply And.intro; (first | (focus (repeat (first | (with_reducible assumption))); done))) | (apply Exists.intro; apply And.intro; first | (with_reducible assumption) | ((try simp only [List.getElem?_drop, Nat.mul_one, Nat.add_zero, Nat.zero_add]); first | (with_reducible assumption) | rfl)) | (apply And.intro; (first | rfl | (with_reducible assumption) | exact Nat.le_of_ble_eq_true rfl | omega)))) <;> (try (conv => whnf))
    exact ⟨i + 1, hit, by omega, ⟨by dsimp only; rw [hnx]; rfl, rfl, trivial⟩, HLe.of_eq (by rw [ht, AH.set_set])⟩
  · have hie : i = 256 := by omega
    subst hie
    rw [show (bandL n P k).take 256 = bandL n P k from List.take_of_length_le (by omega)] at gq lq ⊢
    (repeat' ((conv => whnf); first | refine Then.mk ?_ | left | refine OpsA.cons ?_ | refine OpsA.nil ?_ | refine AWq.seq ?_ | refine AWq.region ?_ | refine AWq.cond ?_ | refine AWq.block ?_ | refine AWq.skip ?_ | refine AWq.ret ?_ | refine AWq.exit ?_ | refine AWq.loop ?_ | (refine Both.mk ?_ ?_ <;> intro hc <;> (first | exact Bool.noConfusion hc | (exfalso; omega) | skip)) | (intro c hc; (try (simp only [AH.none_iff] at hc; repeat (have hn := hc.1; replace hc := hc.2))); (first | (have hc2 := Eq.trans hc (by with_reducible assumption); clear hc; subst hc2) | skip)) | (apply Exists.intro; apply And.intro; (first | (focus (repeat (first | (with_reducible assumption))); done))) | (apply Exists.intro; apply And.intro; first | (with_reducible assumption) | ((try simp only [List.getElem?_drop, Nat.mul_one, Nat.add_zero, Nat.zero_add]); first | (with_reducible assumption) | rfl)) | (apply And.intro; (first | rfl | (with_reducible assumption) | exact Nat.le_of_ble_eq_true rfl | omega)))) <;> (try (conv => whnf))
    exact ⟨_, _, AVle.refl _, HLe.refl _, q, hq, 256, rfl, rfl⟩
theorem fwd_sq {a : List Int} (h : BOk a) : sqR 1099511627776 fwd 16 a = (coefL a, 0) := by
  have h16 : IsSide 16 := (pow_side (k := 4) (by decide)).1
  have hlog : Nat.log2 16 = 4 := by decide
  unfold sqR
  rw [if_pos ⟨h16, by rw [h.len]; rfl⟩, if_pos h.inA]
  show (toL 16 (fwd (Nat.log2 16) (ofL 16 a)), (0 : Int)) = _
  rw [hlog]; rfl
set_option maxRecDepth 8000 in
theorem rThumb_c {a : List Int} (h : BOk a) (t : Int) (ht : J64 t) (H : AH) :
    ACall Try.prog 11 [.cs (iS .i64 a) 256, .int .i64 t] H (fun y H' => y = resV (lowR 16 (coefL a) t) ∧ H' = H) := by
  have fc := fun H => rForward_c 16 (by decide) (by decide) a (by rw [h.len]; omega) H
  rw [fwd_sq h, h.len] at fc
  unfold resV at fc
  dsimp only at fc
  rw [coefL_len] at fc
  have lc := fun H => rLow_c 16 (by decide) (by decide) (coefL a) (by rw [coefL_len]; omega) t ht.1 ht.2 H
  rw [coefL_len] at lc
  unfold resV at lc ⊢
  generalize (lowR 16 (coefL a) t).1 = X at *
  generalize (lowR 16 (coefL a) t).2 = e at *
  refine ACall_of tt_ok (dok _) Try.func11 rfl (by decide) rfl ?_
  (repeat' ((conv => whnf); first | refine Then.mk ?_ | refine OpsA.cons ?_ | refine OpsA.nil ?_ | refine AWq.seq ?_ | refine AWq.region ?_ | refine AWq.ret ?_ | (apply And.intro; (first | rfl)) | (refine ACall.to (fc _) ?_) | (refine ACall.to (lc _) ?_))) <;> (try (conv => whnf))
set_option maxRecDepth 8000 in
set_option maxHeartbeats 4000000 in
theorem split_nil (H : AH) : ACall Try.prog 49 [.cs (u8s []) 0] H (fun y H' => y = .tup [.nils, .int .i64 2] ∧ H' = H) := by
  refine ACall.back ?_
  refine ACall_of tt_ok (dok _) Try.func49 rfl (by decide) rfl ?_
  (repeat' ((conv => whnf); first | refine OpsA.cons ?_ | refine OpsA.nil ?_ | refine AWq.seq ?_ | refine AWq.region ?_ | refine AWq.cond ?_ | refine AWq.ret ?_ | (refine Both.mk ?_ ?_ <;> intro hc <;> (first | exact Bool.noConfusion hc | (exfalso; omega) | skip)) | (apply And.intro; (first | rfl)))) <;> (try (conv => whnf))
  refine Then.mk ?_
  (repeat' ((conv => whnf); first | refine OpsA.cons ?_ | refine OpsA.nil ?_ | refine AWq.seq ?_ | refine AWq.region ?_ | refine AWq.cond ?_ | refine AWq.ret ?_ | (refine Both.mk ?_ ?_ <;> intro hc <;> (first | exact Bool.noConfusion hc | (exfalso; omega) | skip)) | (apply And.intro; (first | rfl)))) <;> (try (conv => whnf))
  refine (Read_c [] (by decide) H).mono ?_
  rintro y H' ⟨p, hpn, rfl, rfl⟩
  have ri := rInt_c p 0 [] (by decide) H
  have e0 : rdI (canon 0 []) = (0, (3, [])) := by decide +kernel
  rw [e0] at ri
  have hle : ∀ e b, HLe H (RdH H p e b) := fun e b => HLe.set_of _ _ (HLe.refl _) hpn
  generalize hG0 : RdH H p 0 [] = G0 at *
  (repeat' ((conv => whnf); first | refine Then.mk ?_ | refine OpsA.cons ?_ | refine OpsA.nil ?_ | refine AWq.seq ?_ | refine AWq.region ?_ | refine AWq.cond ?_ | refine AWq.ret ?_ | (refine Both.mk ?_ ?_ <;> intro hc <;> (first | exact Bool.noConfusion hc | (exfalso; omega) | skip)) | (apply And.intro; (first | rfl)))) <;> (try (conv => whnf))
  refine ri.mono ?_
  rintro y H' ⟨rfl, e, b, h1, h2, rfl⟩
  have hle := hle e b
  generalize RdH H p e b = G at *
  (repeat' ((conv => whnf); first | refine Then.mk ?_ | refine OpsA.cons ?_ | refine OpsA.nil ?_ | refine AWq.seq ?_ | refine AWq.region ?_ | refine AWq.cond ?_ | refine AWq.ret ?_ | (refine Both.mk ?_ ?_ <;> intro hc <;> (first | exact Bool.noConfusion hc | (exfalso; omega) | skip)) | (apply And.intro; (first | rfl)))) <;> (try (conv => whnf))
  exact hle
set_option maxRecDepth 8000 in
theorem Thumb_nil (H : AH) : ACall Try.prog 10 [.nils, .int .i64 0, .int .i64 1] H (fun y H' => y = .tup [.nils, .int .i64 2] ∧ H' = H) := by
  have sc := fun H => split_nil H
  have oc : ∀ H, ACall Try.prog 33 [.cs (u8s []) 0, .int .i64 0] H (fun y H' => y = .tup [.nils, .nils, .int .i64 2] ∧ H' = H) := fun H => by
    refine ACall_of tt_ok (dok _) Try.func33 rfl (by decide) rfl ?_
    (repeat' ((conv => whnf); first | refine Then.mk ?_ | refine OpsA.cons ?_ | refine OpsA.nil ?_ | refine AWq.seq ?_ | refine AWq.region ?_ | refine AWq.cond ?_ | refine AWq.block ?_ | refine AWq.ret ?_ | (refine Both.mk ?_ ?_ <;> intro hc <;> (first | exact Bool.noConfusion hc | (exfalso; omega) | skip)) | (apply And.intro; (first | rfl)) | (refine ACall.to (sc _) ?_))) <;> (try (conv => whnf))
  have tc : ∀ H, ACall Try.prog 10 [.cs (u8s []) 0, .int .i64 0, .int .i64 1] H (fun y H' => y = .tup [.nils, .int .i64 2] ∧ H' = H) := fun H => by
    refine ACall_of tt_ok (dok _) Try.func10 rfl (by decide) rfl ?_
    (repeat' ((conv => whnf); first | refine Then.mk ?_ | refine OpsA.cons ?_ | refine OpsA.nil ?_ | refine AWq.seq ?_ | refine AWq.region ?_ | refine AWq.cond ?_ | refine AWq.block ?_ | refine AWq.ret ?_ | (refine Both.mk ?_ ?_ <;> intro hc <;> (first | exact Bool.noConfusion hc | (exfalso; omega) | skip)) | (apply And.intro; (first | rfl)) | (refine ACall.to (oc _) ?_))) <;> (try (conv => whnf))
  exact ACall.args (AVles.cons AVle.nils (AVles.refl _)) (tc H)
end Go.Proofs.Ytgpfmojlgejnhaa
