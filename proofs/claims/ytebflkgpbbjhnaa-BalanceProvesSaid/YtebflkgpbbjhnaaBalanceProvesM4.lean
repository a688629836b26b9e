/- For the law BalanceProves, part 4 of 7: the frame of the walk, the walks of the functions, the plain law, the row. No conditions. -/
import Derived.Test.YtebflkgpbbjhnaaBalanceProvesM3
/- The walks of balance: distances. -/
namespace Go.Proofs.Ytebflkgpbbjhnaa
open Go.Fw Go
set_option linter.unusedVariables false
set_option linter.unusedSimpArgs false

theorem rlxF (σ : Ds) (x : Ac) : Rlx σ x false ↔ -x.w < x.f ∧ σ.d x.a < 1125899906842624 ∧ σ.d x.a - x.d < σ.d x.b := by
  unfold Rlx Rs far
  show (_ ∧ σ.d x.a < _ ∧ σ.d x.a + -x.d < σ.d x.b) ↔ _
  simp only [Bool.false_eq_true, if_false]
  constructor <;> (intro h; omega)
theorem rlxT (σ : Ds) (x : Ac) : Rlx σ x true ↔ x.f < x.w ∧ σ.d x.b < 1125899906842624 ∧ σ.d x.b + x.d < σ.d x.a := by
  unfold Rlx Rs far
  show (_ ∧ σ.d x.b < _ ∧ σ.d x.b + x.d < σ.d x.a) ↔ _
  simp only [if_true]
theorem stL_wrZ {n i : Nat} (s : Nat → Nat × Bool) (h : i < n) (x : Nat × Bool) : wrA (stL n s) (0 + (i : Int).toNat * 2) (stA x) = stL n (putS' s i x) := by
  rw [show 0 + (i : Int).toNat * 2 = i * 2 by omega]; exact stL_wr s h x
/-- The heap in which distances are made. -/
def dsH (H : AH) (n rd vd rs : Nat) (σ : Ds) : AH := (H.set rd (.row (dL (n + 1) σ.d) vd)).set rs (.row (stL (n + 1) σ.s) 0)
theorem dsH_put {H : AH} {n rd vd rs : Nat} {σ : Ds} (hne : rd ≠ rs) {b : Nat} (hb : b ≤ n) (z : Int) (i : Nat) (up : Bool) :
    dsH H n rd vd rs ⟨putD σ.d b z, putS' σ.s b (i, up)⟩ = ((dsH H n rd vd rs σ).set rd (.row (wrA (dL (n + 1) σ.d) (0 + (b : Int).toNat * 1) [.int .i64 z]) vd)).set rs (.row (wrA (stL (n + 1) σ.s) (0 + (b : Int).toNat * 2) (stA (i, up))) 0) := by
  rw [dL_wrZ σ.d (by omega), stL_wrZ σ.s (by omega)]
  unfold dsH
  rw [AH.set_comm (H.set rd _) _ _ (Ne.symm hne), AH.set_set, AH.set_set]
theorem dsH_F {H : AH} {n rd vd rs : Nat} {σ : Ds} (hne : rd ≠ rs) {x : Ac} (hb : x.b ≤ n) (i : Nat) :
    dsH H n rd vd rs (rlx σ i x false) = ((dsH H n rd vd rs σ).set rd (.row (wrA (dL (n + 1) σ.d) (0 + (x.b : Int).toNat * 1) [.int .i64 (σ.d x.a - x.d)]) vd)).set rs (.row (wrA (stL (n + 1) σ.s) (0 + (x.b : Int).toNat * 2) [.int .i64 i, .bool false]) 0) :=
  dsH_put hne hb _ i false
theorem dsH_T {H : AH} {n rd vd rs : Nat} {σ : Ds} (hne : rd ≠ rs) {x : Ac} (hb : x.a ≤ n) (i : Nat) :
    dsH H n rd vd rs (rlx σ i x true) = ((dsH H n rd vd rs σ).set rd (.row (wrA (dL (n + 1) σ.d) (0 + (x.a : Int).toNat * 1) [.int .i64 (σ.d x.b + x.d)]) vd)).set rs (.row (wrA (stL (n + 1) σ.s) (0 + (x.a : Int).toNat * 2) [.int .i64 i, .bool true]) 0) :=
  dsH_put hne hb _ i true
set_option maxHeartbeats 4000000 in
set_option maxRecDepth 8000 in
theorem distances_c (n : Nat) (hn : n ≤ 100) (A : List Ac) (hA : ∀ x ∈ A, AcOk n x) (hl : A.length ≤ 100000) (Q : Ds → Prop) (wt : Ds → Nat)
    (hQ : ∀ σ i x up, Q σ → A[i]? = some x → Rlx σ x up → Q (rlx σ i x up) ∧ wt (rlx σ i x up) < wt σ) (hB : ∀ σ, Q σ → ∀ v, v ≤ n → -1152921504606846976 ≤ σ.d v ∧ σ.d v ≤ 1152921504606846976)
    (d0 : Nat → Int) (h0 : Q ⟨d0, fun _ => (0, false)⟩) (H : AH) (g vg ra va : Nat) (lim lim' : Option Nat) (hN : NetAt H n A g vg ra va lim) (rd vd : Nat) (hd : H rd = some (.row (dL (n + 1) d0) vd)) (hdg : rd ≠ g) (hda : rd ≠ ra) :
    ACall Try.prog 41 [.ptr g vg 0, .sl rd vd 1 0 (n + 1) lim'] H (fun y H' => ∃ σ rs, Q σ ∧ Stab A σ ∧ H rs = none ∧ y = .sl rs 0 2 0 (n + 1) none ∧ H' = dsH H n rd vd rs σ) := by
  obtain ⟨hg, ha, hne⟩ := hN
  refine ACall_of tt_ok (dok _) Try.func41 rfl (by decide) rfl ?_
  (repeat' ((conv => whnf); first | refine Then.mk ?_ | refine OpsA.cons ?_ | refine OpsA.nil ?_ | refine AWq.seq ?_ | refine AWq.region ?_ | refine AWq.cond ?_ | refine AWq.block ?_ | refine AWq.skip ?_ | refine AWq.ret ?_ | refine AWq.exit ?_ | refine AWq.loop ?_ | refine DrawA.consD ?_ | refine DrawA.nil ?_ | refine AWq.draw (by decide +kernel) ?_ | (refine Both.mk ?_ ?_ <;> intro hc <;> (first | exact Bool.noConfusion hc | (exfalso; omega) | skip)) | (intro c hc; (try (simp only [AH.none_iff] at hc; repeat (have hn := hc.1; replace hc := hc.2))); (first | (refine i64_k hc ?_ ?_ ?_ ; omega; omega; (clear hc; intro hc; subst hc)) | skip)) | (apply Exists.intro; apply And.intro; (focus (repeat (first | assumption | exact AH.set_same _ _ _ | ((first | refine AH.get_ne ?_ ?_); (first | assumption | omega)))); done)) | (apply Exists.intro; apply And.intro; first | (with_reducible assumption) | ((try simp only [List.getElem?_drop, Nat.mul_one, Nat.add_zero, Nat.zero_add]); first | (with_reducible assumption) | assumption | rfl)) | (apply Exists.intro; apply And.intro; (focus (intro G; ((conv => whnf); (try left); (conv => whnf); first | exact And.intro rfl rfl)))) | (apply And.intro; (first | rfl | (with_reducible assumption) | exact Nat.le_of_ble_eq_true rfl | omega | assumption | (simp <;> omega) | (focus (repeat' (first | (with_reducible assumption) | rfl | apply one_take | apply one_drop)); done))))) <;> (try (conv => whnf))
  (obtain ⟨r, hq_⟩ : ∃ r, r = c := ⟨_, rfl⟩); subst hq_
  have hr : H r = none := by assumption
  have ngr : g ≠ r := AH.none_ne' hr hg
  have nar : ra ≠ r := AH.none_ne' hr ha
  have ndr : rd ≠ r := AH.none_ne' hr hd
  have hG : ∀ σ, dsH H n rd vd r σ g = some (.row [.int .i64 n, .sl ra va 5 0 A.length lim] vg) := fun σ => by
    unfold dsH; rw [AH.set_ne _ _ ngr, AH.set_ne _ _ (Ne.symm hdg)]; exact hg
  have hGa : ∀ σ, dsH H n rd vd r σ ra = some (.row (acL A) va) := fun σ => by
    unfold dsH; rw [AH.set_ne _ _ nar, AH.set_ne _ _ (Ne.symm hda)]; exact ha
  have hGd : ∀ σ, dsH H n rd vd r σ rd = some (.row (dL (n + 1) σ.d) vd) := fun σ => by
    unfold dsH; rw [AH.set_ne _ _ ndr, AH.set_same]
  have hGs : ∀ σ, dsH H n rd vd r σ r = some (.row (stL (n + 1) σ.s) 0) := fun σ => by
    unfold dsH; rw [AH.set_same]
  have hcl := acL_len A
  have ho := acL_one A
  refine AWp_loop (σ := Ds × Bool) (6 :: 7 :: 8 :: 12 :: 13 :: 14 :: 15 :: 16 :: 17 :: 18 :: 19 :: 20 :: 21 :: 22 :: 23 :: 24 :: 25 :: 26 :: 27 :: 28 :: 29 :: 30 :: 31 :: 32 :: 33 :: 34 :: 35 :: 36 :: 37 :: 38 :: 39 :: 40 :: 41 :: 42 :: 43 :: 44 :: 45 :: 46 :: 47 :: 48 :: 49 :: 50 :: 51 :: 52 :: 53 :: 54 :: 55 :: 56 :: 57 :: 58 :: 59 :: 60 :: 61 :: 62 :: 63 :: 64 :: 65 :: 66 :: 67 :: 68 :: 69 :: 70 :: 71 :: 72 :: 73 :: 74 :: 75 :: 76 :: 77 :: 78 :: 79 :: 80 :: 81 :: 82 :: 83 :: 84 :: 85 :: 86 :: 87 :: 88 :: 89 :: 90 :: 91 :: 92 :: 93 :: 94 :: 95 :: 96 :: 97 :: 98 :: 99 :: 100 :: 101 :: 102 :: 103 :: 104 :: 105 :: 106 :: 107 :: 108 :: 109 :: 110 :: 111 :: 112 :: 113 :: 114 :: 115 :: 116 :: 117 :: 118 :: []) (fun s => [(6, .bool s.2)]) (fun s => dsH H n rd vd r s.1) (fun s => Q s.1 ∧ (s.2 = false → Stab A s.1)) (fun s => 2 * wt s.1 + cond s.2 1 0) (⟨d0, fun _ => (0, false)⟩, true) rfl ⟨h0, fun h => by cases h⟩ ⟨rfl, trivial⟩ ?_ ?_
  · refine HLe.of_eq ?_
    show _ = H.set r (.row (List.replicate (((n + 1 : Nat) : Int)).toNat [AV.int .i64 0, AV.bool false]).flatten 0)
    rw [Int.toNat_natCast, stL_zero]
    unfold dsH
    rw [AH.set_id hd]
  rintro ⟨σ, ch⟩ ⟨hq, hst⟩
  dsimp only at hq hst ⊢
  refine AWp.of tt_ok (dok _) rfl ?_
  cases ch with
  | false =>
    (repeat' ((conv => whnf); first | refine Then.mk ?_ | refine OpsA.cons ?_ | refine OpsA.nil ?_ | refine AWq.seq ?_ | refine AWq.region ?_ | refine AWq.cond ?_ | refine AWq.block ?_ | refine AWq.skip ?_ | refine AWq.ret ?_ | refine AWq.exit ?_ | refine AWq.loop ?_ | refine DrawA.consD ?_ | refine DrawA.nil ?_ | refine AWq.draw (by decide +kernel) ?_ | (refine Both.mk ?_ ?_ <;> intro hc <;> (first | exact Bool.noConfusion hc | (exfalso; omega) | skip)) | (intro c hc; (try (simp only [AH.none_iff] at hc; repeat (have hn := hc.1; replace hc := hc.2))); (first | (refine i64_k hc ?_ ?_ ?_ ; omega; omega; (clear hc; intro hc; subst hc)) | skip)) | (apply Exists.intro; apply And.intro; (focus (repeat (first | assumption | exact AH.set_same _ _ _ | ((first | refine AH.get_ne ?_ ?_); (first | assumption | omega)))); done)) | (apply Exists.intro; apply And.intro; first | (with_reducible assumption) | ((try simp only [List.getElem?_drop, Nat.mul_one, Nat.add_zero, Nat.zero_add]); first | (with_reducible assumption) | assumption | rfl)) | (apply Exists.intro; apply And.intro; (focus (intro G; ((conv => whnf); (try left); (conv => whnf); first | exact And.intro rfl rfl)))) | (apply And.intro; (first | rfl | (with_reducible assumption) | exact Nat.le_of_ble_eq_true rfl | omega | assumption | (simp <;> omega) | (focus (repeat' (first | (with_reducible assumption) | rfl | apply one_take | apply one_drop)); done))))) <;> (try (conv => whnf))
    exact ⟨σ, r, hq, hst rfl, hr, rfl, rfl⟩
  | true =>
    have hG1 := hG σ
    (repeat' ((conv => whnf); first | refine Then.mk ?_ | refine OpsA.cons ?_ | refine OpsA.nil ?_ | refine AWq.seq ?_ | refine AWq.region ?_ | refine AWq.cond ?_ | refine AWq.block ?_ | refine AWq.skip ?_ | refine AWq.ret ?_ | refine AWq.exit ?_ | refine AWq.loop ?_ | refine DrawA.consD ?_ | refine DrawA.nil ?_ | refine AWq.draw (by decide +kernel) ?_ | (refine Both.mk ?_ ?_ <;> intro hc <;> (first | exact Bool.noConfusion hc | (exfalso; omega) | skip)) | (intro c hc; (try (simp only [AH.none_iff] at hc; repeat (have hn := hc.1; replace hc := hc.2))); (first | (refine i64_k hc ?_ ?_ ?_ ; omega; omega; (clear hc; intro hc; subst hc)) | skip)) | (apply Exists.intro; apply And.intro; (focus (repeat (first | assumption | exact AH.set_same _ _ _ | ((first | refine AH.get_ne ?_ ?_); (first | assumption | omega)))); done)) | (apply Exists.intro; apply And.intro; first | (with_reducible assumption) | ((try simp only [List.getElem?_drop, Nat.mul_one, Nat.add_zero, Nat.zero_add]); first | (with_reducible assumption) | assumption | rfl)) | (apply Exists.intro; apply And.intro; (focus (intro G; ((conv => whnf); (try left); (conv => whnf); first | exact And.intro rfl rfl)))) | (apply And.intro; (first | rfl | (with_reducible assumption) | exact Nat.le_of_ble_eq_true rfl | omega | assumption | (simp <;> omega) | (focus (repeat' (first | (with_reducible assumption) | rfl | apply one_take | apply one_drop)); done))))) <;> (try (conv => whnf))
    refine AWp_loop (σ := Ds × Bool × Nat) (6 :: 7 :: 8 :: 18 :: 19 :: 20 :: 21 :: 22 :: 23 :: 24 :: 25 :: 26 :: 27 :: 28 :: 29 :: 30 :: 31 :: 32 :: 33 :: 34 :: 35 :: 36 :: 37 :: 38 :: 39 :: 40 :: 41 :: 42 :: 43 :: 44 :: 45 :: 46 :: 47 :: 48 :: 49 :: 50 :: 51 :: 52 :: 53 :: 54 :: 55 :: 56 :: 57 :: 58 :: 59 :: 60 :: 61 :: 62 :: 63 :: 64 :: 65 :: 66 :: 67 :: 68 :: 69 :: 70 :: 71 :: 72 :: 73 :: 74 :: 75 :: 76 :: 77 :: 78 :: 79 :: 80 :: 81 :: 82 :: 83 :: 84 :: 85 :: 86 :: 87 :: 88 :: 89 :: 90 :: 91 :: 92 :: 93 :: 94 :: 95 :: 96 :: 97 :: 98 :: 99 :: 100 :: 101 :: 102 :: 103 :: 104 :: 105 :: 106 :: 107 :: 108 :: 109 :: 110 :: 111 :: 112 :: 113 :: 114 :: 115 :: 116 :: 117 :: 118 :: []) (fun s => [(6, .bool s.2.1), (18, .int .i64 s.2.2)]) (fun s => dsH H n rd vd r s.1)
      (fun s => s.2.2 ≤ A.length ∧ Q s.1 ∧ (s.2.1 = false → s.1 = σ ∧ ∀ j x up, j < s.2.2 → A[j]? = some x → ¬ Rlx σ x up) ∧ (s.2.1 = true → wt s.1 < wt σ)) (fun s => A.length - s.2.2) (σ, false, 0) rfl ⟨Nat.zero_le _, hq, fun _ => ⟨rfl, fun j x up hj => absurd hj (Nat.not_lt_zero j)⟩, fun h => by cases h⟩ ⟨rfl, rfl, trivial⟩ (HLe.refl _) ?_
    rintro ⟨τ, ch, i⟩ ⟨hi, hqt, hf, ht⟩
    dsimp only at hi hqt hf ht ⊢
    refine AWp.of tt_ok (dok _) rfl ?_
    by_cases hil : i < A.length
    · obtain ⟨x, hx⟩ : ∃ x, A[i]? = some x := ⟨_, List.getElem?_eq_getElem hil⟩
      have hok := hA x (List.mem_of_getElem? hx)
      obtain ⟨xa, xb, d1, d2, w1, w2, f1, f2⟩ := hok
      have hGa1 := hGa τ
      have hdl := fun σ : Ds => dL_len (n + 1) σ.d
      have hsl := fun σ : Ds => stL_len (n + 1) σ.s
      have hfin : ∀ {τ : Ds}, (ch = false → τ = σ ∧ ∀ (j : Nat) (x : Ac) (up : Bool), j < i → A[j]? = some x → ¬ Rlx σ x up) → ¬ Rlx τ x false → ¬ Rlx τ x true → (ch = false → τ = σ ∧ ∀ (j : Nat) (x : Ac) (up : Bool), j < i + 1 → A[j]? = some x → ¬ Rlx σ x up) := by
        intro τ hf h1 h2 hc
        obtain ⟨rfl, hno⟩ := hf hc
        refine ⟨rfl, fun j y up hj hy => ?_⟩
        by_cases e : j = i
        · subst e
          rw [hx] at hy; cases hy
          cases up
          · exact h1
          · exact h2
        · exact hno j y up (by omega) hy
      by_cases hR1 : Rlx τ x false
      · have hr1 := (rlxF τ x).1 hR1
        obtain ⟨hq1, hlt1⟩ := hQ τ i x false hqt hx hR1
        have hGd1 := hGd τ
        have hGs1 := hGs τ
        have hBa := hB τ hqt x.a xa
        have hBb := hB τ hqt x.b xb
        have ga := dL_getZ (n := n + 1) τ.d (show x.a < n + 1 by omega)
        have gb := dL_getZ (n := n + 1) τ.d (show x.b < n + 1 by omega)
        have hd1 := hdl τ
        have hs1 := hsl τ
        have hall1 : wt (rlx τ i x false) < wt σ := by
          cases ch with
          | false => obtain ⟨rfl, _⟩ := hf rfl; exact hlt1
          | true => exact Nat.lt_trans hlt1 (ht rfl)
        (iterate 3 ((repeat' ((conv => whnf); first | refine OpsA.cons ?_ | refine OpsA.nil ?_ | refine AWq.seq ?_ | refine AWq.region ?_ | refine AWq.cond ?_ | refine AWq.block ?_ | refine AWq.skip ?_ | refine AWq.ret ?_ | refine AWq.exit ?_ | refine AWq.loop ?_ | refine DrawA.consD ?_ | refine DrawA.nil ?_ | refine AWq.draw (by decide +kernel) ?_ | (refine Both.mk ?_ ?_ <;> intro hc <;> (first | exact Bool.noConfusion hc | (exfalso; omega) | skip)) | (intro c hc; (try (simp only [AH.none_iff] at hc; repeat (have hn := hc.1; replace hc := hc.2))); (first | (refine i64_k hc ?_ ?_ ?_ ; omega; omega; (clear hc; intro hc; subst hc)) | skip)) | (apply Exists.intro; apply And.intro; (focus (repeat (first | assumption | exact AH.set_same _ _ _ | ((first | refine AH.get_ne ?_ ?_); (first | assumption | omega)))); done)) | (apply Exists.intro; apply And.intro; first | (with_reducible assumption) | ((try simp only [List.getElem?_drop, Nat.mul_one, Nat.add_zero, Nat.zero_add]); first | (with_reducible assumption) | assumption | rfl)) | (apply Exists.intro; apply And.intro; (focus (intro G; ((conv => whnf); (try left); (conv => whnf); first | exact And.intro rfl rfl)))) | (apply And.intro; (first | rfl | (with_reducible assumption) | exact Nat.le_of_ble_eq_true rfl | omega | assumption | (simp <;> omega) | (focus (repeat' (first | (with_reducible assumption) | rfl | apply one_take | apply one_drop)); done))))) <;> (try (conv => whnf)); refine Then.mk ?_))
        refine AWq.in ?_
        refine AWp_segP 8 (acA x) rfl rfl (by (first | assumption | (simp only [AH.none_iff]; (repeat' (first | assumption | (refine And.intro ?_ ?_)))))) (acL_segZ hx) rfl ?_
        refine AWp.of tt_ok (dok _) rfl ?_
        (iterate 1 ((repeat' ((conv => whnf); first | refine OpsA.cons ?_ | refine OpsA.nil ?_ | refine AWq.seq ?_ | refine AWq.region ?_ | refine AWq.cond ?_ | refine AWq.block ?_ | refine AWq.skip ?_ | refine AWq.ret ?_ | refine AWq.exit ?_ | refine AWq.loop ?_ | refine DrawA.consD ?_ | refine DrawA.nil ?_ | refine AWq.draw (by decide +kernel) ?_ | (refine Both.mk ?_ ?_ <;> intro hc <;> (first | exact Bool.noConfusion hc | (exfalso; omega) | skip)) | (intro c hc; (try (simp only [AH.none_iff] at hc; repeat (have hn := hc.1; replace hc := hc.2))); (first | (refine i64_k hc ?_ ?_ ?_ ; omega; omega; (clear hc; intro hc; subst hc)) | skip)) | (apply Exists.intro; apply And.intro; (focus (repeat (first | assumption | exact AH.set_same _ _ _ | ((first | refine AH.get_ne ?_ ?_); (first | assumption | omega)))); done)) | (apply Exists.intro; apply And.intro; first | (with_reducible assumption) | ((try simp only [List.getElem?_drop, Nat.mul_one, Nat.add_zero, Nat.zero_add]); first | (with_reducible assumption) | assumption | rfl)) | (apply Exists.intro; apply And.intro; (focus (intro G; ((conv => whnf); (try left); (conv => whnf); first | exact And.intro rfl rfl)))) | (apply And.intro; (first | rfl | (with_reducible assumption) | exact Nat.le_of_ble_eq_true rfl | omega | assumption | (simp <;> omega) | (focus (repeat' (first | (with_reducible assumption) | rfl | apply one_take | apply one_drop)); done))))) <;> (try (conv => whnf)); refine Then.mk ?_))
        (repeat' ((conv => whnf); first | refine OpsA.cons ?_ | refine OpsA.nil ?_ | refine AWq.seq ?_ | refine AWq.region ?_ | refine AWq.cond ?_ | refine AWq.block ?_ | refine AWq.skip ?_ | refine AWq.ret ?_ | refine AWq.exit ?_ | refine AWq.loop ?_ | refine DrawA.consD ?_ | refine DrawA.nil ?_ | refine AWq.draw (by decide +kernel) ?_ | (refine Both.mk ?_ ?_ <;> intro hc <;> (first | exact Bool.noConfusion hc | (exfalso; omega) | skip)) | (intro c hc; (try (simp only [AH.none_iff] at hc; repeat (have hn := hc.1; replace hc := hc.2))); (first | (refine i64_k hc ?_ ?_ ?_ ; omega; omega; (clear hc; intro hc; subst hc)) | skip)) | (apply Exists.intro; apply And.intro; (focus (repeat (first | assumption | exact AH.set_same _ _ _ | ((first | refine AH.get_ne ?_ ?_); (first | assumption | omega)))); done)) | (apply Exists.intro; apply And.intro; first | (with_reducible assumption) | ((try simp only [List.getElem?_drop, Nat.mul_one, Nat.add_zero, Nat.zero_add]); first | (with_reducible assumption) | assumption | rfl)) | (apply Exists.intro; apply And.intro; (focus (intro G; ((conv => whnf); (try left); (conv => whnf); first | exact And.intro rfl rfl)))) | (apply And.intro; (first | rfl | (with_reducible assumption) | exact Nat.le_of_ble_eq_true rfl | omega | assumption | (simp <;> omega) | (focus (repeat' (first | (with_reducible assumption) | rfl | apply one_take | apply one_drop)); done))))) <;> (try (conv => whnf))
        refine AWq.drawM ([], [58, 68]) (by decide +kernel) ?_
        (repeat' ((conv => whnf); first | refine OpsA.cons ?_ | refine OpsA.nil ?_ | refine AWq.seq ?_ | refine AWq.region ?_ | refine AWq.cond ?_ | refine AWq.block ?_ | refine AWq.skip ?_ | refine AWq.ret ?_ | refine AWq.exit ?_ | refine AWq.loop ?_ | refine DrawA.consD ?_ | refine DrawA.nil ?_ | refine AWq.draw (by decide +kernel) ?_ | (refine Both.mk ?_ ?_ <;> intro hc <;> (first | exact Bool.noConfusion hc | (exfalso; omega) | skip)) | (intro c hc; (try (simp only [AH.none_iff] at hc; repeat (have hn := hc.1; replace hc := hc.2))); (first | (refine i64_k hc ?_ ?_ ?_ ; omega; omega; (clear hc; intro hc; subst hc)) | skip)) | (apply Exists.intro; apply And.intro; (focus (repeat (first | assumption | exact AH.set_same _ _ _ | ((first | refine AH.get_ne ?_ ?_); (first | assumption | omega)))); done)) | (apply Exists.intro; apply And.intro; first | (with_reducible assumption) | ((try simp only [List.getElem?_drop, Nat.mul_one, Nat.add_zero, Nat.zero_add]); first | (with_reducible assumption) | assumption | rfl)) | (apply Exists.intro; apply And.intro; (focus (intro G; ((conv => whnf); (try left); (conv => whnf); first | exact And.intro rfl rfl)))) | (apply And.intro; (first | rfl | (with_reducible assumption) | exact Nat.le_of_ble_eq_true rfl | omega | assumption | (simp <;> omega) | (focus (repeat' (first | (with_reducible assumption) | rfl | apply one_take | apply one_drop)); done))))) <;> (try (conv => whnf))
        refine Then.mk (AWq.in ?_)
        refine AWp_less (dsH H n rd vd r (rlx τ i x false)) (HLe.of_eq (dsH_F ndr xb i)) ?_
        refine AWp.of tt_ok (dok _) rfl ?_
        (iterate 1 ((repeat' ((conv => whnf); first | refine OpsA.cons ?_ | refine OpsA.nil ?_ | refine AWq.seq ?_ | refine AWq.region ?_ | refine AWq.cond ?_ | refine AWq.block ?_ | refine AWq.skip ?_ | refine AWq.ret ?_ | refine AWq.exit ?_ | refine AWq.loop ?_ | refine DrawA.consD ?_ | refine DrawA.nil ?_ | refine AWq.draw (by decide +kernel) ?_ | (refine Both.mk ?_ ?_ <;> intro hc <;> (first | exact Bool.noConfusion hc | (exfalso; omega) | skip)) | (intro c hc; (try (simp only [AH.none_iff] at hc; repeat (have hn := hc.1; replace hc := hc.2))); (first | (refine i64_k hc ?_ ?_ ?_ ; omega; omega; (clear hc; intro hc; subst hc)) | skip)) | (apply Exists.intro; apply And.intro; (focus (repeat (first | assumption | exact AH.set_same _ _ _ | ((first | refine AH.get_ne ?_ ?_); (first | assumption | omega)))); done)) | (apply Exists.intro; apply And.intro; first | (with_reducible assumption) | ((try simp only [List.getElem?_drop, Nat.mul_one, Nat.add_zero, Nat.zero_add]); first | (with_reducible assumption) | assumption | rfl)) | (apply Exists.intro; apply And.intro; (focus (intro G; ((conv => whnf); (try left); (conv => whnf); first | exact And.intro rfl rfl)))) | (apply And.intro; (first | rfl | (with_reducible assumption) | exact Nat.le_of_ble_eq_true rfl | omega | assumption | (simp <;> omega) | (focus (repeat' (first | (with_reducible assumption) | rfl | apply one_take | apply one_drop)); done))))) <;> (try (conv => whnf)); refine Then.mk ?_))
        clear hGd1 hGs1 hBa hBb ga gb hd1 hs1 hGa1
        have hGd2 := hGd (rlx τ i x false)
        have hGs2 := hGs (rlx τ i x false)
        have hGa2 := hGa (rlx τ i x false)
        have hd2 := hdl (rlx τ i x false)
        have hs2 := hsl (rlx τ i x false)
        have hCa := hB (rlx τ i x false) hq1 x.a xa
        have hCb := hB (rlx τ i x false) hq1 x.b xb
        have ha2 := dL_getZ (n := n + 1) ((rlx τ i x false)).d (show x.a < n + 1 by omega)
        have hb2 := dL_getZ (n := n + 1) ((rlx τ i x false)).d (show x.b < n + 1 by omega)
        by_cases hR2 : Rlx (rlx τ i x false) x true
        · have hr2 := (rlxT (rlx τ i x false) x).1 hR2
          obtain ⟨hq2, hlt2⟩ := hQ (rlx τ i x false) i x true hq1 hx hR2
          have hall : wt (rlx (rlx τ i x false) i x true) < wt σ := by exact Nat.lt_trans hlt2 hall1
          generalize hτ2 : (rlx τ i x false) = τ2 at *
          (iterate 1 ((repeat' ((conv => whnf); first | refine OpsA.cons ?_ | refine OpsA.nil ?_ | refine AWq.seq ?_ | refine AWq.region ?_ | refine AWq.cond ?_ | refine AWq.block ?_ | refine AWq.skip ?_ | refine AWq.ret ?_ | refine AWq.exit ?_ | refine AWq.loop ?_ | refine DrawA.consD ?_ | refine DrawA.nil ?_ | refine AWq.draw (by decide +kernel) ?_ | (refine Both.mk ?_ ?_ <;> intro hc <;> (first | exact Bool.noConfusion hc | (exfalso; omega) | skip)) | (intro c hc; (try (simp only [AH.none_iff] at hc; repeat (have hn := hc.1; replace hc := hc.2))); (first | (refine i64_k hc ?_ ?_ ?_ ; omega; omega; (clear hc; intro hc; subst hc)) | skip)) | (apply Exists.intro; apply And.intro; (focus (repeat (first | assumption | exact AH.set_same _ _ _ | ((first | refine AH.get_ne ?_ ?_); (first | assumption | omega)))); done)) | (apply Exists.intro; apply And.intro; first | (with_reducible assumption) | ((try simp only [List.getElem?_drop, Nat.mul_one, Nat.add_zero, Nat.zero_add]); first | (with_reducible assumption) | assumption | rfl)) | (apply Exists.intro; apply And.intro; (focus (intro G; ((conv => whnf); (try left); (conv => whnf); first | exact And.intro rfl rfl)))) | (apply And.intro; (first | rfl | (with_reducible assumption) | exact Nat.le_of_ble_eq_true rfl | omega | assumption | (simp <;> omega) | (focus (repeat' (first | (with_reducible assumption) | rfl | apply one_take | apply one_drop)); done))))) <;> (try (conv => whnf)); refine Then.mk ?_))
          (repeat' ((conv => whnf); first | refine OpsA.cons ?_ | refine OpsA.nil ?_ | refine AWq.seq ?_ | refine AWq.region ?_ | refine AWq.cond ?_ | refine AWq.block ?_ | refine AWq.skip ?_ | refine AWq.ret ?_ | refine AWq.exit ?_ | refine AWq.loop ?_ | refine DrawA.consD ?_ | refine DrawA.nil ?_ | refine AWq.draw (by decide +kernel) ?_ | (refine Both.mk ?_ ?_ <;> intro hc <;> (first | exact Bool.noConfusion hc | (exfalso; omega) | skip)) | (intro c hc; (try (simp only [AH.none_iff] at hc; repeat (have hn := hc.1; replace hc := hc.2))); (first | (refine i64_k hc ?_ ?_ ?_ ; omega; omega; (clear hc; intro hc; subst hc)) | skip)) | (apply Exists.intro; apply And.intro; (focus (repeat (first | assumption | exact AH.set_same _ _ _ | ((first | refine AH.get_ne ?_ ?_); (first | assumption | omega)))); done)) | (apply Exists.intro; apply And.intro; first | (with_reducible assumption) | ((try simp only [List.getElem?_drop, Nat.mul_one, Nat.add_zero, Nat.zero_add]); first | (with_reducible assumption) | assumption | rfl)) | (apply Exists.intro; apply And.intro; (focus (intro G; ((conv => whnf); (try left); (conv => whnf); first | exact And.intro rfl rfl)))) | (apply And.intro; (first | rfl | (with_reducible assumption) | exact Nat.le_of_ble_eq_true rfl | omega | assumption | (simp <;> omega) | (focus (repeat' (first | (with_reducible assumption) | rfl | apply one_take | apply one_drop)); done))))) <;> (try (conv => whnf))
          refine AWq.drawM ([], [105, 115]) (by decide +kernel) ?_
          (repeat' ((conv => whnf); first | refine OpsA.cons ?_ | refine OpsA.nil ?_ | refine AWq.seq ?_ | refine AWq.region ?_ | refine AWq.cond ?_ | refine AWq.block ?_ | refine AWq.skip ?_ | refine AWq.ret ?_ | refine AWq.exit ?_ | refine AWq.loop ?_ | refine DrawA.consD ?_ | refine DrawA.nil ?_ | refine AWq.draw (by decide +kernel) ?_ | (refine Both.mk ?_ ?_ <;> intro hc <;> (first | exact Bool.noConfusion hc | (exfalso; omega) | skip)) | (intro c hc; (try (simp only [AH.none_iff] at hc; repeat (have hn := hc.1; replace hc := hc.2))); (first | (refine i64_k hc ?_ ?_ ?_ ; omega; omega; (clear hc; intro hc; subst hc)) | skip)) | (apply Exists.intro; apply And.intro; (focus (repeat (first | assumption | exact AH.set_same _ _ _ | ((first | refine AH.get_ne ?_ ?_); (first | assumption | omega)))); done)) | (apply Exists.intro; apply And.intro; first | (with_reducible assumption) | ((try simp only [List.getElem?_drop, Nat.mul_one, Nat.add_zero, Nat.zero_add]); first | (with_reducible assumption) | assumption | rfl)) | (apply Exists.intro; apply And.intro; (focus (intro G; ((conv => whnf); (try left); (conv => whnf); first | exact And.intro rfl rfl)))) | (apply And.intro; (first | rfl | (with_reducible assumption) | exact Nat.le_of_ble_eq_true rfl | omega | assumption | (simp <;> omega) | (focus (repeat' (first | (with_reducible assumption) | rfl | apply one_take | apply one_drop)); done))))) <;> (try (conv => whnf))
          refine Then.mk (AWq.in ?_)
          refine AWp_less (dsH H n rd vd r (rlx τ2 i x true)) (HLe.of_eq (dsH_T ndr xa i)) ?_
          refine AWp.of tt_ok (dok _) rfl ?_
          (repeat' ((conv => whnf); first | refine Then.mk ?_ | refine OpsA.cons ?_ | refine OpsA.nil ?_ | refine AWq.seq ?_ | refine AWq.region ?_ | refine AWq.cond ?_ | refine AWq.block ?_ | refine AWq.skip ?_ | refine AWq.ret ?_ | refine AWq.exit ?_ | refine AWq.loop ?_ | refine DrawA.consD ?_ | refine DrawA.nil ?_ | refine AWq.draw (by decide +kernel) ?_ | (refine Both.mk ?_ ?_ <;> intro hc <;> (first | exact Bool.noConfusion hc | (exfalso; omega) | skip)) | (intro c hc; (try (simp only [AH.none_iff] at hc; repeat (have hn := hc.1; replace hc := hc.2))); (first | (refine i64_k hc ?_ ?_ ?_ ; omega; omega; (clear hc; intro hc; subst hc)) | skip)) | (apply Exists.intro; apply And.intro; (focus (repeat (first | assumption | exact AH.set_same _ _ _ | ((first | refine AH.get_ne ?_ ?_); (first | assumption | omega)))); done)) | (apply Exists.intro; apply And.intro; first | (with_reducible assumption) | ((try simp only [List.getElem?_drop, Nat.mul_one, Nat.add_zero, Nat.zero_add]); first | (with_reducible assumption) | assumption | rfl)) | (apply Exists.intro; apply And.intro; (focus (intro G; ((conv => whnf); (try left); (conv => whnf); first | exact And.intro rfl rfl)))) | (apply And.intro; (first | rfl | (with_reducible assumption) | exact Nat.le_of_ble_eq_true rfl | omega | assumption | (simp <;> omega) | (focus (repeat' (first | (with_reducible assumption) | rfl | apply one_take | apply one_drop)); done))))) <;> (try (conv => whnf))
          exact ⟨(rlx τ2 i x true, true, i + 1), ⟨hil, hq2, fun h => Bool.noConfusion h, fun _ => hall⟩, by dsimp only; omega, ⟨rfl, congrArg (AV.int .i64) (by dsimp only; omega), trivial⟩, HLe.refl _⟩
        · have hr2 := mt (rlxT (rlx τ i x false) x).2 hR2
          skip
          generalize hτ2 : (rlx τ i x false) = τ2 at *
          (repeat' ((conv => whnf); first | refine Then.mk ?_ | refine OpsA.cons ?_ | refine OpsA.nil ?_ | refine AWq.seq ?_ | refine AWq.region ?_ | refine AWq.cond ?_ | refine AWq.block ?_ | refine AWq.skip ?_ | refine AWq.ret ?_ | refine AWq.exit ?_ | refine AWq.loop ?_ | refine DrawA.consD ?_ | refine DrawA.nil ?_ | refine AWq.draw (by decide +kernel) ?_ | (refine Both.mk ?_ ?_ <;> intro hc <;> (first | exact Bool.noConfusion hc | (exfalso; omega) | skip)) | (intro c hc; (try (simp only [AH.none_iff] at hc; repeat (have hn := hc.1; replace hc := hc.2))); (first | (refine i64_k hc ?_ ?_ ?_ ; omega; omega; (clear hc; intro hc; subst hc)) | skip)) | (apply Exists.intro; apply And.intro; (focus (repeat (first | assumption | exact AH.set_same _ _ _ | ((first | refine AH.get_ne ?_ ?_); (first | assumption | omega)))); done)) | (apply Exists.intro; apply And.intro; first | (with_reducible assumption) | ((try simp only [List.getElem?_drop, Nat.mul_one, Nat.add_zero, Nat.zero_add]); first | (with_reducible assumption) | assumption | rfl)) | (apply Exists.intro; apply And.intro; (focus (intro G; ((conv => whnf); (try left); (conv => whnf); first | exact And.intro rfl rfl)))) | (apply And.intro; (first | rfl | (with_reducible assumption) | exact Nat.le_of_ble_eq_true rfl | omega | assumption | (simp <;> omega) | (focus (repeat' (first | (with_reducible assumption) | rfl | apply one_take | apply one_drop)); done))))) <;> (try (conv => whnf))
          all_goals exact ⟨(τ2, true, i + 1), ⟨hil, hq1, fun h => Bool.noConfusion h, fun _ => hall1⟩, by dsimp only; omega, ⟨rfl, congrArg (AV.int .i64) (by dsimp only; omega), trivial⟩, HLe.refl _⟩
      · have hr1 := mt (rlxF τ x).2 hR1
        have hGd1 := hGd τ
        have hGs1 := hGs τ
        have hBa := hB τ hqt x.a xa
        have hBb := hB τ hqt x.b xb
        have ga := dL_getZ (n := n + 1) τ.d (show x.a < n + 1 by omega)
        have gb := dL_getZ (n := n + 1) τ.d (show x.b < n + 1 by omega)
        have hd1 := hdl τ
        have hs1 := hsl τ
        (iterate 3 ((repeat' ((conv => whnf); first | refine OpsA.cons ?_ | refine OpsA.nil ?_ | refine AWq.seq ?_ | refine AWq.region ?_ | refine AWq.cond ?_ | refine AWq.block ?_ | refine AWq.skip ?_ | refine AWq.ret ?_ | refine AWq.exit ?_ | refine AWq.loop ?_ | refine DrawA.consD ?_ | refine DrawA.nil ?_ | refine AWq.draw (by decide +kernel) ?_ | (refine Both.mk ?_ ?_ <;> intro hc <;> (first | exact Bool.noConfusion hc | (exfalso; omega) | skip)) | (intro c hc; (try (simp only [AH.none_iff] at hc; repeat (have hn := hc.1; replace hc := hc.2))); (first | (refine i64_k hc ?_ ?_ ?_ ; omega; omega; (clear hc; intro hc; subst hc)) | skip)) | (apply Exists.intro; apply And.intro; (focus (repeat (first | assumption | exact AH.set_same _ _ _ | ((first | refine AH.get_ne ?_ ?_); (first | assumption | omega)))); done)) | (apply Exists.intro; apply And.intro; first | (with_reducible assumption) | ((try simp only [List.getElem?_drop, Nat.mul_one, Nat.add_zero, Nat.zero_add]); first | (with_reducible assumption) | assumption | rfl)) | (apply Exists.intro; apply And.intro; (focus (intro G; ((conv => whnf); (try left); (conv => whnf); first | exact And.intro rfl rfl)))) | (apply And.intro; (first | rfl | (with_reducible assumption) | exact Nat.le_of_ble_eq_true rfl | omega | assumption | (simp <;> omega) | (focus (repeat' (first | (with_reducible assumption) | rfl | apply one_take | apply one_drop)); done))))) <;> (try (conv => whnf)); refine Then.mk ?_))
        refine AWq.in ?_
        refine AWp_segP 8 (acA x) rfl rfl (by (first | assumption | (simp only [AH.none_iff]; (repeat' (first | assumption | (refine And.intro ?_ ?_)))))) (acL_segZ hx) rfl ?_
        refine AWp.of tt_ok (dok _) rfl ?_
        (repeat' ((conv => whnf); first | refine OpsA.cons ?_ | refine OpsA.nil ?_ | refine AWq.seq ?_ | refine AWq.region ?_ | refine AWq.cond ?_ | refine AWq.block ?_ | refine AWq.skip ?_ | refine AWq.ret ?_ | refine AWq.exit ?_ | refine AWq.loop ?_ | refine DrawA.consD ?_ | refine DrawA.nil ?_ | refine AWq.draw (by decide +kernel) ?_ | (refine Both.mk ?_ ?_ <;> intro hc <;> (first | exact Bool.noConfusion hc | (exfalso; omega) | skip)) | (intro c hc; (try (simp only [AH.none_iff] at hc; repeat (have hn := hc.1; replace hc := hc.2))); (first | (refine i64_k hc ?_ ?_ ?_ ; omega; omega; (clear hc; intro hc; subst hc)) | skip)) | (apply Exists.intro; apply And.intro; (focus (repeat (first | assumption | exact AH.set_same _ _ _ | ((first | refine AH.get_ne ?_ ?_); (first | assumption | omega)))); done)) | (apply Exists.intro; apply And.intro; first | (with_reducible assumption) | ((try simp only [List.getElem?_drop, Nat.mul_one, Nat.add_zero, Nat.zero_add]); first | (with_reducible assumption) | assumption | rfl)) | (apply Exists.intro; apply And.intro; (focus (intro G; ((conv => whnf); (try left); (conv => whnf); first | exact And.intro rfl rfl)))) | (apply And.intro; (first | rfl | (with_reducible assumption) | exact Nat.le_of_ble_eq_true rfl | omega | assumption | (simp <;> omega) | (focus (repeat' (first | (with_reducible assumption) | rfl | apply one_take | apply one_drop)); done))))) <;> (try (conv => whnf))
        all_goals (refine Then.mk ?_; (repeat' ((conv => whnf); first | refine OpsA.cons ?_ | refine OpsA.nil ?_ | refine AWq.seq ?_ | refine AWq.region ?_ | refine AWq.cond ?_ | refine AWq.block ?_ | refine AWq.skip ?_ | refine AWq.ret ?_ | refine AWq.exit ?_ | refine AWq.loop ?_ | refine DrawA.consD ?_ | refine DrawA.nil ?_ | refine AWq.draw (by decide +kernel) ?_ | (refine Both.mk ?_ ?_ <;> intro hc <;> (first | exact Bool.noConfusion hc | (exfalso; omega) | skip)) | (intro c hc; (try (simp only [AH.none_iff] at hc; repeat (have hn := hc.1; replace hc := hc.2))); (first | (refine i64_k hc ?_ ?_ ?_ ; omega; omega; (clear hc; intro hc; subst hc)) | skip)) | (apply Exists.intro; apply And.intro; (focus (repeat (first | assumption | exact AH.set_same _ _ _ | ((first | refine AH.get_ne ?_ ?_); (first | assumption | omega)))); done)) | (apply Exists.intro; apply And.intro; first | (with_reducible assumption) | ((try simp only [List.getElem?_drop, Nat.mul_one, Nat.add_zero, Nat.zero_add]); first | (with_reducible assumption) | assumption | rfl)) | (apply Exists.intro; apply And.intro; (focus (intro G; ((conv => whnf); (try left); (conv => whnf); first | exact And.intro rfl rfl)))) | (apply And.intro; (first | rfl | (with_reducible assumption) | exact Nat.le_of_ble_eq_true rfl | omega | assumption | (simp <;> omega) | (focus (repeat' (first | (with_reducible assumption) | rfl | apply one_take | apply one_drop)); done))))) <;> (try (conv => whnf)); refine Then.mk ?_)
        all_goals clear hGd1 hGs1 hBa hBb ga gb hd1 hs1 hGa1
        all_goals
          have hGd2 := hGd τ
          have hGs2 := hGs τ
          have hGa2 := hGa τ
          have hd2 := hdl τ
          have hs2 := hsl τ
          have hCa := hB τ hqt x.a xa
          have hCb := hB τ hqt x.b xb
          have ha2 := dL_getZ (n := n + 1) (τ).d (show x.a < n + 1 by omega)
          have hb2 := dL_getZ (n := n + 1) (τ).d (show x.b < n + 1 by omega)
          by_cases hR2 : Rlx τ x true
          · have hr2 := (rlxT τ x).1 hR2
            obtain ⟨hq2, hlt2⟩ := hQ τ i x true hqt hx hR2
            have hall : wt (rlx τ i x true) < wt σ := by (cases ch with | false => (obtain ⟨rfl, _⟩ := hf rfl; exact hlt2) | true => exact Nat.lt_trans hlt2 (ht rfl))
            generalize hτ2 : τ = τ2 at *
            (iterate 1 ((repeat' ((conv => whnf); first | refine OpsA.cons ?_ | refine OpsA.nil ?_ | refine AWq.seq ?_ | refine AWq.region ?_ | refine AWq.cond ?_ | refine AWq.block ?_ | refine AWq.skip ?_ | refine AWq.ret ?_ | refine AWq.exit ?_ | refine AWq.loop ?_ | refine DrawA.consD ?_ | refine DrawA.nil ?_ | refine AWq.draw (by decide +kernel) ?_ | (refine Both.mk ?_ ?_ <;> intro hc <;> (first | exact Bool.noConfusion hc | (exfalso; omega) | skip)) | (intro c hc; (try (simp only [AH.none_iff] at hc; repeat (have hn := hc.1; replace hc := hc.2))); (first | (refine i64_k hc ?_ ?_ ?_ ; omega; omega; (clear hc; intro hc; subst hc)) | skip)) | (apply Exists.intro; apply And.intro; (focus (repeat (first | assumption | exact AH.set_same _ _ _ | ((first | refine AH.get_ne ?_ ?_); (first | assumption | omega)))); done)) | (apply Exists.intro; apply And.intro; first | (with_reducible assumption) | ((try simp only [List.getElem?_drop, Nat.mul_one, Nat.add_zero, Nat.zero_add]); first | (with_reducible assumption) | assumption | rfl)) | (apply Exists.intro; apply And.intro; (focus (intro G; ((conv => whnf); (try left); (conv => whnf); first | exact And.intro rfl rfl)))) | (apply And.intro; (first | rfl | (with_reducible assumption) | exact Nat.le_of_ble_eq_true rfl | omega | assumption | (simp <;> omega) | (focus (repeat' (first | (with_reducible assumption) | rfl | apply one_take | apply one_drop)); done))))) <;> (try (conv => whnf)); refine Then.mk ?_))
            (repeat' ((conv => whnf); first | refine OpsA.cons ?_ | refine OpsA.nil ?_ | refine AWq.seq ?_ | refine AWq.region ?_ | refine AWq.cond ?_ | refine AWq.block ?_ | refine AWq.skip ?_ | refine AWq.ret ?_ | refine AWq.exit ?_ | refine AWq.loop ?_ | refine DrawA.consD ?_ | refine DrawA.nil ?_ | refine AWq.draw (by decide +kernel) ?_ | (refine Both.mk ?_ ?_ <;> intro hc <;> (first | exact Bool.noConfusion hc | (exfalso; omega) | skip)) | (intro c hc; (try (simp only [AH.none_iff] at hc; repeat (have hn := hc.1; replace hc := hc.2))); (first | (refine i64_k hc ?_ ?_ ?_ ; omega; omega; (clear hc; intro hc; subst hc)) | skip)) | (apply Exists.intro; apply And.intro; (focus (repeat (first | assumption | exact AH.set_same _ _ _ | ((first | refine AH.get_ne ?_ ?_); (first | assumption | omega)))); done)) | (apply Exists.intro; apply And.intro; first | (with_reducible assumption) | ((try simp only [List.getElem?_drop, Nat.mul_one, Nat.add_zero, Nat.zero_add]); first | (with_reducible assumption) | assumption | rfl)) | (apply Exists.intro; apply And.intro; (focus (intro G; ((conv => whnf); (try left); (conv => whnf); first | exact And.intro rfl rfl)))) | (apply And.intro; (first | rfl | (with_reducible assumption) | exact Nat.le_of_ble_eq_true rfl | omega | assumption | (simp <;> omega) | (focus (repeat' (first | (with_reducible assumption) | rfl | apply one_take | apply one_drop)); done))))) <;> (try (conv => whnf))
            refine AWq.drawM ([], [105, 115]) (by decide +kernel) ?_
            (repeat' ((conv => whnf); first | refine OpsA.cons ?_ | refine OpsA.nil ?_ | refine AWq.seq ?_ | refine AWq.region ?_ | refine AWq.cond ?_ | refine AWq.block ?_ | refine AWq.skip ?_ | refine AWq.ret ?_ | refine AWq.exit ?_ | refine AWq.loop ?_ | refine DrawA.consD ?_ | refine DrawA.nil ?_ | refine AWq.draw (by decide +kernel) ?_ | (refine Both.mk ?_ ?_ <;> intro hc <;> (first | exact Bool.noConfusion hc | (exfalso; omega) | skip)) | (intro c hc; (try (simp only [AH.none_iff] at hc; repeat (have hn := hc.1; replace hc := hc.2))); (first | (refine i64_k hc ?_ ?_ ?_ ; omega; omega; (clear hc; intro hc; subst hc)) | skip)) | (apply Exists.intro; apply And.intro; (focus (repeat (first | assumption | exact AH.set_same _ _ _ | ((first | refine AH.get_ne ?_ ?_); (first | assumption | omega)))); done)) | (apply Exists.intro; apply And.intro; first | (with_reducible assumption) | ((try simp only [List.getElem?_drop, Nat.mul_one, Nat.add_zero, Nat.zero_add]); first | (with_reducible assumption) | assumption | rfl)) | (apply Exists.intro; apply And.intro; (focus (intro G; ((conv => whnf); (try left); (conv => whnf); first | exact And.intro rfl rfl)))) | (apply And.intro; (first | rfl | (with_reducible assumption) | exact Nat.le_of_ble_eq_true rfl | omega | assumption | (simp <;> omega) | (focus (repeat' (first | (with_reducible assumption) | rfl | apply one_take | apply one_drop)); done))))) <;> (try (conv => whnf))
            refine Then.mk (AWq.in ?_)
            refine AWp_less (dsH H n rd vd r (rlx τ2 i x true)) (HLe.of_eq (dsH_T ndr xa i)) ?_
            refine AWp.of tt_ok (dok _) rfl ?_
            (repeat' ((conv => whnf); first | refine Then.mk ?_ | refine OpsA.cons ?_ | refine OpsA.nil ?_ | refine AWq.seq ?_ | refine AWq.region ?_ | refine AWq.cond ?_ | refine AWq.block ?_ | refine AWq.skip ?_ | refine AWq.ret ?_ | refine AWq.exit ?_ | refine AWq.loop ?_ | refine DrawA.consD ?_ | refine DrawA.nil ?_ | refine AWq.draw (by decide +kernel) ?_ | (refine Both.mk ?_ ?_ <;> intro hc <;> (first | exact Bool.noConfusion hc | (exfalso; omega) | skip)) | (intro c hc; (try (simp only [AH.none_iff] at hc; repeat (have hn := hc.1; replace hc := hc.2))); (first | (refine i64_k hc ?_ ?_ ?_ ; omega; omega; (clear hc; intro hc; subst hc)) | skip)) | (apply Exists.intro; apply And.intro; (focus (repeat (first | assumption | exact AH.set_same _ _ _ | ((first | refine AH.get_ne ?_ ?_); (first | assumption | omega)))); done)) | (apply Exists.intro; apply And.intro; first | (with_reducible assumption) | ((try simp only [List.getElem?_drop, Nat.mul_one, Nat.add_zero, Nat.zero_add]); first | (with_reducible assumption) | assumption | rfl)) | (apply Exists.intro; apply And.intro; (focus (intro G; ((conv => whnf); (try left); (conv => whnf); first | exact And.intro rfl rfl)))) | (apply And.intro; (first | rfl | (with_reducible assumption) | exact Nat.le_of_ble_eq_true rfl | omega | assumption | (simp <;> omega) | (focus (repeat' (first | (with_reducible assumption) | rfl | apply one_take | apply one_drop)); done))))) <;> (try (conv => whnf))
            exact ⟨(rlx τ2 i x true, true, i + 1), ⟨hil, hq2, fun h => Bool.noConfusion h, fun _ => hall⟩, by dsimp only; omega, ⟨rfl, congrArg (AV.int .i64) (by dsimp only; omega), trivial⟩, HLe.refl _⟩
          · have hr2 := mt (rlxT τ x).2 hR2
            have hf' := hfin hf hR1 hR2
            generalize hτ2 : τ = τ2 at *
            (repeat' ((conv => whnf); first | refine Then.mk ?_ | refine OpsA.cons ?_ | refine OpsA.nil ?_ | refine AWq.seq ?_ | refine AWq.region ?_ | refine AWq.cond ?_ | refine AWq.block ?_ | refine AWq.skip ?_ | refine AWq.ret ?_ | refine AWq.exit ?_ | refine AWq.loop ?_ | refine DrawA.consD ?_ | refine DrawA.nil ?_ | refine AWq.draw (by decide +kernel) ?_ | (refine Both.mk ?_ ?_ <;> intro hc <;> (first | exact Bool.noConfusion hc | (exfalso; omega) | skip)) | (intro c hc; (try (simp only [AH.none_iff] at hc; repeat (have hn := hc.1; replace hc := hc.2))); (first | (refine i64_k hc ?_ ?_ ?_ ; omega; omega; (clear hc; intro hc; subst hc)) | skip)) | (apply Exists.intro; apply And.intro; (focus (repeat (first | assumption | exact AH.set_same _ _ _ | ((first | refine AH.get_ne ?_ ?_); (first | assumption | omega)))); done)) | (apply Exists.intro; apply And.intro; first | (with_reducible assumption) | ((try simp only [List.getElem?_drop, Nat.mul_one, Nat.add_zero, Nat.zero_add]); first | (with_reducible assumption) | assumption | rfl)) | (apply Exists.intro; apply And.intro; (focus (intro G; ((conv => whnf); (try left); (conv => whnf); first | exact And.intro rfl rfl)))) | (apply And.intro; (first | rfl | (with_reducible assumption) | exact Nat.le_of_ble_eq_true rfl | omega | assumption | (simp <;> omega) | (focus (repeat' (first | (with_reducible assumption) | rfl | apply one_take | apply one_drop)); done))))) <;> (try (conv => whnf))
            all_goals exact ⟨(τ2, ch, i + 1), ⟨hil, hqt, hf', ht⟩, by dsimp only; omega, ⟨rfl, congrArg (AV.int .i64) (by dsimp only; omega), trivial⟩, HLe.refl _⟩
    · have hie : i = A.length := by omega
      (repeat' ((conv => whnf); first | refine Then.mk ?_ | refine OpsA.cons ?_ | refine OpsA.nil ?_ | refine AWq.seq ?_ | refine AWq.region ?_ | refine AWq.cond ?_ | refine AWq.block ?_ | refine AWq.skip ?_ | refine AWq.ret ?_ | refine AWq.exit ?_ | refine AWq.loop ?_ | refine DrawA.consD ?_ | refine DrawA.nil ?_ | refine AWq.draw (by decide +kernel) ?_ | (refine Both.mk ?_ ?_ <;> intro hc <;> (first | exact Bool.noConfusion hc | (exfalso; omega) | skip)) | (intro c hc; (try (simp only [AH.none_iff] at hc; repeat (have hn := hc.1; replace hc := hc.2))); (first | (refine i64_k hc ?_ ?_ ?_ ; omega; omega; (clear hc; intro hc; subst hc)) | skip)) | (apply Exists.intro; apply And.intro; (focus (repeat (first | assumption | exact AH.set_same _ _ _ | ((first | refine AH.get_ne ?_ ?_); (first | assumption | omega)))); done)) | (apply Exists.intro; apply And.intro; first | (with_reducible assumption) | ((try simp only [List.getElem?_drop, Nat.mul_one, Nat.add_zero, Nat.zero_add]); first | (with_reducible assumption) | assumption | rfl)) | (apply Exists.intro; apply And.intro; (focus (intro G; ((conv => whnf); (try left); (conv => whnf); first | exact And.intro rfl rfl)))) | (apply And.intro; (first | rfl | (with_reducible assumption) | exact Nat.le_of_ble_eq_true rfl | omega | assumption | (simp <;> omega) | (focus (repeat' (first | (with_reducible assumption) | rfl | apply one_take | apply one_drop)); done))))) <;> (try (conv => whnf))
      refine ⟨(τ, ch), ⟨hqt, fun h => ?_⟩, ?_, ⟨rfl, trivial⟩, HLe.refl _⟩
      · obtain ⟨rfl, hno⟩ := hf h
        intro y hy up hR
        obtain ⟨j, hj, rfl⟩ := List.mem_iff_getElem.1 hy
        exact hno j _ up (by rw [hie]; exact hj) (List.getElem?_eq_getElem hj) hR
      · cases ch with
        | false => obtain ⟨rfl, _⟩ := hf rfl; show 2 * wt τ + 0 < 2 * wt τ + 1; omega
        | true => have := ht rfl; show 2 * wt τ + 1 < 2 * wt σ + 1; omega
end Go.Proofs.Ytebflkgpbbjhnaa
/- The walks of balance: the connected parts. -/
namespace Go.Proofs.Ytebflkgpbbjhnaa
open Go.Fw Go
set_option linter.unusedVariables false
set_option linter.unusedSimpArgs false

@[simp] theorem wrA1_len (l : List AV) (k : Nat) (v : AV) : (wrA l k [v]).length = min k l.length + 1 + (l.length - (k + 1)) := by simp [wrA]; omega
/-- Labels of the connected parts, under way. -/
structure BI (n : Nat) (A : List Ac) (o : Nat → Int) : Prop where
  last : o n = -1
  lo : ∀ v, v ≤ n → -1 ≤ o v
  up : ∀ v, v ≤ n → o v ≤ v
  cl : ∀ S : Nat → Prop, ¬ S n → (∀ x ∈ A, S x.a ↔ S x.b) → ∀ v, v ≤ n → S v → ∃ u : Nat, o v = u ∧ S u
def bsP (o : Nat → Int) (x : Ac) : Nat → Int := putD (putD o x.a (min (o x.a) (o x.b))) x.b (min (o x.a) (o x.b))
def bsW (n : Nat) (o : Nat → Int) : Nat := sumN (fun v => (o v + 1).toNat) n
theorem bsP_at (o : Nat → Int) (x : Ac) (v : Nat) : bsP o x v = if v = x.b ∨ v = x.a then min (o x.a) (o x.b) else o v := by
  unfold bsP putD
  by_cases h1 : v = x.b
  · simp [h1]
  · by_cases h2 : v = x.a
    · simp [h2]
    · simp [h1, h2]
theorem BI.step {n : Nat} {A : List Ac} {o : Nat → Int} (h : BI n A o) {x : Ac} (hx : x ∈ A) (hok : AcOk n x) : BI n A (bsP o x) := by
  obtain ⟨xa, xb, _, _, _, _, _, _⟩ := hok
  have la := h.lo _ xa
  have lb := h.lo _ xb
  have ua := h.up _ xa
  have ub := h.up _ xb
  have hl := h.last
  refine ⟨?_, fun v hv => ?_, fun v hv => ?_, fun S hn hc v hv hS => ?_⟩
  · rw [bsP_at]
    split
    · rename_i e
      rcases e with e | e
      · rw [e] at hl; omega
      · rw [e] at hl; omega
    · exact hl
  · rw [bsP_at]; split
    · omega
    · exact h.lo v hv
  · rw [bsP_at]; split
    · rename_i e
      rcases e with e | e <;> rw [e] <;> omega
    · exact h.up v hv
  · rw [bsP_at]; split
    · rename_i e
      have hab : S x.a ∧ S x.b := by
        rcases e with e | e
        · rw [e] at hS; exact ⟨(hc x hx).2 hS, hS⟩
        · rw [e] at hS; exact ⟨hS, (hc x hx).1 hS⟩
      obtain ⟨u, hu, hSu⟩ := h.cl S hn hc _ xa hab.1
      obtain ⟨w, hw, hSw⟩ := h.cl S hn hc _ xb hab.2
      by_cases hle : o x.a ≤ o x.b
      · exact ⟨u, by omega, hSu⟩
      · exact ⟨w, by omega, hSw⟩
    · exact h.cl S hn hc v hv hS
theorem bsW_lt {n : Nat} {A : List Ac} {o : Nat → Int} (h : BI n A o) {x : Ac} (hok : AcOk n x) (hne : o x.a ≠ min (o x.a) (o x.b) ∨ o x.b ≠ min (o x.a) (o x.b)) : bsW n (bsP o x) < bsW n o := by
  obtain ⟨xa, xb, _, _, _, _, _, _⟩ := hok
  have la := h.lo _ xa
  have lb := h.lo _ xb
  have hmo : ∀ u, u ≤ n → (bsP o x u + 1).toNat ≤ (o u + 1).toNat := fun u hu => by
    rw [bsP_at]; split
    · rename_i e
      rcases e with e | e <;> rw [e] <;> omega
    · exact Nat.le_refl _
  rcases hne with e | e
  · refine sumN_lt xa hmo ?_
    show (bsP o x x.a + 1).toNat < (o x.a + 1).toNat
    rw [bsP_at, if_pos (.inr rfl)]; omega
  · refine sumN_lt xb hmo ?_
    show (bsP o x x.b + 1).toNat < (o x.b + 1).toNat
    rw [bsP_at, if_pos (.inl rfl)]; omega
def bs0 (n : Nat) : Nat → Int := fun v => if v = n then -1 else v
theorem bs0_ok (n : Nat) (A : List Ac) : BI n A (bs0 n) := by
  unfold bs0
  refine ⟨if_pos rfl, fun v hv => ?_, fun v hv => ?_, fun S hn hc v hv hS => ⟨v, ?_, hS⟩⟩
  · split <;> omega
  · split <;> omega
  · rw [if_neg (fun e => hn (by rw [← e]; exact hS))]
/-- The nodes whose offsets are 0. -/
def bsN (n : Nat) (o : Nat → Int) (v : Nat) : Int := if o v < 0 then n else o v
set_option maxHeartbeats 4000000 in
set_option maxRecDepth 8000 in
theorem bases_c (n : Nat) (hnn : n ≤ 100) (A : List Ac) (hA : ∀ x ∈ A, AcOk n x) (hl : A.length ≤ 100000) (H : AH) (g vg ra va : Nat) (lim : Option Nat) (hN : NetAt H n A g vg ra va lim) :
    ACall Try.prog 42 [.ptr g vg 0] H (fun y H' => ∃ o rs, BI n A o ∧ (∀ x ∈ A, o x.a = o x.b) ∧ H rs = none ∧ y = .sl rs 0 1 0 (n + 1) none ∧ H' = H.set rs (.row (dL (n + 1) (bsN n o)) 0)) := by
  obtain ⟨hg, ha, hne⟩ := hN
  refine ACall_of tt_ok (dok _) Try.func42 rfl (by decide) rfl ?_
  (repeat' ((conv => whnf); first | refine Then.mk ?_ | refine OpsA.cons ?_ | refine OpsA.nil ?_ | refine AWq.seq ?_ | refine AWq.region ?_ | refine AWq.cond ?_ | refine AWq.block ?_ | refine AWq.skip ?_ | refine AWq.ret ?_ | refine AWq.exit ?_ | refine AWq.loop ?_ | refine DrawA.consD ?_ | refine DrawA.nil ?_ | refine AWq.draw (by decide +kernel) ?_ | (refine Both.mk ?_ ?_ <;> intro hc <;> (first | exact Bool.noConfusion hc | exact absurd (by assumption) hc | exact absurd hc (by assumption) | (exfalso; omega) | skip)) | (intro c hc; (try (simp only [AH.none_iff] at hc; repeat (have hn := hc.1; replace hc := hc.2))); (first | (refine i64_k hc ?_ ?_ ?_ ; omega; omega; (clear hc; intro hc; subst hc)) | skip)) | (apply Exists.intro; apply And.intro; (focus (repeat (first | assumption | exact AH.set_same _ _ _ | ((first | refine AH.get_ne ?_ ?_); (first | assumption | omega)))); done)) | (apply Exists.intro; apply And.intro; first | (with_reducible assumption) | ((try simp only [List.getElem?_drop, Nat.mul_one, Nat.add_zero, Nat.zero_add]); first | (with_reducible assumption) | assumption | rfl)) | (apply Exists.intro; apply And.intro; (focus ((conv => whnf); first | (intro c hc; subst hc; exact And.intro rfl rfl)))) | (apply And.intro; (first | rfl | (with_reducible assumption) | exact Nat.le_of_ble_eq_true rfl | omega | assumption | (simp <;> fail) | (simp <;> omega) | (focus (repeat' (first | (with_reducible assumption) | rfl | apply one_take | apply one_drop)); done))))) <;> (try (conv => whnf))
  (obtain ⟨r, hq_⟩ : ∃ r, r = c := ⟨_, rfl⟩); subst hq_
  have hr : H r = none := hc
  have ngr : g ≠ r := AH.none_ne' hr hg
  have nar : ra ≠ r := AH.none_ne' hr ha
  have hG : ∀ o, H.set r o g = some (.row [.int .i64 n, .sl ra va 5 0 A.length lim] vg) := fun o => by rw [AH.set_ne _ _ ngr]; exact hg
  have hGa : ∀ o, H.set r o ra = some (.row (acL A) va) := fun o => by rw [AH.set_ne _ _ nar]; exact ha
  have hcl := acL_len A
  have ho := acL_one A
  refine AWp_loop (σ := Nat) (4 :: 18 :: 19 :: 20 :: 21 :: 22 :: 23 :: 24 :: 25 :: []) (fun i => [(18, .int .i64 i)]) (fun i => H.set r (.row (dL (n + 1) fun v => if v < i then v else 0) 0)) (fun i => i ≤ n + 1) (fun i => n + 1 - i) 0 rfl (Nat.zero_le _) ⟨rfl, trivial⟩ ?_ ?_
  · refine HLe.of_eq (congrArg (fun l => H.set r (.row l 0)) ?_)
    rw [show ((n : Int) + 1).toNat = n + 1 by omega, dL_zero]
    exact dL_congr fun v hv => by simp
  rintro i hi
  refine AWp.of tt_ok (dok _) rfl ?_
  dsimp only at hi ⊢
  have hdl := dL_len (n + 1) fun v => if v < i then (v : Int) else 0
  by_cases hil : i < n + 1
  · have hw := dL_wrZ (n := n + 1) (fun v => if v < i then (v : Int) else 0) hil i
    (repeat' ((conv => whnf); first | refine Then.mk ?_ | refine OpsA.cons ?_ | refine OpsA.nil ?_ | refine AWq.seq ?_ | refine AWq.region ?_ | refine AWq.cond ?_ | refine AWq.block ?_ | refine AWq.skip ?_ | refine AWq.ret ?_ | refine AWq.exit ?_ | refine AWq.loop ?_ | refine DrawA.consD ?_ | refine DrawA.nil ?_ | refine AWq.draw (by decide +kernel) ?_ | (refine Both.mk ?_ ?_ <;> intro hc <;> (first | exact Bool.noConfusion hc | exact absurd (by assumption) hc | exact absurd hc (by assumption) | (exfalso; omega) | skip)) | (intro c hc; (try (simp only [AH.none_iff] at hc; repeat (have hn := hc.1; replace hc := hc.2))); (first | (refine i64_k hc ?_ ?_ ?_ ; omega; omega; (clear hc; intro hc; subst hc)) | skip)) | (apply Exists.intro; apply And.intro; (focus (repeat (first | assumption | exact AH.set_same _ _ _ | ((first | refine AH.get_ne ?_ ?_); (first | assumption | omega)))); done)) | (apply Exists.intro; apply And.intro; first | (with_reducible assumption) | ((try simp only [List.getElem?_drop, Nat.mul_one, Nat.add_zero, Nat.zero_add]); first | (with_reducible assumption) | assumption | rfl)) | (apply Exists.intro; apply And.intro; (focus ((conv => whnf); first | (intro c hc; subst hc; exact And.intro rfl rfl)))) | (apply And.intro; (first | rfl | (with_reducible assumption) | exact Nat.le_of_ble_eq_true rfl | omega | assumption | (simp <;> fail) | (simp <;> omega) | (focus (repeat' (first | (with_reducible assumption) | rfl | apply one_take | apply one_drop)); done))))) <;> (try (conv => whnf))
    refine ⟨i + 1, hil, by omega, ⟨congrArg (AV.int .i64) (by omega), trivial⟩, HLe.of_eq ?_⟩
    have e : dL (n + 1) (fun v => if v < i + 1 then (v : Int) else 0) = wrA (dL (n + 1) fun v => if v < i then (v : Int) else 0) (0 + (i : Int).toNat * 1) [.int .i64 i] := by
      rw [hw]
      refine dL_congr fun v hv => ?_
      unfold putD
      by_cases h1 : v = i
      · rw [if_pos (by omega), if_pos h1, h1]
      · rw [if_neg h1]
        show (if v < i + 1 then (v : Int) else 0) = if v < i then (v : Int) else 0
        by_cases h2 : v < i
        · rw [if_pos h2, if_pos (by omega)]
        · rw [if_neg h2, if_neg (by omega)]
    rw [e]
    exact (AH.set_set _ _ _ _).symm
  · have hie : i = n + 1 := by omega
    have hdl2 : ((dL (n + 1) fun v => if v < i then (v : Int) else 0)).length = n + 1 := dL_len _ _
    (iterate 2 ((repeat' ((conv => whnf); first | refine OpsA.cons ?_ | refine OpsA.nil ?_ | refine AWq.seq ?_ | refine AWq.region ?_ | refine AWq.cond ?_ | refine AWq.block ?_ | refine AWq.skip ?_ | refine AWq.ret ?_ | refine AWq.exit ?_ | refine AWq.loop ?_ | refine DrawA.consD ?_ | refine DrawA.nil ?_ | refine AWq.draw (by decide +kernel) ?_ | (refine Both.mk ?_ ?_ <;> intro hc <;> (first | exact Bool.noConfusion hc | exact absurd (by assumption) hc | exact absurd hc (by assumption) | (exfalso; omega) | skip)) | (intro c hc; (try (simp only [AH.none_iff] at hc; repeat (have hn := hc.1; replace hc := hc.2))); (first | (refine i64_k hc ?_ ?_ ?_ ; omega; omega; (clear hc; intro hc; subst hc)) | skip)) | (apply Exists.intro; apply And.intro; (focus (repeat (first | assumption | exact AH.set_same _ _ _ | ((first | refine AH.get_ne ?_ ?_); (first | assumption | omega)))); done)) | (apply Exists.intro; apply And.intro; first | (with_reducible assumption) | ((try simp only [List.getElem?_drop, Nat.mul_one, Nat.add_zero, Nat.zero_add]); first | (with_reducible assumption) | assumption | rfl)) | (apply Exists.intro; apply And.intro; (focus ((conv => whnf); first | (intro c hc; subst hc; exact And.intro rfl rfl)))) | (apply And.intro; (first | rfl | (with_reducible assumption) | exact Nat.le_of_ble_eq_true rfl | omega | assumption | (simp <;> fail) | (simp <;> omega) | (focus (repeat' (first | (with_reducible assumption) | rfl | apply one_take | apply one_drop)); done))))) <;> (try (conv => whnf)); refine Then.mk ?_))
    (repeat' ((conv => whnf); first | refine OpsA.cons ?_ | refine OpsA.nil ?_ | refine AWq.seq ?_ | refine AWq.region ?_ | refine AWq.cond ?_ | refine AWq.block ?_ | refine AWq.skip ?_ | refine AWq.ret ?_ | refine AWq.exit ?_ | refine AWq.loop ?_ | refine DrawA.consD ?_ | refine DrawA.nil ?_ | refine AWq.draw (by decide +kernel) ?_ | (refine Both.mk ?_ ?_ <;> intro hc <;> (first | exact Bool.noConfusion hc | exact absurd (by assumption) hc | exact absurd hc (by assumption) | (exfalso; omega) | skip)) | (intro c hc; (try (simp only [AH.none_iff] at hc; repeat (have hn := hc.1; replace hc := hc.2))); (first | (refine i64_k hc ?_ ?_ ?_ ; omega; omega; (clear hc; intro hc; subst hc)) | skip)) | (apply Exists.intro; apply And.intro; (focus (repeat (first | assumption | exact AH.set_same _ _ _ | ((first | refine AH.get_ne ?_ ?_); (first | assumption | omega)))); done)) | (apply Exists.intro; apply And.intro; first | (with_reducible assumption) | ((try simp only [List.getElem?_drop, Nat.mul_one, Nat.add_zero, Nat.zero_add]); first | (with_reducible assumption) | assumption | rfl)) | (apply Exists.intro; apply And.intro; (focus ((conv => whnf); first | (intro c hc; subst hc; exact And.intro rfl rfl)))) | (apply And.intro; (first | rfl | (with_reducible assumption) | exact Nat.le_of_ble_eq_true rfl | omega | assumption | (simp <;> fail) | (simp <;> omega) | (focus (repeat' (first | (with_reducible assumption) | rfl | apply one_take | apply one_drop)); done))))) <;> (try (conv => whnf))
    refine Then.mk (AWq.in ?_)
    have hbz : wrA (dL (n + 1) fun v => if v < i then (v : Int) else 0) (0 + (n : Int).toNat * 1) [.int .i64 (-1)] = dL (n + 1) (bs0 n) := by
      refine (dL_wrZ (n := n + 1) (fun v => if v < i then (v : Int) else 0) (show n < n + 1 by omega) (-1)).trans (dL_congr fun v hv => ?_)
      unfold bs0 putD
      by_cases h1 : v = n
      · rw [if_pos h1, if_pos h1]
      · rw [if_neg h1, if_neg h1]; exact if_pos (by omega)
    refine AWp_less (H.set r (.row (dL (n + 1) (bs0 n)) 0)) (HLe.of_eq (by rw [← hbz]; exact (AH.set_set _ _ _ _).symm)) ?_
    refine AWp.of tt_ok (dok _) rfl ?_
    clear hbz hdl hdl2
    (repeat' ((conv => whnf); first | refine Then.mk ?_ | refine OpsA.cons ?_ | refine OpsA.nil ?_ | refine AWq.seq ?_ | refine AWq.region ?_ | refine AWq.cond ?_ | refine AWq.block ?_ | refine AWq.skip ?_ | refine AWq.ret ?_ | refine AWq.exit ?_ | refine AWq.loop ?_ | refine DrawA.consD ?_ | refine DrawA.nil ?_ | refine AWq.draw (by decide +kernel) ?_ | (refine Both.mk ?_ ?_ <;> intro hc <;> (first | exact Bool.noConfusion hc | exact absurd (by assumption) hc | exact absurd hc (by assumption) | (exfalso; omega) | skip)) | (intro c hc; (try (simp only [AH.none_iff] at hc; repeat (have hn := hc.1; replace hc := hc.2))); (first | (refine i64_k hc ?_ ?_ ?_ ; omega; omega; (clear hc; intro hc; subst hc)) | skip)) | (apply Exists.intro; apply And.intro; (focus (repeat (first | assumption | exact AH.set_same _ _ _ | ((first | refine AH.get_ne ?_ ?_); (first | assumption | omega)))); done)) | (apply Exists.intro; apply And.intro; first | (with_reducible assumption) | ((try simp only [List.getElem?_drop, Nat.mul_one, Nat.add_zero, Nat.zero_add]); first | (with_reducible assumption) | assumption | rfl)) | (apply Exists.intro; apply And.intro; (focus ((conv => whnf); first | (intro c hc; subst hc; exact And.intro rfl rfl)))) | (apply And.intro; (first | rfl | (with_reducible assumption) | exact Nat.le_of_ble_eq_true rfl | omega | assumption | (simp <;> fail) | (simp <;> omega) | (focus (repeat' (first | (with_reducible assumption) | rfl | apply one_take | apply one_drop)); done))))) <;> (try (conv => whnf))
    refine AWp_loop (σ := (Nat → Int) × Bool) (5 :: 7 :: 8 :: 32 :: 33 :: 34 :: 35 :: 36 :: 37 :: 38 :: 39 :: 40 :: 41 :: 42 :: 43 :: 44 :: 45 :: 46 :: 47 :: 48 :: 49 :: 50 :: 51 :: 52 :: 53 :: 54 :: 55 :: 56 :: 57 :: 58 :: 59 :: 60 :: 61 :: 62 :: 63 :: 64 :: 65 :: 66 :: 67 :: 68 :: 69 :: 70 :: 71 :: 72 :: 73 :: 74 :: 75 :: 76 :: 77 :: 78 :: 79 :: []) (fun s => [(5, .bool s.2)]) (fun s => H.set r (.row (dL (n + 1) s.1) 0)) (fun s => BI n A s.1 ∧ (s.2 = false → ∀ x ∈ A, s.1 x.a = s.1 x.b)) (fun s => 2 * bsW n s.1 + cond s.2 1 0) (bs0 n, true) rfl ⟨bs0_ok n A, fun h => by cases h⟩ ⟨rfl, trivial⟩ (HLe.refl _) ?_
    clear hi hil hie
    rintro ⟨o, ch⟩ ⟨hq, hst⟩
    dsimp only at hq hst ⊢
    refine AWp.of tt_ok (dok _) rfl ?_
    cases ch with
    | false =>
      (repeat' ((conv => whnf); first | refine Then.mk ?_ | refine OpsA.cons ?_ | refine OpsA.nil ?_ | refine AWq.seq ?_ | refine AWq.region ?_ | refine AWq.cond ?_ | refine AWq.block ?_ | refine AWq.skip ?_ | refine AWq.ret ?_ | refine AWq.exit ?_ | refine AWq.loop ?_ | refine DrawA.consD ?_ | refine DrawA.nil ?_ | refine AWq.draw (by decide +kernel) ?_ | (refine Both.mk ?_ ?_ <;> intro hc <;> (first | exact Bool.noConfusion hc | exact absurd (by assumption) hc | exact absurd hc (by assumption) | (exfalso; omega) | skip)) | (intro c hc; (try (simp only [AH.none_iff] at hc; repeat (have hn := hc.1; replace hc := hc.2))); (first | (refine i64_k hc ?_ ?_ ?_ ; omega; omega; (clear hc; intro hc; subst hc)) | skip)) | (apply Exists.intro; apply And.intro; (focus (repeat (first | assumption | exact AH.set_same _ _ _ | ((first | refine AH.get_ne ?_ ?_); (first | assumption | omega)))); done)) | (apply Exists.intro; apply And.intro; first | (with_reducible assumption) | ((try simp only [List.getElem?_drop, Nat.mul_one, Nat.add_zero, Nat.zero_add]); first | (with_reducible assumption) | assumption | rfl)) | (apply Exists.intro; apply And.intro; (focus ((conv => whnf); first | (intro c hc; subst hc; exact And.intro rfl rfl)))) | (apply And.intro; (first | rfl | (with_reducible assumption) | exact Nat.le_of_ble_eq_true rfl | omega | assumption | (simp <;> fail) | (simp <;> omega) | (focus (repeat' (first | (with_reducible assumption) | rfl | apply one_take | apply one_drop)); done))))) <;> (try (conv => whnf))
      refine AWp_loop (σ := Nat) (9 :: 82 :: 83 :: 84 :: 85 :: 86 :: 87 :: 88 :: 89 :: 90 :: 91 :: 92 :: 93 :: 94 :: 95 :: 96 :: 97 :: []) (fun i => [(82, .int .i64 i)]) (fun i => H.set r (.row (dL (n + 1) fun v => if v < i then bsN n o v else o v) 0)) (fun i => i ≤ n + 1) (fun i => n + 1 - i) 0 rfl (Nat.zero_le _) ⟨rfl, trivial⟩ (HLe.of_eq (congrArg (fun l => H.set r (.row l 0)) (dL_congr fun v hv => if_neg (Nat.not_lt_zero v)))) ?_
      intro i hi
      refine AWp.of tt_ok (dok _) rfl ?_
      have hdl := dL_len (n + 1) fun v => if v < i then bsN n o v else o v
      by_cases hil : i < n + 1
      · have hgi := dL_getZ (n := n + 1) (fun v => if v < i then bsN n o v else o v) hil
        have hoi : (if i < i then bsN n o i else o i) = o i := if_neg (Nat.lt_irrefl i)
        rw [hoi] at hgi
        have hstep : dL (n + 1) (fun v => if v < i + 1 then bsN n o v else o v) = wrA (dL (n + 1) fun v => if v < i then bsN n o v else o v) (0 + (i : Int).toNat * 1) [.int .i64 (bsN n o i)] := by
          refine ((dL_wrZ (n := n + 1) (fun v => if v < i then bsN n o v else o v) hil _).trans (dL_congr fun v hv => ?_)).symm
          unfold putD
          by_cases h1 : v = i
          · rw [if_pos h1, if_pos (by omega), h1]
          · rw [if_neg h1]
            by_cases h2 : v < i
            · rw [if_pos (show v < i + 1 by omega)]; exact if_pos h2
            · rw [if_neg (show ¬ v < i + 1 by omega)]; exact if_neg h2
        by_cases hneg : o i < 0
        · have hbe : bsN n o i = n := if_pos hneg
          (repeat' ((conv => whnf); first | refine Then.mk ?_ | refine OpsA.cons ?_ | refine OpsA.nil ?_ | refine AWq.seq ?_ | refine AWq.region ?_ | refine AWq.cond ?_ | refine AWq.block ?_ | refine AWq.skip ?_ | refine AWq.ret ?_ | refine AWq.exit ?_ | refine AWq.loop ?_ | refine DrawA.consD ?_ | refine DrawA.nil ?_ | refine AWq.draw (by decide +kernel) ?_ | (refine Both.mk ?_ ?_ <;> intro hc <;> (first | exact Bool.noConfusion hc | exact absurd (by assumption) hc | exact absurd hc (by assumption) | (exfalso; omega) | skip)) | (intro c hc; (try (simp only [AH.none_iff] at hc; repeat (have hn := hc.1; replace hc := hc.2))); (first | (refine i64_k hc ?_ ?_ ?_ ; omega; omega; (clear hc; intro hc; subst hc)) | skip)) | (apply Exists.intro; apply And.intro; (focus (repeat (first | assumption | exact AH.set_same _ _ _ | ((first | refine AH.get_ne ?_ ?_); (first | assumption | omega)))); done)) | (apply Exists.intro; apply And.intro; first | (with_reducible assumption) | ((try simp only [List.getElem?_drop, Nat.mul_one, Nat.add_zero, Nat.zero_add]); first | (with_reducible assumption) | assumption | rfl)) | (apply Exists.intro; apply And.intro; (focus ((conv => whnf); first | (intro c hc; subst hc; exact And.intro rfl rfl)))) | (apply And.intro; (first | rfl | (with_reducible assumption) | exact Nat.le_of_ble_eq_true rfl | omega | assumption | (simp <;> fail) | (simp <;> omega) | (focus (repeat' (first | (with_reducible assumption) | rfl | apply one_take | apply one_drop)); done))))) <;> (try (conv => whnf))
          refine ⟨i + 1, hil, by omega, ⟨congrArg (AV.int .i64) (by omega), trivial⟩, HLe.of_eq ?_⟩
          rw [hstep, hbe]
          exact (AH.set_set _ _ _ _).symm
        · have hbe : bsN n o i = o i := if_neg hneg
          have hstep2 : dL (n + 1) (fun v => if v < i + 1 then bsN n o v else o v) = dL (n + 1) fun v => if v < i then bsN n o v else o v := by
            refine dL_congr fun v hv => ?_
            by_cases h1 : v = i
            · rw [h1, if_pos (by omega), if_neg (Nat.lt_irrefl i), hbe]
            · by_cases h2 : v < i
              · rw [if_pos (show v < i + 1 by omega), if_pos h2]
              · rw [if_neg (show ¬ v < i + 1 by omega), if_neg h2]
          (repeat' ((conv => whnf); first | refine Then.mk ?_ | refine OpsA.cons ?_ | refine OpsA.nil ?_ | refine AWq.seq ?_ | refine AWq.region ?_ | refine AWq.cond ?_ | refine AWq.block ?_ | refine AWq.skip ?_ | refine AWq.ret ?_ | refine AWq.exit ?_ | refine AWq.loop ?_ | refine DrawA.consD ?_ | refine DrawA.nil ?_ | refine AWq.draw (by decide +kernel) ?_ | (refine Both.mk ?_ ?_ <;> intro hc <;> (first | exact Bool.noConfusion hc | exact absurd (by assumption) hc | exact absurd hc (by assumption) | (exfalso; omega) | skip)) | (intro c hc; (try (simp only [AH.none_iff] at hc; repeat (have hn := hc.1; replace hc := hc.2))); (first | (refine i64_k hc ?_ ?_ ?_ ; omega; omega; (clear hc; intro hc; subst hc)) | skip)) | (apply Exists.intro; apply And.intro; (focus (repeat (first | assumption | exact AH.set_same _ _ _ | ((first | refine AH.get_ne ?_ ?_); (first | assumption | omega)))); done)) | (apply Exists.intro; apply And.intro; first | (with_reducible assumption) | ((try simp only [List.getElem?_drop, Nat.mul_one, Nat.add_zero, Nat.zero_add]); first | (with_reducible assumption) | assumption | rfl)) | (apply Exists.intro; apply And.intro; (focus ((conv => whnf); first | (intro c hc; subst hc; exact And.intro rfl rfl)))) | (apply And.intro; (first | rfl | (with_reducible assumption) | exact Nat.le_of_ble_eq_true rfl | omega | assumption | (simp <;> fail) | (simp <;> omega) | (focus (repeat' (first | (with_reducible assumption) | rfl | apply one_take | apply one_drop)); done))))) <;> (try (conv => whnf))
          refine ⟨i + 1, hil, by omega, ⟨congrArg (AV.int .i64) (by omega), trivial⟩, HLe.of_eq ?_⟩
          rw [hstep2]
      · (repeat' ((conv => whnf); first | refine Then.mk ?_ | refine OpsA.cons ?_ | refine OpsA.nil ?_ | refine AWq.seq ?_ | refine AWq.region ?_ | refine AWq.cond ?_ | refine AWq.block ?_ | refine AWq.skip ?_ | refine AWq.ret ?_ | refine AWq.exit ?_ | refine AWq.loop ?_ | refine DrawA.consD ?_ | refine DrawA.nil ?_ | refine AWq.draw (by decide +kernel) ?_ | (refine Both.mk ?_ ?_ <;> intro hc <;> (first | exact Bool.noConfusion hc | exact absurd (by assumption) hc | exact absurd hc (by assumption) | (exfalso; omega) | skip)) | (intro c hc; (try (simp only [AH.none_iff] at hc; repeat (have hn := hc.1; replace hc := hc.2))); (first | (refine i64_k hc ?_ ?_ ?_ ; omega; omega; (clear hc; intro hc; subst hc)) | skip)) | (apply Exists.intro; apply And.intro; (focus (repeat (first | assumption | exact AH.set_same _ _ _ | ((first | refine AH.get_ne ?_ ?_); (first | assumption | omega)))); done)) | (apply Exists.intro; apply And.intro; first | (with_reducible assumption) | ((try simp only [List.getElem?_drop, Nat.mul_one, Nat.add_zero, Nat.zero_add]); first | (with_reducible assumption) | assumption | rfl)) | (apply Exists.intro; apply And.intro; (focus ((conv => whnf); first | (intro c hc; subst hc; exact And.intro rfl rfl)))) | (apply And.intro; (first | rfl | (with_reducible assumption) | exact Nat.le_of_ble_eq_true rfl | omega | assumption | (simp <;> fail) | (simp <;> omega) | (focus (repeat' (first | (with_reducible assumption) | rfl | apply one_take | apply one_drop)); done))))) <;> (try (conv => whnf))
        refine ⟨o, r, hq, hst rfl, hr, rfl, congrArg (fun l => H.set r (.row l 0)) (dL_congr fun v hv => if_pos (by omega))⟩
    | true =>
      (repeat' ((conv => whnf); first | refine Then.mk ?_ | refine OpsA.cons ?_ | refine OpsA.nil ?_ | refine AWq.seq ?_ | refine AWq.region ?_ | refine AWq.cond ?_ | refine AWq.block ?_ | refine AWq.skip ?_ | refine AWq.ret ?_ | refine AWq.exit ?_ | refine AWq.loop ?_ | refine DrawA.consD ?_ | refine DrawA.nil ?_ | refine AWq.draw (by decide +kernel) ?_ | (refine Both.mk ?_ ?_ <;> intro hc <;> (first | exact Bool.noConfusion hc | exact absurd (by assumption) hc | exact absurd hc (by assumption) | (exfalso; omega) | skip)) | (intro c hc; (try (simp only [AH.none_iff] at hc; repeat (have hn := hc.1; replace hc := hc.2))); (first | (refine i64_k hc ?_ ?_ ?_ ; omega; omega; (clear hc; intro hc; subst hc)) | skip)) | (apply Exists.intro; apply And.intro; (focus (repeat (first | assumption | exact AH.set_same _ _ _ | ((first | refine AH.get_ne ?_ ?_); (first | assumption | omega)))); done)) | (apply Exists.intro; apply And.intro; first | (with_reducible assumption) | ((try simp only [List.getElem?_drop, Nat.mul_one, Nat.add_zero, Nat.zero_add]); first | (with_reducible assumption) | assumption | rfl)) | (apply Exists.intro; apply And.intro; (focus ((conv => whnf); first | (intro c hc; subst hc; exact And.intro rfl rfl)))) | (apply And.intro; (first | rfl | (with_reducible assumption) | exact Nat.le_of_ble_eq_true rfl | omega | assumption | (simp <;> fail) | (simp <;> omega) | (focus (repeat' (first | (with_reducible assumption) | rfl | apply one_take | apply one_drop)); done))))) <;> (try (conv => whnf))
      refine AWp_loop (σ := (Nat → Int) × Bool × Nat) (5 :: 7 :: 8 :: 38 :: 39 :: 40 :: 41 :: 42 :: 43 :: 44 :: 45 :: 46 :: 47 :: 48 :: 49 :: 50 :: 51 :: 52 :: 53 :: 54 :: 55 :: 56 :: 57 :: 58 :: 59 :: 60 :: 61 :: 62 :: 63 :: 64 :: 65 :: 66 :: 67 :: 68 :: 69 :: 70 :: 71 :: 72 :: 73 :: 74 :: 75 :: 76 :: 77 :: 78 :: 79 :: []) (fun s => [(5, .bool s.2.1), (38, .int .i64 s.2.2)]) (fun s => H.set r (.row (dL (n + 1) s.1) 0))
        (fun s => s.2.2 ≤ A.length ∧ BI n A s.1 ∧ (s.2.1 = false → s.1 = o ∧ ∀ x ∈ A.take s.2.2, o x.a = o x.b) ∧ (s.2.1 = true → bsW n s.1 < bsW n o)) (fun s => A.length - s.2.2) (o, false, 0) rfl ⟨Nat.zero_le _, hq, fun _ => ⟨rfl, fun x hx => by simp at hx⟩, fun h => by cases h⟩ ⟨rfl, rfl, trivial⟩ (HLe.refl _) ?_
      rintro ⟨q, ch, i⟩ ⟨hi, hqt, hf, ht⟩
      dsimp only at hi hqt hf ht ⊢
      refine AWp.of tt_ok (dok _) rfl ?_
      by_cases hil : i < A.length
      · obtain ⟨x, hx⟩ : ∃ x, A[i]? = some x := ⟨_, List.getElem?_eq_getElem hil⟩
        have hxm := List.mem_of_getElem? hx
        have hok := hA x hxm
        have hok2 := hok
        obtain ⟨xa, xb, d1, d2, w1, w2, f1, f2⟩ := hok
        have hGa1 := hGa (.row (dL (n + 1) q) 0)
        have ga := dL_getZ (n := n + 1) q (show x.a < n + 1 by omega)
        have gb := dL_getZ (n := n + 1) q (show x.b < n + 1 by omega)
        have hdl := dL_len (n + 1) q
        obtain ⟨m, hm⟩ : ∃ m, m = min (q x.a) (q x.b) := ⟨_, rfl⟩
        (iterate 3 ((repeat' ((conv => whnf); first | refine OpsA.cons ?_ | refine OpsA.nil ?_ | refine AWq.seq ?_ | refine AWq.region ?_ | refine AWq.cond ?_ | refine AWq.block ?_ | refine AWq.skip ?_ | refine AWq.ret ?_ | refine AWq.exit ?_ | refine AWq.loop ?_ | refine DrawA.consD ?_ | refine DrawA.nil ?_ | refine AWq.draw (by decide +kernel) ?_ | (refine Both.mk ?_ ?_ <;> intro hc <;> (first | exact Bool.noConfusion hc | exact absurd (by assumption) hc | exact absurd hc (by assumption) | (exfalso; omega) | skip)) | (intro c hc; (try (simp only [AH.none_iff] at hc; repeat (have hn := hc.1; replace hc := hc.2))); (first | (refine i64_k hc ?_ ?_ ?_ ; omega; omega; (clear hc; intro hc; subst hc)) | skip)) | (apply Exists.intro; apply And.intro; (focus (repeat (first | assumption | exact AH.set_same _ _ _ | ((first | refine AH.get_ne ?_ ?_); (first | assumption | omega)))); done)) | (apply Exists.intro; apply And.intro; first | (with_reducible assumption) | ((try simp only [List.getElem?_drop, Nat.mul_one, Nat.add_zero, Nat.zero_add]); first | (with_reducible assumption) | assumption | rfl)) | (apply Exists.intro; apply And.intro; (focus ((conv => whnf); first | (intro c hc; subst hc; exact And.intro rfl rfl)))) | (apply And.intro; (first | rfl | (with_reducible assumption) | exact Nat.le_of_ble_eq_true rfl | omega | assumption | (simp <;> fail) | (simp <;> omega) | (focus (repeat' (first | (with_reducible assumption) | rfl | apply one_take | apply one_drop)); done))))) <;> (try (conv => whnf)); refine Then.mk ?_))
        refine AWq.in ?_
        refine AWp_segP 7 (acA x) rfl rfl (by (first | assumption | (simp only [AH.none_iff]; (repeat' (first | assumption | (refine And.intro ?_ ?_)))))) (acL_segZ hx) rfl ?_
        refine AWp.of tt_ok (dok _) rfl ?_
        (repeat' ((conv => whnf); first | refine OpsA.cons ?_ | refine OpsA.nil ?_ | refine AWq.seq ?_ | refine AWq.region ?_ | refine AWq.cond ?_ | refine AWq.block ?_ | refine AWq.skip ?_ | refine AWq.ret ?_ | refine AWq.exit ?_ | refine AWq.loop ?_ | refine DrawA.consD ?_ | refine DrawA.nil ?_ | refine AWq.draw (by decide +kernel) ?_ | (refine Both.mk ?_ ?_ <;> intro hc <;> (first | exact Bool.noConfusion hc | exact absurd (by assumption) hc | exact absurd hc (by assumption) | (exfalso; omega) | skip)) | (intro c hc; (try (simp only [AH.none_iff] at hc; repeat (have hn := hc.1; replace hc := hc.2))); (first | (refine i64_k hc ?_ ?_ ?_ ; omega; omega; (clear hc; intro hc; subst hc)) | skip)) | (apply Exists.intro; apply And.intro; (focus (repeat (first | assumption | exact AH.set_same _ _ _ | ((first | refine AH.get_ne ?_ ?_); (first | assumption | omega)))); done)) | (apply Exists.intro; apply And.intro; first | (with_reducible assumption) | ((try simp only [List.getElem?_drop, Nat.mul_one, Nat.add_zero, Nat.zero_add]); first | (with_reducible assumption) | assumption | rfl)) | (apply Exists.intro; apply And.intro; (focus ((conv => whnf); first | (intro c hc; subst hc; exact And.intro rfl rfl)))) | (apply And.intro; (first | rfl | (with_reducible assumption) | exact Nat.le_of_ble_eq_true rfl | omega | assumption | (simp <;> fail) | (simp <;> omega) | (focus (repeat' (first | (with_reducible assumption) | rfl | apply one_take | apply one_drop)); done))))) <;> (try (conv => whnf))
        refine Then.mk ?_
        rw [← hm]
        by_cases hne : q x.a ≠ m ∨ q x.b ≠ m
        · have hq1 := hqt.step hxm hok2
          have hlt := bsW_lt hqt hok2 (by rw [← hm]; exact hne)
          have hall : bsW n (bsP q x) < bsW n o := by
            cases ch with
            | false => obtain ⟨rfl, _⟩ := hf rfl; exact hlt
            | true => exact Nat.lt_trans hlt (ht rfl)
          have hw1 := dL_wrZ (n := n + 1) q (show x.a < n + 1 by omega) m
          have hw2 := dL_wrZ (n := n + 1) (putD q x.a m) (show x.b < n + 1 by omega) m
          have hdl2 : (wrA (dL (n + 1) q) (0 + (x.a : Int).toNat * 1) [.int .i64 m]).length = n + 1 := by rw [hw1]; simp
          have hbs : dL (n + 1) (bsP q x) = wrA (wrA (dL (n + 1) q) (0 + (x.a : Int).toNat * 1) [.int .i64 m]) (0 + (x.b : Int).toNat * 1) [.int .i64 m] := by
            rw [hw1, hw2]
            unfold bsP
            rw [← hm]
          (repeat' ((conv => whnf); first | refine OpsA.cons ?_ | refine OpsA.nil ?_ | refine AWq.seq ?_ | refine AWq.region ?_ | refine AWq.cond ?_ | refine AWq.block ?_ | refine AWq.skip ?_ | refine AWq.ret ?_ | refine AWq.exit ?_ | refine AWq.loop ?_ | refine DrawA.consD ?_ | refine DrawA.nil ?_ | refine AWq.draw (by decide +kernel) ?_ | (refine Both.mk ?_ ?_ <;> intro hc <;> (first | exact Bool.noConfusion hc | exact absurd (by assumption) hc | exact absurd hc (by assumption) | (exfalso; omega) | skip)) | (intro c hc; (try (simp only [AH.none_iff] at hc; repeat (have hn := hc.1; replace hc := hc.2))); (first | (refine i64_k hc ?_ ?_ ?_ ; omega; omega; (clear hc; intro hc; subst hc)) | skip)) | (apply Exists.intro; apply And.intro; (focus (repeat (first | assumption | exact AH.set_same _ _ _ | ((first | refine AH.get_ne ?_ ?_); (first | assumption | omega)))); done)) | (apply Exists.intro; apply And.intro; first | (with_reducible assumption) | ((try simp only [List.getElem?_drop, Nat.mul_one, Nat.add_zero, Nat.zero_add]); first | (with_reducible assumption) | assumption | rfl)) | (apply Exists.intro; apply And.intro; (focus ((conv => whnf); first | (intro c hc; subst hc; exact And.intro rfl rfl)))) | (apply And.intro; (first | rfl | (with_reducible assumption) | exact Nat.le_of_ble_eq_true rfl | omega | assumption | (simp <;> fail) | (simp <;> omega) | (focus (repeat' (first | (with_reducible assumption) | rfl | apply one_take | apply one_drop)); done))))) <;> (try (conv => whnf))
          all_goals
            refine Then.mk ?_
            (repeat' ((conv => whnf); first | refine OpsA.cons ?_ | refine OpsA.nil ?_ | refine AWq.seq ?_ | refine AWq.region ?_ | refine AWq.cond ?_ | refine AWq.block ?_ | refine AWq.skip ?_ | refine AWq.ret ?_ | refine AWq.exit ?_ | refine AWq.loop ?_ | refine DrawA.consD ?_ | refine DrawA.nil ?_ | refine AWq.draw (by decide +kernel) ?_ | (refine Both.mk ?_ ?_ <;> intro hc <;> (first | exact Bool.noConfusion hc | exact absurd (by assumption) hc | exact absurd hc (by assumption) | (exfalso; omega) | skip)) | (intro c hc; (try (simp only [AH.none_iff] at hc; repeat (have hn := hc.1; replace hc := hc.2))); (first | (refine i64_k hc ?_ ?_ ?_ ; omega; omega; (clear hc; intro hc; subst hc)) | skip)) | (apply Exists.intro; apply And.intro; (focus (repeat (first | assumption | exact AH.set_same _ _ _ | ((first | refine AH.get_ne ?_ ?_); (first | assumption | omega)))); done)) | (apply Exists.intro; apply And.intro; first | (with_reducible assumption) | ((try simp only [List.getElem?_drop, Nat.mul_one, Nat.add_zero, Nat.zero_add]); first | (with_reducible assumption) | assumption | rfl)) | (apply Exists.intro; apply And.intro; (focus ((conv => whnf); first | (intro c hc; subst hc; exact And.intro rfl rfl)))) | (apply And.intro; (first | rfl | (with_reducible assumption) | exact Nat.le_of_ble_eq_true rfl | omega | assumption | (simp <;> fail) | (simp <;> omega) | (focus (repeat' (first | (with_reducible assumption) | rfl | apply one_take | apply one_drop)); done))))) <;> (try (conv => whnf))
            refine AWq.drawM ([], [74]) (by decide +kernel) ?_
            (repeat' ((conv => whnf); first | refine OpsA.cons ?_ | refine OpsA.nil ?_ | refine AWq.seq ?_ | refine AWq.region ?_ | refine AWq.cond ?_ | refine AWq.block ?_ | refine AWq.skip ?_ | refine AWq.ret ?_ | refine AWq.exit ?_ | refine AWq.loop ?_ | refine DrawA.consD ?_ | refine DrawA.nil ?_ | refine AWq.draw (by decide +kernel) ?_ | (refine Both.mk ?_ ?_ <;> intro hc <;> (first | exact Bool.noConfusion hc | exact absurd (by assumption) hc | exact absurd hc (by assumption) | (exfalso; omega) | skip)) | (intro c hc; (try (simp only [AH.none_iff] at hc; repeat (have hn := hc.1; replace hc := hc.2))); (first | (refine i64_k hc ?_ ?_ ?_ ; omega; omega; (clear hc; intro hc; subst hc)) | skip)) | (apply Exists.intro; apply And.intro; (focus (repeat (first | assumption | exact AH.set_same _ _ _ | ((first | refine AH.get_ne ?_ ?_); (first | assumption | omega)))); done)) | (apply Exists.intro; apply And.intro; first | (with_reducible assumption) | ((try simp only [List.getElem?_drop, Nat.mul_one, Nat.add_zero, Nat.zero_add]); first | (with_reducible assumption) | assumption | rfl)) | (apply Exists.intro; apply And.intro; (focus ((conv => whnf); first | (intro c hc; subst hc; exact And.intro rfl rfl)))) | (apply And.intro; (first | rfl | (with_reducible assumption) | exact Nat.le_of_ble_eq_true rfl | omega | assumption | (simp <;> fail) | (simp <;> omega) | (focus (repeat' (first | (with_reducible assumption) | rfl | apply one_take | apply one_drop)); done))))) <;> (try (conv => whnf))
            refine Then.mk (AWq.in ?_)
            refine AWp_less (H.set r (.row (dL (n + 1) (bsP q x)) 0)) (HLe.of_eq (by rw [hbs]; exact ((AH.set_set _ _ _ _).trans (AH.set_set _ _ _ _)).symm)) ?_
            refine AWp.of tt_ok (dok _) rfl ?_
            (repeat' ((conv => whnf); first | refine Then.mk ?_ | refine OpsA.cons ?_ | refine OpsA.nil ?_ | refine AWq.seq ?_ | refine AWq.region ?_ | refine AWq.cond ?_ | refine AWq.block ?_ | refine AWq.skip ?_ | refine AWq.ret ?_ | refine AWq.exit ?_ | refine AWq.loop ?_ | refine DrawA.consD ?_ | refine DrawA.nil ?_ | refine AWq.draw (by decide +kernel) ?_ | (refine Both.mk ?_ ?_ <;> intro hc <;> (first | exact Bool.noConfusion hc | exact absurd (by assumption) hc | exact absurd hc (by assumption) | (exfalso; omega) | skip)) | (intro c hc; (try (simp only [AH.none_iff] at hc; repeat (have hn := hc.1; replace hc := hc.2))); (first | (refine i64_k hc ?_ ?_ ?_ ; omega; omega; (clear hc; intro hc; subst hc)) | skip)) | (apply Exists.intro; apply And.intro; (focus (repeat (first | assumption | exact AH.set_same _ _ _ | ((first | refine AH.get_ne ?_ ?_); (first | assumption | omega)))); done)) | (apply Exists.intro; apply And.intro; first | (with_reducible assumption) | ((try simp only [List.getElem?_drop, Nat.mul_one, Nat.add_zero, Nat.zero_add]); first | (with_reducible assumption) | assumption | rfl)) | (apply Exists.intro; apply And.intro; (focus ((conv => whnf); first | (intro c hc; subst hc; exact And.intro rfl rfl)))) | (apply And.intro; (first | rfl | (with_reducible assumption) | exact Nat.le_of_ble_eq_true rfl | omega | assumption | (simp <;> fail) | (simp <;> omega) | (focus (repeat' (first | (with_reducible assumption) | rfl | apply one_take | apply one_drop)); done))))) <;> (try (conv => whnf))
            exact ⟨(bsP q x, true, i + 1), ⟨hil, hq1, fun h => Bool.noConfusion h, fun _ => hall⟩, by dsimp only; omega, ⟨rfl, congrArg (AV.int .i64) (by dsimp only; omega), trivial⟩, HLe.refl _⟩
        · have hab : q x.a = q x.b := by omega
          have hfin : ch = false → q = o ∧ ∀ x ∈ A.take (i + 1), o x.a = o x.b := fun h => by
            obtain ⟨rfl, hno⟩ := hf h
            exact ⟨rfl, all_take hx hno hab⟩
          (repeat' ((conv => whnf); first | refine Then.mk ?_ | refine OpsA.cons ?_ | refine OpsA.nil ?_ | refine AWq.seq ?_ | refine AWq.region ?_ | refine AWq.cond ?_ | refine AWq.block ?_ | refine AWq.skip ?_ | refine AWq.ret ?_ | refine AWq.exit ?_ | refine AWq.loop ?_ | refine DrawA.consD ?_ | refine DrawA.nil ?_ | refine AWq.draw (by decide +kernel) ?_ | (refine Both.mk ?_ ?_ <;> intro hc <;> (first | exact Bool.noConfusion hc | exact absurd (by assumption) hc | exact absurd hc (by assumption) | (exfalso; omega) | skip)) | (intro c hc; (try (simp only [AH.none_iff] at hc; repeat (have hn := hc.1; replace hc := hc.2))); (first | (refine i64_k hc ?_ ?_ ?_ ; omega; omega; (clear hc; intro hc; subst hc)) | skip)) | (apply Exists.intro; apply And.intro; (focus (repeat (first | assumption | exact AH.set_same _ _ _ | ((first | refine AH.get_ne ?_ ?_); (first | assumption | omega)))); done)) | (apply Exists.intro; apply And.intro; first | (with_reducible assumption) | ((try simp only [List.getElem?_drop, Nat.mul_one, Nat.add_zero, Nat.zero_add]); first | (with_reducible assumption) | assumption | rfl)) | (apply Exists.intro; apply And.intro; (focus ((conv => whnf); first | (intro c hc; subst hc; exact And.intro rfl rfl)))) | (apply And.intro; (first | rfl | (with_reducible assumption) | exact Nat.le_of_ble_eq_true rfl | omega | assumption | (simp <;> fail) | (simp <;> omega) | (focus (repeat' (first | (with_reducible assumption) | rfl | apply one_take | apply one_drop)); done))))) <;> (try (conv => whnf))
          all_goals exact ⟨(q, ch, i + 1), ⟨hil, hqt, hfin, ht⟩, by dsimp only; omega, ⟨rfl, congrArg (AV.int .i64) (by dsimp only; omega), trivial⟩, HLe.refl _⟩
      · have hie : i = A.length := by omega
        (repeat' ((conv => whnf); first | refine Then.mk ?_ | refine OpsA.cons ?_ | refine OpsA.nil ?_ | refine AWq.seq ?_ | refine AWq.region ?_ | refine AWq.cond ?_ | refine AWq.block ?_ | refine AWq.skip ?_ | refine AWq.ret ?_ | refine AWq.exit ?_ | refine AWq.loop ?_ | refine DrawA.consD ?_ | refine DrawA.nil ?_ | refine AWq.draw (by decide +kernel) ?_ | (refine Both.mk ?_ ?_ <;> intro hc <;> (first | exact Bool.noConfusion hc | exact absurd (by assumption) hc | exact absurd hc (by assumption) | (exfalso; omega) | skip)) | (intro c hc; (try (simp only [AH.none_iff] at hc; repeat (have hn := hc.1; replace hc := hc.2))); (first | (refine i64_k hc ?_ ?_ ?_ ; omega; omega; (clear hc; intro hc; subst hc)) | skip)) | (apply Exists.intro; apply And.intro; (focus (repeat (first | assumption | exact AH.set_same _ _ _ | ((first | refine AH.get_ne ?_ ?_); (first | assumption | omega)))); done)) | (apply Exists.intro; apply And.intro; first | (with_reducible assumption) | ((try simp only [List.getElem?_drop, Nat.mul_one, Nat.add_zero, Nat.zero_add]); first | (with_reducible assumption) | assumption | rfl)) | (apply Exists.intro; apply And.intro; (focus ((conv => whnf); first | (intro c hc; subst hc; exact And.intro rfl rfl)))) | (apply And.intro; (first | rfl | (with_reducible assumption) | exact Nat.le_of_ble_eq_true rfl | omega | assumption | (simp <;> fail) | (simp <;> omega) | (focus (repeat' (first | (with_reducible assumption) | rfl | apply one_take | apply one_drop)); done))))) <;> (try (conv => whnf))
        refine ⟨(q, ch), ⟨hqt, fun h => ?_⟩, ?_, ⟨rfl, trivial⟩, HLe.refl _⟩
        · obtain ⟨rfl, hno⟩ := hf h
          rw [hie, List.take_of_length_le (Nat.le_refl _)] at hno
          exact hno
        · cases ch with
          | false => obtain ⟨rfl, _⟩ := hf rfl; show 2 * bsW n q + 0 < 2 * bsW n q + 1; omega
          | true => have := ht rfl; show 2 * bsW n q + 1 < 2 * bsW n o + 1; omega
end Go.Proofs.Ytebflkgpbbjhnaa
/- The walks of balance: the network at the start; costs. -/
namespace Go.Proofs.Ytebflkgpbbjhnaa
open Go.Fw Go
set_option linter.unusedVariables false
set_option linter.unusedSimpArgs false

set_option maxRecDepth 8000 in
theorem add_c (n : Nat) (A : List Ac) (hl : A.length ≤ 100000) (x : Ac) (hf : x.f = flow0 x.d x.w) (hw : 1 ≤ x.w ∧ x.w ≤ 65536) (H : AH) (c7 g ra v : Nat) (hc7 : H c7 = some (.row [.ptr g 0 0] 0)) (hg : H g = some (.row [.int .i64 n, .sl ra v 5 0 A.length none] 0)) (ha : H ra = some (.row (acL A) v)) (n1 : c7 ≠ g) (n2 : c7 ≠ ra) (n3 : g ≠ ra) :
    ACall Try.prog 67 [.int .i64 x.a, .int .i64 x.b, .int .i64 x.d, .int .i64 x.w, .ptr c7 0 0] H (fun y H' => y = .tup [] ∧ H' = (H.set ra (.row (acL (A ++ [x])) (v + 1))).set g (.row [.int .i64 n, .sl ra (v + 1) 5 0 (A.length + 1) none] 0)) := by
  have hcl := acL_len A
  have hsn : acL A ++ acA x = acL (A ++ [x]) := fL_snoc acA A x
  obtain ⟨a, b, d, w, f⟩ := x
  dsimp only at hf hw ⊢
  unfold flow0 at hf
  rw [← hsn]
  obtain ⟨nm, k0, k1⟩ : ∃ nm : Nat → Nat, nm 0 = ra ∧ nm 1 = g := ⟨fun k => if k = 0 then ra else g, rfl, rfl⟩
  subst k0 k1
  have hnm : ∀ c c', c ∈ [((31 : Nat), 0), (23, 1), (33, 1)].map (·.2) → c' ∈ [((31 : Nat), 0), (23, 1), (33, 1)].map (·.2) → nm c = nm c' → c = c' := by
    intro a b ha hb hab
    simp at ha hb
    rcases ha with rfl | rfl <;> rcases hb with rfl | rfl <;> first | rfl | exact absurd hab n3 | exact absurd hab (Ne.symm n3)
  subst hf
  by_cases h1 : 0 < d
  · rw [if_pos h1]
    refine ACall_of tt_ok (dok _) Try.func67 rfl (by decide) rfl ?_
    (repeat' ((conv => whnf); first | refine Then.mk ?_ | refine OpsA.cons ?_ | refine OpsA.nil ?_ | refine AWq.seq ?_ | refine AWq.region ?_ | refine AWq.cond ?_ | refine AWq.block ?_ | refine AWq.skip ?_ | (refine Both.mk ?_ ?_ <;> intro hc <;> (first | exact Bool.noConfusion hc | exact absurd (by assumption) hc | exact absurd hc (by assumption) | skip)) | (intro c hc; (try (simp only [AH.none_iff] at hc; repeat (have hn := hc.1; replace hc := hc.2))); (first | (refine i64_k hc ?_ ?_ ?_ ; omega; omega; (clear hc; intro hc; subst hc)) | skip)) | (apply Exists.intro; apply And.intro; (focus (repeat (first | assumption | exact AH.set_same _ _ _ | ((first | refine AH.get_ne ?_ ?_); (first | assumption | omega | exact Ne.symm (by assumption))))); done)) | (apply Exists.intro; apply And.intro; first | (with_reducible assumption) | ((try simp only [List.getElem?_drop, Nat.mul_one, Nat.add_zero, Nat.zero_add]); first | (with_reducible assumption) | assumption | rfl)) | (apply Exists.intro; apply And.intro; (focus (intro G; ((conv => whnf); (try left); (conv => whnf); first | exact And.intro rfl rfl)))) | (apply And.intro; (first | rfl | (with_reducible assumption) | exact Nat.le_of_ble_eq_true rfl | omega | assumption)))) <;> (try (conv => whnf))
    refine AWq.drawK mo [(31, 0), (23, 1), (33, 1)] nm hnm (by decide +kernel) ?_
    (repeat' ((conv => whnf); first | refine DrawK.consD ?_ | refine DrawK.nil ?_ | (apply And.intro; (focus (repeat (first | exact trivial | (refine And.intro (a := _ ≠ _) (b := offR _ _ _) ?_ ?_; (first | assumption | omega | exact Ne.symm (by assumption))))); done)) | refine Then.mk ?_ | refine OpsA.cons ?_ | refine OpsA.nil ?_ | refine AWq.seq ?_ | refine AWq.region ?_ | refine AWq.cond ?_ | refine AWq.block ?_ | refine AWq.skip ?_ | (refine Both.mk ?_ ?_ <;> intro hc <;> (first | exact Bool.noConfusion hc | exact absurd (by assumption) hc | exact absurd hc (by assumption) | skip)) | (intro c hc; (try (simp only [AH.none_iff] at hc; repeat (have hn := hc.1; replace hc := hc.2))); (first | (refine i64_k hc ?_ ?_ ?_ ; omega; omega; (clear hc; intro hc; subst hc)) | skip)) | (apply Exists.intro; apply And.intro; (focus (repeat (first | assumption | exact AH.set_same _ _ _ | ((first | refine AH.get_ne ?_ ?_); (first | assumption | omega | exact Ne.symm (by assumption))))); done)) | (apply Exists.intro; apply And.intro; first | (with_reducible assumption) | ((try simp only [List.getElem?_drop, Nat.mul_one, Nat.add_zero, Nat.zero_add]); first | (with_reducible assumption) | assumption | rfl)) | (apply Exists.intro; apply And.intro; (focus (intro G; ((conv => whnf); (try left); (conv => whnf); first | exact And.intro rfl rfl)))) | (apply And.intro; (first | rfl | (with_reducible assumption) | exact Nat.le_of_ble_eq_true rfl | omega | assumption)))) <;> (try (conv => whnf))
    rw [AH.set_id hg, AH.set_set]
    (try rw [Int.zero_sub])
    rfl
  · by_cases h2 : d < 0
    · rw [if_neg h1, if_pos h2]
      refine ACall_of tt_ok (dok _) Try.func67 rfl (by decide) rfl ?_
      (repeat' ((conv => whnf); first | refine Then.mk ?_ | refine OpsA.cons ?_ | refine OpsA.nil ?_ | refine AWq.seq ?_ | refine AWq.region ?_ | refine AWq.cond ?_ | refine AWq.block ?_ | refine AWq.skip ?_ | (refine Both.mk ?_ ?_ <;> intro hc <;> (first | exact Bool.noConfusion hc | exact absurd (by assumption) hc | exact absurd hc (by assumption) | skip)) | (intro c hc; (try (simp only [AH.none_iff] at hc; repeat (have hn := hc.1; replace hc := hc.2))); (first | (refine i64_k hc ?_ ?_ ?_ ; omega; omega; (clear hc; intro hc; subst hc)) | skip)) | (apply Exists.intro; apply And.intro; (focus (repeat (first | assumption | exact AH.set_same _ _ _ | ((first | refine AH.get_ne ?_ ?_); (first | assumption | omega | exact Ne.symm (by assumption))))); done)) | (apply Exists.intro; apply And.intro; first | (with_reducible assumption) | ((try simp only [List.getElem?_drop, Nat.mul_one, Nat.add_zero, Nat.zero_add]); first | (with_reducible assumption) | assumption | rfl)) | (apply Exists.intro; apply And.intro; (focus (intro G; ((conv => whnf); (try left); (conv => whnf); first | exact And.intro rfl rfl)))) | (apply And.intro; (first | rfl | (with_reducible assumption) | exact Nat.le_of_ble_eq_true rfl | omega | assumption)))) <;> (try (conv => whnf))
      refine AWq.drawK mo [(31, 0), (23, 1), (33, 1)] nm hnm (by decide +kernel) ?_
      (repeat' ((conv => whnf); first | refine DrawK.consD ?_ | refine DrawK.nil ?_ | (apply And.intro; (focus (repeat (first | exact trivial | (refine And.intro (a := _ ≠ _) (b := offR _ _ _) ?_ ?_; (first | assumption | omega | exact Ne.symm (by assumption))))); done)) | refine Then.mk ?_ | refine OpsA.cons ?_ | refine OpsA.nil ?_ | refine AWq.seq ?_ | refine AWq.region ?_ | refine AWq.cond ?_ | refine AWq.block ?_ | refine AWq.skip ?_ | (refine Both.mk ?_ ?_ <;> intro hc <;> (first | exact Bool.noConfusion hc | exact absurd (by assumption) hc | exact absurd hc (by assumption) | skip)) | (intro c hc; (try (simp only [AH.none_iff] at hc; repeat (have hn := hc.1; replace hc := hc.2))); (first | (refine i64_k hc ?_ ?_ ?_ ; omega; omega; (clear hc; intro hc; subst hc)) | skip)) | (apply Exists.intro; apply And.intro; (focus (repeat (first | assumption | exact AH.set_same _ _ _ | ((first | refine AH.get_ne ?_ ?_); (first | assumption | omega | exact Ne.symm (by assumption))))); done)) | (apply Exists.intro; apply And.intro; first | (with_reducible assumption) | ((try simp only [List.getElem?_drop, Nat.mul_one, Nat.add_zero, Nat.zero_add]); first | (with_reducible assumption) | assumption | rfl)) | (apply Exists.intro; apply And.intro; (focus (intro G; ((conv => whnf); (try left); (conv => whnf); first | exact And.intro rfl rfl)))) | (apply And.intro; (first | rfl | (with_reducible assumption) | exact Nat.le_of_ble_eq_true rfl | omega | assumption)))) <;> (try (conv => whnf))
      rw [AH.set_id hg, AH.set_set]
      (try rw [Int.zero_sub])
      rfl
    · rw [if_neg h1, if_neg h2]
      refine ACall_of tt_ok (dok _) Try.func67 rfl (by decide) rfl ?_
      (repeat' ((conv => whnf); first | refine Then.mk ?_ | refine OpsA.cons ?_ | refine OpsA.nil ?_ | refine AWq.seq ?_ | refine AWq.region ?_ | refine AWq.cond ?_ | refine AWq.block ?_ | refine AWq.skip ?_ | (refine Both.mk ?_ ?_ <;> intro hc <;> (first | exact Bool.noConfusion hc | exact absurd (by assumption) hc | exact absurd hc (by assumption) | skip)) | (intro c hc; (try (simp only [AH.none_iff] at hc; repeat (have hn := hc.1; replace hc := hc.2))); (first | (refine i64_k hc ?_ ?_ ?_ ; omega; omega; (clear hc; intro hc; subst hc)) | skip)) | (apply Exists.intro; apply And.intro; (focus (repeat (first | assumption | exact AH.set_same _ _ _ | ((first | refine AH.get_ne ?_ ?_); (first | assumption | omega | exact Ne.symm (by assumption))))); done)) | (apply Exists.intro; apply And.intro; first | (with_reducible assumption) | ((try simp only [List.getElem?_drop, Nat.mul_one, Nat.add_zero, Nat.zero_add]); first | (with_reducible assumption) | assumption | rfl)) | (apply Exists.intro; apply And.intro; (focus (intro G; ((conv => whnf); (try left); (conv => whnf); first | exact And.intro rfl rfl)))) | (apply And.intro; (first | rfl | (with_reducible assumption) | exact Nat.le_of_ble_eq_true rfl | omega | assumption)))) <;> (try (conv => whnf))
      refine AWq.drawK mo [(31, 0), (23, 1), (33, 1)] nm hnm (by decide +kernel) ?_
      (repeat' ((conv => whnf); first | refine DrawK.consD ?_ | refine DrawK.nil ?_ | (apply And.intro; (focus (repeat (first | exact trivial | (refine And.intro (a := _ ≠ _) (b := offR _ _ _) ?_ ?_; (first | assumption | omega | exact Ne.symm (by assumption))))); done)) | refine Then.mk ?_ | refine OpsA.cons ?_ | refine OpsA.nil ?_ | refine AWq.seq ?_ | refine AWq.region ?_ | refine AWq.cond ?_ | refine AWq.block ?_ | refine AWq.skip ?_ | (refine Both.mk ?_ ?_ <;> intro hc <;> (first | exact Bool.noConfusion hc | exact absurd (by assumption) hc | exact absurd hc (by assumption) | skip)) | (intro c hc; (try (simp only [AH.none_iff] at hc; repeat (have hn := hc.1; replace hc := hc.2))); (first | (refine i64_k hc ?_ ?_ ?_ ; omega; omega; (clear hc; intro hc; subst hc)) | skip)) | (apply Exists.intro; apply And.intro; (focus (repeat (first | assumption | exact AH.set_same _ _ _ | ((first | refine AH.get_ne ?_ ?_); (first | assumption | omega | exact Ne.symm (by assumption))))); done)) | (apply Exists.intro; apply And.intro; first | (with_reducible assumption) | ((try simp only [List.getElem?_drop, Nat.mul_one, Nat.add_zero, Nat.zero_add]); first | (with_reducible assumption) | assumption | rfl)) | (apply Exists.intro; apply And.intro; (focus (intro G; ((conv => whnf); (try left); (conv => whnf); first | exact And.intro rfl rfl)))) | (apply And.intro; (first | rfl | (with_reducible assumption) | exact Nat.le_of_ble_eq_true rfl | omega | assumption)))) <;> (try (conv => whnf))
      rw [AH.set_id hg, AH.set_set]
      (try rw [Int.zero_sub])
      rfl
def edAc (x : Ed) : Ac := ⟨x.a.toNat, x.b.toNat, x.d, x.w, flow0 x.d x.w⟩
def fxAc (n : Nat) (x : Fx) : Ac := ⟨x.a.toNat, n, x.v, x.w, flow0 x.v x.w⟩
def net0 (n : Nat) (es : List Ed) (fs : List Fx) : List Ac := es.map edAc ++ fs.map (fxAc n)
/-- A network in memory, under way. -/
def stH (H : AH) (n g ra : Nat) (A : List Ac) : AH := (H.set ra (.row (acL A) A.length)).set g (.row [.int .i64 n, .sl ra A.length 5 0 A.length none] 0)
theorem stH_add {H : AH} {n g ra : Nat} {A : List Ac} (hne : g ≠ ra) (x : Ac) : stH H n g ra (A ++ [x]) = ((stH H n g ra A).set ra (.row (acL (A ++ [x])) (A.length + 1))).set g (.row [.int .i64 n, .sl ra (A.length + 1) 5 0 (A.length + 1) none] 0) := by
  unfold stH
  rw [AH.set_comm (H.set ra _) _ _ hne, AH.set_set, AH.set_set]
  simp only [List.length_append, List.length_cons, List.length_nil, Nat.zero_add]
theorem stAdd_c (n : Nat) (A : List Ac) (hl : A.length ≤ 100000) (x : Ac) (hf : x.f = flow0 x.d x.w) (hw : 1 ≤ x.w ∧ x.w ≤ 65536) (H : AH) (c7 g ra : Nat) (hc7 : H c7 = some (.row [.ptr g 0 0] 0)) (n1 : c7 ≠ g) (n2 : c7 ≠ ra) (n3 : g ≠ ra) :
    ACall Try.prog 67 [.int .i64 x.a, .int .i64 x.b, .int .i64 x.d, .int .i64 x.w, .ptr c7 0 0] (stH H n g ra A) (fun y H' => y = .tup [] ∧ H' = stH H n g ra (A ++ [x])) := by
  rw [stH_add n3]
  exact add_c n A hl x hf hw _ c7 g ra A.length (by unfold stH; rw [AH.set_ne _ _ n1, AH.set_ne _ _ n2]; exact hc7) (by unfold stH; exact AH.set_same _ _ _) (by unfold stH; rw [AH.set_ne _ _ (Ne.symm n3)]; exact AH.set_same _ _ _) n1 n2 n3
set_option maxRecDepth 8000 in
theorem start_c (n : Nat) (hnn : n ≤ 64) (es : List Ed) (fs : List Fx) (he : es.length ≤ 8192) (hf : fs.length ≤ 8192) (hE : ∀ x ∈ es, vE n x) (hF : ∀ x ∈ fs, vF n x) (H : AH) :
    ACall Try.prog 36 [.int .i64 n, .cs (edL es) es.length, .cs (fxL fs) fs.length] H (fun y H' => ∃ g ra, H g = none ∧ H ra = none ∧ g ≠ ra ∧ y = .ptr g 0 0 ∧ H' = stH H n g ra (net0 n es fs)) := by
  refine ACall.told ?_
  have hel := edL_len es
  have hfl := fxL_len fs
  have heo := edL_one es
  have hfo := fxL_one fs
  refine ACall_of tt_ok (dok _) Try.func36 rfl (by decide) rfl ?_
  (iterate 1 ((repeat' ((conv => whnf); first | left | refine OpsA.cons ?_ | refine OpsA.nil ?_ | refine AWq.seq ?_ | refine AWq.region ?_ | refine AWq.cond ?_ | refine AWq.block ?_ | refine AWq.skip ?_ | refine AWq.ret ?_ | refine AWq.exit ?_ | refine AWq.loop ?_ | (refine Both.mk ?_ ?_ <;> intro hc <;> (first | exact Bool.noConfusion hc | (exfalso; omega) | skip)) | (intro c hc; (try (simp only [AH.none_iff] at hc; repeat (have hn := hc.1; replace hc := hc.2))); (first | (refine i64_k hc ?_ ?_ ?_ ; omega; omega; (clear hc; intro hc; subst hc)) | skip)) | (apply Exists.intro; apply And.intro; (focus (repeat (first | assumption | exact AH.set_same _ _ _)); done)) | (apply Exists.intro; apply And.intro; first | (with_reducible assumption) | ((try simp only [List.getElem?_drop, Nat.mul_one, Nat.add_zero, Nat.zero_add]); first | (with_reducible assumption) | assumption | rfl)) | (apply And.intro; (first | rfl | (with_reducible assumption) | exact Nat.le_of_ble_eq_true rfl | omega | assumption | (simp <;> omega) | (focus (repeat' (first | (with_reducible assumption) | rfl | apply one_take | apply one_drop)); done))))) <;> (try (conv => whnf)); refine Then.mk ?_))
  (repeat' ((conv => whnf); first | left | refine OpsA.cons ?_ | refine OpsA.nil ?_ | refine AWq.seq ?_ | refine AWq.region ?_ | refine AWq.cond ?_ | refine AWq.block ?_ | refine AWq.skip ?_ | refine AWq.ret ?_ | refine AWq.exit ?_ | refine AWq.loop ?_ | (refine Both.mk ?_ ?_ <;> intro hc <;> (first | exact Bool.noConfusion hc | (exfalso; omega) | skip)) | (intro c hc; (try (simp only [AH.none_iff] at hc; repeat (have hn := hc.1; replace hc := hc.2))); (first | (refine i64_k hc ?_ ?_ ?_ ; omega; omega; (clear hc; intro hc; subst hc)) | skip)) | (apply Exists.intro; apply And.intro; (focus (repeat (first | assumption | exact AH.set_same _ _ _)); done)) | (apply Exists.intro; apply And.intro; first | (with_reducible assumption) | ((try simp only [List.getElem?_drop, Nat.mul_one, Nat.add_zero, Nat.zero_add]); first | (with_reducible assumption) | assumption | rfl)) | (apply And.intro; (first | rfl | (with_reducible assumption) | exact Nat.le_of_ble_eq_true rfl | omega | assumption | (simp <;> omega) | (focus (repeat' (first | (with_reducible assumption) | rfl | apply one_take | apply one_drop)); done))))) <;> (try (conv => whnf))
  rename_i g hg
  (obtain ⟨c7, hq_⟩ : ∃ c7, c7 = c := ⟨_, rfl⟩); subst hq_
  have hcg : c7 ≠ g := hn
  have hc7 : H c7 = none := hc
  refine Then.mk (AWq.in ?_)
  refine AWp_less ((H.set c7 (.row [.ptr g 0 0] 0)).set g (.row [.int .i64 n, .nils] 0)) (HLe.of_eq (by rw [AH.set_set, AH.set_comm _ _ _ hcg]; rfl)) ?_
  refine AWp_nilC (p := g) 5 [.int .i64 n] [] (AH.set_same _ _ _) fun ra hra hrg => ?_
  obtain ⟨hrg, hra⟩ := AH.none_set hra
  obtain ⟨hr7, hra⟩ := AH.none_set hra
  have hgra := Ne.symm hrg
  have h7r := Ne.symm hr7
  refine AWp_less (stH (H.set c7 (.row [.ptr g 0 0] 0)) n g ra []) (HLe.of_eq (by unfold stH; rw [AH.set_comm _ _ _ hgra, AH.set_set]; rfl)) ?_
  obtain ⟨G, hG⟩ : ∃ G, G = H.set c7 (.row [.ptr g 0 0] 0) := ⟨_, rfl⟩
  rw [← hG]
  have hG7 : G c7 = some (.row [.ptr g 0 0] 0) := by rw [hG]; exact AH.set_same _ _ _
  have hs7 : ∀ A, stH G n g ra A c7 = some (.row [.ptr g 0 0] 0) := fun A => by unfold stH; rw [AH.set_ne _ _ hcg, AH.set_ne _ _ h7r]; exact hG7
  refine AWp.of tt_ok (dok _) rfl ?_
  (repeat' ((conv => whnf); first | refine Then.mk ?_ | left | refine OpsA.cons ?_ | refine OpsA.nil ?_ | refine AWq.seq ?_ | refine AWq.region ?_ | refine AWq.cond ?_ | refine AWq.block ?_ | refine AWq.skip ?_ | refine AWq.ret ?_ | refine AWq.exit ?_ | refine AWq.loop ?_ | (refine Both.mk ?_ ?_ <;> intro hc <;> (first | exact Bool.noConfusion hc | (exfalso; omega) | skip)) | (intro c hc; (try (simp only [AH.none_iff] at hc; repeat (have hn := hc.1; replace hc := hc.2))); (first | (refine i64_k hc ?_ ?_ ?_ ; omega; omega; (clear hc; intro hc; subst hc)) | skip)) | (apply Exists.intro; apply And.intro; (focus (repeat (first | assumption | exact AH.set_same _ _ _)); done)) | (apply Exists.intro; apply And.intro; first | (with_reducible assumption) | ((try simp only [List.getElem?_drop, Nat.mul_one, Nat.add_zero, Nat.zero_add]); first | (with_reducible assumption) | assumption | rfl)) | (apply And.intro; (first | rfl | (with_reducible assumption) | exact Nat.le_of_ble_eq_true rfl | omega | assumption | (simp <;> omega) | (focus (repeat' (first | (with_reducible assumption) | rfl | apply one_take | apply one_drop)); done))))) <;> (try (conv => whnf))
  refine AWp_loop (σ := Nat) (10 :: 19 :: 20 :: 21 :: 22 :: 23 :: 24 :: 25 :: 26 :: 27 :: 28 :: 29 :: 30 :: 31 :: 32 :: 33 :: []) (fun i => [(19, .int .i64 i)]) (fun i => stH G n g ra ((es.take i).map edAc)) (fun i => i ≤ es.length) (fun i => es.length - i) 0 rfl (Nat.zero_le _) ⟨rfl, trivial⟩ (HLe.refl _) ?_
  intro i hi
  refine AWp.of tt_ok (dok _) rfl ?_
  dsimp only at hi ⊢
  by_cases hil : i < es.length
  · obtain ⟨x, hx⟩ : ∃ x, es[i]? = some x := ⟨_, List.getElem?_eq_getElem hil⟩
    obtain ⟨v1, v2, v3, v4, v5⟩ := hE x (List.mem_of_getElem? hx)
    have hs := stAdd_c n ((es.take i).map edAc) (by rw [List.length_map, List.length_take]; omega) (edAc x) rfl v5 G c7 g ra hG7 hcg h7r hgra
    have htk : (es.take (i + 1)).map edAc = (es.take i).map edAc ++ [edAc x] := by rw [take_snoc hx]; simp
    rw [← htk] at hs
    have ea : ((edAc x).a : Int) = x.a := by show ((x.a.toNat : Nat) : Int) = x.a; omega
    have eb : ((edAc x).b : Int) = x.b := by show ((x.b.toNat : Nat) : Int) = x.b; omega
    rw [ea, eb] at hs
    have hs : ACall Try.prog 67 [.int .i64 x.a, .int .i64 x.b, .int .i64 x.d, .int .i64 x.w, .ptr c7 0 0] (stH G n g ra ((es.take i).map edAc)) (fun y H' => y = .tup [] ∧ H' = stH G n g ra ((es.take (i + 1)).map edAc)) := hs
    have hs1 := hs7 ((es.take i).map edAc)
    generalize stH G n g ra ((es.take i).map edAc) = G1 at *
    generalize hG2 : stH G n g ra ((es.take (i + 1)).map edAc) = G2 at *
    (iterate 3 ((repeat' ((conv => whnf); first | left | refine OpsA.cons ?_ | refine OpsA.nil ?_ | refine AWq.seq ?_ | refine AWq.region ?_ | refine AWq.cond ?_ | refine AWq.block ?_ | refine AWq.skip ?_ | refine AWq.ret ?_ | refine AWq.exit ?_ | refine AWq.loop ?_ | (refine Both.mk ?_ ?_ <;> intro hc <;> (first | exact Bool.noConfusion hc | (exfalso; omega) | skip)) | (intro c hc; (try (simp only [AH.none_iff] at hc; repeat (have hn := hc.1; replace hc := hc.2))); (first | (refine i64_k hc ?_ ?_ ?_ ; omega; omega; (clear hc; intro hc; subst hc)) | skip)) | (apply Exists.intro; apply And.intro; (focus (repeat (first | assumption | exact AH.set_same _ _ _)); done)) | (apply Exists.intro; apply And.intro; first | (with_reducible assumption) | ((try simp only [List.getElem?_drop, Nat.mul_one, Nat.add_zero, Nat.zero_add]); first | (with_reducible assumption) | assumption | rfl)) | (apply And.intro; (first | rfl | (with_reducible assumption) | exact Nat.le_of_ble_eq_true rfl | omega | assumption | (simp <;> omega) | (focus (repeat' (first | (with_reducible assumption) | rfl | apply one_take | apply one_drop)); done))))) <;> (try (conv => whnf)); refine Then.mk ?_))
    refine AWq.in ?_
    refine AWp_segP 10 (edA x) rfl rfl (by (first | assumption | (simp only [AH.none_iff]; (repeat' (first | assumption | (refine And.intro ?_ ?_)))))) (edL_seg hx) rfl ?_
    refine AWp.of tt_ok (dok _) rfl ?_
    (repeat' ((conv => whnf); first | refine Then.mk ?_ | left | refine OpsA.cons ?_ | refine OpsA.nil ?_ | refine AWq.seq ?_ | refine AWq.region ?_ | refine AWq.cond ?_ | refine AWq.block ?_ | refine AWq.skip ?_ | refine AWq.ret ?_ | refine AWq.exit ?_ | refine AWq.loop ?_ | (refine Both.mk ?_ ?_ <;> intro hc <;> (first | exact Bool.noConfusion hc | (exfalso; omega) | skip)) | (intro c hc; (try (simp only [AH.none_iff] at hc; repeat (have hn := hc.1; replace hc := hc.2))); (first | (refine i64_k hc ?_ ?_ ?_ ; omega; omega; (clear hc; intro hc; subst hc)) | skip)) | (apply Exists.intro; apply And.intro; (focus (repeat (first | assumption | exact AH.set_same _ _ _)); done)) | (apply Exists.intro; apply And.intro; first | (with_reducible assumption) | ((try simp only [List.getElem?_drop, Nat.mul_one, Nat.add_zero, Nat.zero_add]); first | (with_reducible assumption) | assumption | rfl)) | (apply And.intro; (first | rfl | (with_reducible assumption) | exact Nat.le_of_ble_eq_true rfl | omega | assumption | (simp <;> omega) | (focus (repeat' (first | (with_reducible assumption) | rfl | apply one_take | apply one_drop)); done))) | (refine ACall.to (hs) ?_))) <;> (try (conv => whnf))
    refine ⟨i + 1, hil, by omega, ⟨congrArg (AV.int .i64) (by omega), trivial⟩, HLe.of_eq hG2⟩
  · have hie : i = es.length := by omega
    have hte : (es.take i).map edAc = es.map edAc := by rw [List.take_of_length_le (by omega)]
    rw [hte]
    (repeat' ((conv => whnf); first | refine Then.mk ?_ | left | refine OpsA.cons ?_ | refine OpsA.nil ?_ | refine AWq.seq ?_ | refine AWq.region ?_ | refine AWq.cond ?_ | refine AWq.block ?_ | refine AWq.skip ?_ | refine AWq.ret ?_ | refine AWq.exit ?_ | refine AWq.loop ?_ | (refine Both.mk ?_ ?_ <;> intro hc <;> (first | exact Bool.noConfusion hc | (exfalso; omega) | skip)) | (intro c hc; (try (simp only [AH.none_iff] at hc; repeat (have hn := hc.1; replace hc := hc.2))); (first | (refine i64_k hc ?_ ?_ ?_ ; omega; omega; (clear hc; intro hc; subst hc)) | skip)) | (apply Exists.intro; apply And.intro; (focus (repeat (first | assumption | exact AH.set_same _ _ _)); done)) | (apply Exists.intro; apply And.intro; first | (with_reducible assumption) | ((try simp only [List.getElem?_drop, Nat.mul_one, Nat.add_zero, Nat.zero_add]); first | (with_reducible assumption) | assumption | rfl)) | (apply And.intro; (first | rfl | (with_reducible assumption) | exact Nat.le_of_ble_eq_true rfl | omega | assumption | (simp <;> omega) | (focus (repeat' (first | (with_reducible assumption) | rfl | apply one_take | apply one_drop)); done))))) <;> (try (conv => whnf))
    refine AWp_loop (σ := Nat) (12 :: 36 :: 37 :: 38 :: 39 :: 40 :: 41 :: 42 :: 43 :: 44 :: 45 :: 46 :: 47 :: 48 :: 49 :: []) (fun i => [(36, .int .i64 i)]) (fun i => stH G n g ra (es.map edAc ++ (fs.take i).map (fxAc n))) (fun i => i ≤ fs.length) (fun i => fs.length - i) 0 rfl (Nat.zero_le _) ⟨rfl, trivial⟩ (HLe.of_eq (by simp)) ?_
    intro j hj
    refine AWp.of tt_ok (dok _) rfl ?_
    dsimp only at hj ⊢
    by_cases hjl : j < fs.length
    · obtain ⟨x, hx⟩ : ∃ x, fs[j]? = some x := ⟨_, List.getElem?_eq_getElem hjl⟩
      obtain ⟨v1, v4, v5⟩ := hF x (List.mem_of_getElem? hx)
      have hs := stAdd_c n (es.map edAc ++ (fs.take j).map (fxAc n)) (by rw [List.length_append, List.length_map, List.length_map, List.length_take]; omega) (fxAc n x) rfl v5 G c7 g ra hG7 hcg h7r hgra
      have htk : es.map edAc ++ (fs.take (j + 1)).map (fxAc n) = es.map edAc ++ (fs.take j).map (fxAc n) ++ [fxAc n x] := by rw [take_snoc hx]; simp
      rw [← htk] at hs
      have ea : ((fxAc n x).a : Int) = x.a := by show ((x.a.toNat : Nat) : Int) = x.a; omega
      rw [ea] at hs
      have hs : ACall Try.prog 67 [.int .i64 x.a, .int .i64 n, .int .i64 x.v, .int .i64 x.w, .ptr c7 0 0] (stH G n g ra (es.map edAc ++ (fs.take j).map (fxAc n))) (fun y H' => y = .tup [] ∧ H' = stH G n g ra (es.map edAc ++ (fs.take (j + 1)).map (fxAc n))) := hs
      have hs1 := hs7 (es.map edAc ++ (fs.take j).map (fxAc n))
      generalize stH G n g ra (es.map edAc ++ (fs.take j).map (fxAc n)) = G1 at *
      generalize hG2 : stH G n g ra (es.map edAc ++ (fs.take (j + 1)).map (fxAc n)) = G2 at *
      (iterate 3 ((repeat' ((conv => whnf); first | left | refine OpsA.cons ?_ | refine OpsA.nil ?_ | refine AWq.seq ?_ | refine AWq.region ?_ | refine AWq.cond ?_ | refine AWq.block ?_ | refine AWq.skip ?_ | refine AWq.ret ?_ | refine AWq.exit ?_ | refine AWq.loop ?_ | (refine Both.mk ?_ ?_ <;> intro hc <;> (first | exact Bool.noConfusion hc | (exfalso; omega) | skip)) | (intro c hc; (try (simp only [AH.none_iff] at hc; repeat (have hn := hc.1; replace hc := hc.2))); (first | (refine i64_k hc ?_ ?_ ?_ ; omega; omega; (clear hc; intro hc; subst hc)) | skip)) | (apply Exists.intro; apply And.intro; (focus (repeat (first | assumption | exact AH.set_same _ _ _)); done)) | (apply Exists.intro; apply And.intro; first | (with_reducible assumption) | ((try simp only [List.getElem?_drop, Nat.mul_one, Nat.add_zero, Nat.zero_add]); first | (with_reducible assumption) | assumption | rfl)) | (apply And.intro; (first | rfl | (with_reducible assumption) | exact Nat.le_of_ble_eq_true rfl | omega | assumption | (simp <;> omega) | (focus (repeat' (first | (with_reducible assumption) | rfl | apply one_take | apply one_drop)); done))))) <;> (try (conv => whnf)); refine Then.mk ?_))
      refine AWq.in ?_
      refine AWp_segP 12 (fxA x) rfl rfl (by (first | assumption | (simp only [AH.none_iff]; (repeat' (first | assumption | (refine And.intro ?_ ?_)))))) (fxL_seg hx) rfl ?_
      refine AWp.of tt_ok (dok _) rfl ?_
      (repeat' ((conv => whnf); first | refine Then.mk ?_ | left | refine OpsA.cons ?_ | refine OpsA.nil ?_ | refine AWq.seq ?_ | refine AWq.region ?_ | refine AWq.cond ?_ | refine AWq.block ?_ | refine AWq.skip ?_ | refine AWq.ret ?_ | refine AWq.exit ?_ | refine AWq.loop ?_ | (refine Both.mk ?_ ?_ <;> intro hc <;> (first | exact Bool.noConfusion hc | (exfalso; omega) | skip)) | (intro c hc; (try (simp only [AH.none_iff] at hc; repeat (have hn := hc.1; replace hc := hc.2))); (first | (refine i64_k hc ?_ ?_ ?_ ; omega; omega; (clear hc; intro hc; subst hc)) | skip)) | (apply Exists.intro; apply And.intro; (focus (repeat (first | assumption | exact AH.set_same _ _ _)); done)) | (apply Exists.intro; apply And.intro; first | (with_reducible assumption) | ((try simp only [List.getElem?_drop, Nat.mul_one, Nat.add_zero, Nat.zero_add]); first | (with_reducible assumption) | assumption | rfl)) | (apply And.intro; (first | rfl | (with_reducible assumption) | exact Nat.le_of_ble_eq_true rfl | omega | assumption | (simp <;> omega) | (focus (repeat' (first | (with_reducible assumption) | rfl | apply one_take | apply one_drop)); done))) | (refine ACall.to (hs) ?_))) <;> (try (conv => whnf))
      refine ⟨j + 1, hjl, by omega, ⟨congrArg (AV.int .i64) (by omega), trivial⟩, HLe.of_eq hG2⟩
    · have hte2 : (fs.take j).map (fxAc n) = fs.map (fxAc n) := by rw [List.take_of_length_le (by omega)]
      rw [hte2]
      have hs1 := hs7 (es.map edAc ++ fs.map (fxAc n))
      (repeat' ((conv => whnf); first | refine Then.mk ?_ | left | refine OpsA.cons ?_ | refine OpsA.nil ?_ | refine AWq.seq ?_ | refine AWq.region ?_ | refine AWq.cond ?_ | refine AWq.block ?_ | refine AWq.skip ?_ | refine AWq.ret ?_ | refine AWq.exit ?_ | refine AWq.loop ?_ | (refine Both.mk ?_ ?_ <;> intro hc <;> (first | exact Bool.noConfusion hc | (exfalso; omega) | skip)) | (intro c hc; (try (simp only [AH.none_iff] at hc; repeat (have hn := hc.1; replace hc := hc.2))); (first | (refine i64_k hc ?_ ?_ ?_ ; omega; omega; (clear hc; intro hc; subst hc)) | skip)) | (apply Exists.intro; apply And.intro; (focus (repeat (first | assumption | exact AH.set_same _ _ _)); done)) | (apply Exists.intro; apply And.intro; first | (with_reducible assumption) | ((try simp only [List.getElem?_drop, Nat.mul_one, Nat.add_zero, Nat.zero_add]); first | (with_reducible assumption) | assumption | rfl)) | (apply And.intro; (first | rfl | (with_reducible assumption) | exact Nat.le_of_ble_eq_true rfl | omega | assumption | (simp <;> omega) | (focus (repeat' (first | (with_reducible assumption) | rfl | apply one_take | apply one_drop)); done))))) <;> (try (conv => whnf))
      refine ⟨_, stH H n g ra (net0 n es fs), AVle.refl _, ?_, g, ra, hg, hra, hgra, rfl, rfl⟩
      rw [hG]
      unfold net0 stH
      exact HLe.set (HLe.set (HLe.fresh _ hc7) _ _) _ _
end Go.Proofs.Ytebflkgpbbjhnaa
/- The walks of balance: Check. -/
namespace Go.Proofs.Ytebflkgpbbjhnaa
open Go.Fw Go
set_option linter.unusedVariables false
set_option linter.unusedSimpArgs false

set_option maxRecDepth 8000 in
theorem grow_c (n : Nat) (hn : n ≤ 1000000) (H : AH) : ACall Try.prog 72 [.nils, .int .i64 n] H (fun y H' => ∃ r, H r = none ∧ ∃ v, y = .sl r v 1 0 0 none ∧ H' = H.set r (.row [] v)) := by
  refine ACall.warmN (es := 1) (n := 0) (cells := []) rfl ?_
  by_cases h : n = 0
  · subst h
    refine ACall_of tt_ok (dok _) Try.func72 rfl (by decide) rfl ?_
    (repeat' ((conv => whnf); first | refine Then.mk ?_ | refine OpsA.cons ?_ | refine OpsA.nil ?_ | refine AWq.seq ?_ | refine AWq.region ?_ | refine AWq.cond ?_ | refine AWq.skip ?_ | refine AWq.ret ?_ | (refine Both.mk ?_ ?_ <;> intro hc <;> (first | exact Bool.noConfusion hc | exact absurd hc (by assumption) | (exfalso; omega) | skip)) | (intro c hc; (try (simp only [AH.none_iff] at hc; repeat (have hn := hc.1; replace hc := hc.2))); (first | (refine i64_k hc ?_ ?_ ?_ ; omega; omega; (clear hc; intro hc; subst hc)) | skip)) | (apply And.intro; (first | rfl | (with_reducible assumption) | omega)))) <;> (try (conv => whnf))
    exact .inl ⟨rfl, rfl, rfl⟩
  · refine ACall_of tt_ok (dok _) Try.func72 rfl (by decide) rfl ?_
    (repeat' ((conv => whnf); first | refine Then.mk ?_ | refine OpsA.cons ?_ | refine OpsA.nil ?_ | refine AWq.seq ?_ | refine AWq.region ?_ | refine AWq.cond ?_ | refine AWq.skip ?_ | refine AWq.ret ?_ | (refine Both.mk ?_ ?_ <;> intro hc <;> (first | exact Bool.noConfusion hc | exact absurd hc (by assumption) | (exfalso; omega) | skip)) | (intro c hc; (try (simp only [AH.none_iff] at hc; repeat (have hn := hc.1; replace hc := hc.2))); (first | (refine i64_k hc ?_ ?_ ?_ ; omega; omega; (clear hc; intro hc; subst hc)) | skip)) | (apply And.intro; (first | rfl | (with_reducible assumption) | omega)))) <;> (try (conv => whnf))
    exact .inr ⟨c, by assumption, 0, rfl, rfl⟩
set_option maxRecDepth 8000 in
theorem concat_c (a b : List Int) (ha : a.length ≤ 100000) (hb : b.length ≤ 100000) (H : AH) :
    ACall Try.prog 45 [.cs [.cs (iS .i64 a) a.length, .cs (iS .i64 b) b.length] 2] H (fun y H' => y = .cs (iS .i64 (a ++ b)) (a ++ b).length ∧ H' = H) := by
  refine ACall.cold (es := 1) (by simp) ?_
  have hgr := fun H => grow_c (a.length + b.length) (by omega) H
  have hla := iS_length .i64 a
  have hlb := iS_length .i64 b
  refine ACall_of tt_ok (dok _) Try.func45 rfl (by decide) rfl ?_
  (repeat' ((conv => whnf); first | refine Then.mk ?_ | refine OpsA.cons ?_ | refine OpsA.nil ?_ | refine AWq.seq ?_ | refine AWq.region ?_ | refine AWq.cond ?_ | refine AWq.block ?_ | refine AWq.skip ?_ | refine AWq.ret ?_ | refine AWq.exit ?_ | refine AWq.loop ?_ | (refine Both.mk ?_ ?_ <;> intro hc <;> (first | exact Bool.noConfusion hc | exact absurd hc (by assumption) | (exfalso; omega) | skip)) | (intro c hc; (try (simp only [AH.none_iff] at hc; repeat (have hn := hc.1; replace hc := hc.2))); (first | (refine i64_k hc ?_ ?_ ?_ ; omega; omega; (clear hc; intro hc; subst hc)) | skip)) | (apply Exists.intro; apply And.intro; (first | (focus (repeat (first | (with_reducible assumption) | (with_reducible exact AH.set_same _ _ _))); done))) | (apply Exists.intro; apply And.intro; first | (with_reducible assumption) | ((try simp only [List.getElem?_drop, Nat.mul_one, Nat.add_zero, Nat.zero_add]); first | (with_reducible assumption) | rfl)) | (apply And.intro; (first | rfl | (with_reducible assumption) | exact Nat.le_of_ble_eq_true rfl | omega | (simp <;> omega) | (focus (repeat' (first | (with_reducible assumption) | exact one_iS _ _ | rfl)); done))))) <;> (try (conv => whnf))
  refine AWp_loop (σ := Nat × Nat) (3 :: 5 :: 11 :: 12 :: 13 :: 14 :: 15 :: 16 :: 17 :: 18 :: 19 :: 20 :: 21 :: 22 :: []) (fun s => [(11, .int .i64 s.1), (3, .int .i64 s.2)]) (fun s => H) (fun s => s.1 ≤ 2 ∧ s.2 = (if 0 < s.1 then a.length else 0) + (if 1 < s.1 then b.length else 0)) (fun s => 2 - s.1) (0, 0) rfl ⟨Nat.zero_le _, rfl⟩ ⟨rfl, rfl, trivial⟩ (HLe.refl _) ?_
  rintro ⟨i, s⟩ ⟨hi, hs⟩
  dsimp only at hi hs ⊢
  refine AWp.of tt_ok (dok _) rfl ?_
  rcases (show i = 0 ∨ i = 1 ∨ i = 2 by omega) with rfl | rfl | rfl
  · have hs : s = 0 := by simpa using hs
    subst hs
    (repeat' ((conv => whnf); first | refine Then.mk ?_ | refine OpsA.cons ?_ | refine OpsA.nil ?_ | refine AWq.seq ?_ | refine AWq.region ?_ | refine AWq.cond ?_ | refine AWq.block ?_ | refine AWq.skip ?_ | refine AWq.ret ?_ | refine AWq.exit ?_ | refine AWq.loop ?_ | (refine Both.mk ?_ ?_ <;> intro hc <;> (first | exact Bool.noConfusion hc | exact absurd hc (by assumption) | (exfalso; omega) | skip)) | (intro c hc; (try (simp only [AH.none_iff] at hc; repeat (have hn := hc.1; replace hc := hc.2))); (first | (refine i64_k hc ?_ ?_ ?_ ; omega; omega; (clear hc; intro hc; subst hc)) | skip)) | (apply Exists.intro; apply And.intro; (first | (focus (repeat (first | (with_reducible assumption) | (with_reducible exact AH.set_same _ _ _))); done))) | (apply Exists.intro; apply And.intro; first | (with_reducible assumption) | ((try simp only [List.getElem?_drop, Nat.mul_one, Nat.add_zero, Nat.zero_add]); first | (with_reducible assumption) | rfl)) | (apply And.intro; (first | rfl | (with_reducible assumption) | exact Nat.le_of_ble_eq_true rfl | omega | (simp <;> omega) | (focus (repeat' (first | (with_reducible assumption) | exact one_iS _ _ | rfl)); done))))) <;> (try (conv => whnf))
    exact ⟨(1, a.length), ⟨by show 1 ≤ 2; decide, by simp⟩, by show 2 - 1 < 2 - 0; decide, ⟨rfl, congrArg (AV.int .i64) (by dsimp only; omega), trivial⟩, HLe.refl _⟩
  · have hs : s = a.length := by simpa using hs
    (repeat' ((conv => whnf); first | refine Then.mk ?_ | refine OpsA.cons ?_ | refine OpsA.nil ?_ | refine AWq.seq ?_ | refine AWq.region ?_ | refine AWq.cond ?_ | refine AWq.block ?_ | refine AWq.skip ?_ | refine AWq.ret ?_ | refine AWq.exit ?_ | refine AWq.loop ?_ | (refine Both.mk ?_ ?_ <;> intro hc <;> (first | exact Bool.noConfusion hc | exact absurd hc (by assumption) | (exfalso; omega) | skip)) | (intro c hc; (try (simp only [AH.none_iff] at hc; repeat (have hn := hc.1; replace hc := hc.2))); (first | (refine i64_k hc ?_ ?_ ?_ ; omega; omega; (clear hc; intro hc; subst hc)) | skip)) | (apply Exists.intro; apply And.intro; (first | (focus (repeat (first | (with_reducible assumption) | (with_reducible exact AH.set_same _ _ _))); done))) | (apply Exists.intro; apply And.intro; first | (with_reducible assumption) | ((try simp only [List.getElem?_drop, Nat.mul_one, Nat.add_zero, Nat.zero_add]); first | (with_reducible assumption) | rfl)) | (apply And.intro; (first | rfl | (with_reducible assumption) | exact Nat.le_of_ble_eq_true rfl | omega | (simp <;> omega) | (focus (repeat' (first | (with_reducible assumption) | exact one_iS _ _ | rfl)); done))))) <;> (try (conv => whnf))
    exact ⟨(2, a.length + b.length), ⟨by show 2 ≤ 2; decide, by simp⟩, by show 2 - 2 < 2 - 1; decide, ⟨rfl, congrArg (AV.int .i64) (by dsimp only; omega), trivial⟩, HLe.refl _⟩
  · have hs : s = a.length + b.length := by simpa using hs
    subst hs
    (repeat' ((conv => whnf); first | refine Then.mk ?_ | refine OpsA.cons ?_ | refine OpsA.nil ?_ | refine AWq.seq ?_ | refine AWq.region ?_ | refine AWq.cond ?_ | refine AWq.block ?_ | refine AWq.skip ?_ | refine AWq.ret ?_ | refine AWq.exit ?_ | refine AWq.loop ?_ | (refine Both.mk ?_ ?_ <;> intro hc <;> (first | exact Bool.noConfusion hc | exact absurd hc (by assumption) | (exfalso; omega) | skip)) | (intro c hc; (try (simp only [AH.none_iff] at hc; repeat (have hn := hc.1; replace hc := hc.2))); (first | (refine i64_k hc ?_ ?_ ?_ ; omega; omega; (clear hc; intro hc; subst hc)) | skip)) | (apply Exists.intro; apply And.intro; (first | (focus (repeat (first | (with_reducible assumption) | (with_reducible exact AH.set_same _ _ _))); done))) | (apply Exists.intro; apply And.intro; first | (with_reducible assumption) | ((try simp only [List.getElem?_drop, Nat.mul_one, Nat.add_zero, Nat.zero_add]); first | (with_reducible assumption) | rfl)) | (apply And.intro; (first | rfl | (with_reducible assumption) | exact Nat.le_of_ble_eq_true rfl | omega | (simp <;> omega) | (focus (repeat' (first | (with_reducible assumption) | exact one_iS _ _ | rfl)); done))))) <;> (try (conv => whnf))
    refine (hgr _).mono ?_
    rintro y H' ⟨r, hr, v, rfl, rfl⟩
    (repeat' ((conv => whnf); first | refine Then.mk ?_ | refine OpsA.cons ?_ | refine OpsA.nil ?_ | refine AWq.seq ?_ | refine AWq.region ?_ | refine AWq.cond ?_ | refine AWq.block ?_ | refine AWq.skip ?_ | refine AWq.ret ?_ | refine AWq.exit ?_ | refine AWq.loop ?_ | (refine Both.mk ?_ ?_ <;> intro hc <;> (first | exact Bool.noConfusion hc | exact absurd hc (by assumption) | (exfalso; omega) | skip)) | (intro c hc; (try (simp only [AH.none_iff] at hc; repeat (have hn := hc.1; replace hc := hc.2))); (first | (refine i64_k hc ?_ ?_ ?_ ; omega; omega; (clear hc; intro hc; subst hc)) | skip)) | (apply Exists.intro; apply And.intro; (first | (focus (repeat (first | (with_reducible assumption) | (with_reducible exact AH.set_same _ _ _))); done))) | (apply Exists.intro; apply And.intro; first | (with_reducible assumption) | ((try simp only [List.getElem?_drop, Nat.mul_one, Nat.add_zero, Nat.zero_add]); first | (with_reducible assumption) | rfl)) | (apply And.intro; (first | rfl | (with_reducible assumption) | exact Nat.le_of_ble_eq_true rfl | omega | (simp <;> omega) | (focus (repeat' (first | (with_reducible assumption) | exact one_iS _ _ | rfl)); done))))) <;> (try (conv => whnf))
    refine AWp_loop (σ := Nat × List Int) (6 :: 8 :: 27 :: 28 :: 29 :: 30 :: 31 :: 32 :: 33 :: 34 :: []) (fun s => [(27, .int .i64 s.1), (6, .sl r (v + s.1) 1 0 s.2.length none)]) (fun s => H.set r (.row (iS .i64 s.2) (v + s.1))) (fun s => s.1 ≤ 2 ∧ s.2 = (if 0 < s.1 then a else []) ++ if 1 < s.1 then b else []) (fun s => 2 - s.1) (0, []) rfl ⟨Nat.zero_le _, rfl⟩ ⟨rfl, rfl, trivial⟩ (HLe.refl _) ?_
    rintro ⟨i, s⟩ ⟨hi, hs⟩
    dsimp only at hi hs ⊢
    refine AWp.of tt_ok (dok _) rfl ?_
    rcases (show i = 0 ∨ i = 1 ∨ i = 2 by omega) with rfl | rfl | rfl
    · have hs : s = [] := by simpa using hs
      subst hs
      (repeat' ((conv => whnf); first | refine Then.mk ?_ | refine OpsA.cons ?_ | refine OpsA.nil ?_ | refine AWq.seq ?_ | refine AWq.region ?_ | refine AWq.cond ?_ | refine AWq.block ?_ | refine AWq.skip ?_ | refine AWq.ret ?_ | refine AWq.exit ?_ | refine AWq.loop ?_ | (refine Both.mk ?_ ?_ <;> intro hc <;> (first | exact Bool.noConfusion hc | exact absurd hc (by assumption) | (exfalso; omega) | skip)) | (intro c hc; (try (simp only [AH.none_iff] at hc; repeat (have hn := hc.1; replace hc := hc.2))); (first | (refine i64_k hc ?_ ?_ ?_ ; omega; omega; (clear hc; intro hc; subst hc)) | skip)) | (apply Exists.intro; apply And.intro; (first | (focus (repeat (first | (with_reducible assumption) | (with_reducible exact AH.set_same _ _ _))); done))) | (apply Exists.intro; apply And.intro; first | (with_reducible assumption) | ((try simp only [List.getElem?_drop, Nat.mul_one, Nat.add_zero, Nat.zero_add]); first | (with_reducible assumption) | rfl)) | (apply And.intro; (first | rfl | (with_reducible assumption) | exact Nat.le_of_ble_eq_true rfl | omega | (simp <;> omega) | (focus (repeat' (first | (with_reducible assumption) | exact one_iS _ _ | rfl)); done))))) <;> (try (conv => whnf))
      refine ⟨(1, a), ⟨by show 1 ≤ 2; decide, by simp⟩, by show 2 - 1 < 2 - 0; decide, ⟨rfl, ?_, trivial⟩, ?_⟩
      · show AV.sl r (v + 0 + 1) 1 0 (0 + a.length) none = .sl r (v + 1) 1 0 a.length none
        rw [Nat.zero_add]
      · exact HLe.of_eq (AH.set_set _ _ _ _).symm
    · have hs : a = s := by simpa using hs.symm
      subst hs
      (repeat' ((conv => whnf); first | refine Then.mk ?_ | refine OpsA.cons ?_ | refine OpsA.nil ?_ | refine AWq.seq ?_ | refine AWq.region ?_ | refine AWq.cond ?_ | refine AWq.block ?_ | refine AWq.skip ?_ | refine AWq.ret ?_ | refine AWq.exit ?_ | refine AWq.loop ?_ | (refine Both.mk ?_ ?_ <;> intro hc <;> (first | exact Bool.noConfusion hc | exact absurd hc (by assumption) | (exfalso; omega) | skip)) | (intro c hc; (try (simp only [AH.none_iff] at hc; repeat (have hn := hc.1; replace hc := hc.2))); (first | (refine i64_k hc ?_ ?_ ?_ ; omega; omega; (clear hc; intro hc; subst hc)) | skip)) | (apply Exists.intro; apply And.intro; (first | (focus (repeat (first | (with_reducible assumption) | (with_reducible exact AH.set_same _ _ _))); done))) | (apply Exists.intro; apply And.intro; first | (with_reducible assumption) | ((try simp only [List.getElem?_drop, Nat.mul_one, Nat.add_zero, Nat.zero_add]); first | (with_reducible assumption) | rfl)) | (apply And.intro; (first | rfl | (with_reducible assumption) | exact Nat.le_of_ble_eq_true rfl | omega | (simp <;> omega) | (focus (repeat' (first | (with_reducible assumption) | exact one_iS _ _ | rfl)); done))))) <;> (try (conv => whnf))
      refine ⟨(2, a ++ b), ⟨by show 2 ≤ 2; decide, by simp⟩, by show 2 - 2 < 2 - 1; decide, ⟨rfl, ?_, trivial⟩, ?_⟩
      · show AV.sl r (v + 1 + 1) 1 0 (a.length + b.length) none = .sl r (v + 2) 1 0 (a ++ b).length none
        rw [List.length_append]
      · dsimp only
        rw [← iS_append]
        exact HLe.of_eq (AH.set_set _ _ _ _).symm
    · have hs : s = a ++ b := by simpa using hs
      subst hs
      (repeat' ((conv => whnf); first | refine Then.mk ?_ | refine OpsA.cons ?_ | refine OpsA.nil ?_ | refine AWq.seq ?_ | refine AWq.region ?_ | refine AWq.cond ?_ | refine AWq.block ?_ | refine AWq.skip ?_ | refine AWq.ret ?_ | refine AWq.exit ?_ | refine AWq.loop ?_ | (refine Both.mk ?_ ?_ <;> intro hc <;> (first | exact Bool.noConfusion hc | exact absurd hc (by assumption) | (exfalso; omega) | skip)) | (intro c hc; (try (simp only [AH.none_iff] at hc; repeat (have hn := hc.1; replace hc := hc.2))); (first | (refine i64_k hc ?_ ?_ ?_ ; omega; omega; (clear hc; intro hc; subst hc)) | skip)) | (apply Exists.intro; apply And.intro; (first | (focus (repeat (first | (with_reducible assumption) | (with_reducible exact AH.set_same _ _ _))); done))) | (apply Exists.intro; apply And.intro; first | (with_reducible assumption) | ((try simp only [List.getElem?_drop, Nat.mul_one, Nat.add_zero, Nat.zero_add]); first | (with_reducible assumption) | rfl)) | (apply And.intro; (first | rfl | (with_reducible assumption) | exact Nat.le_of_ble_eq_true rfl | omega | (simp <;> omega) | (focus (repeat' (first | (with_reducible assumption) | exact one_iS _ _ | rfl)); done))))) <;> (try (conv => whnf))

/-- The flows are set. -/
def setFl : List Ac → List Int → List Ac
  | [], _ => []
  | x :: A, [] => x :: A
  | x :: A, f :: L => ⟨x.a, x.b, x.d, x.w, f⟩ :: setFl A L
theorem setFl_nil : ∀ A, setFl A [] = A
  | [] => rfl
  | x :: A => rfl
theorem setFl_len : ∀ A L, (setFl A L).length = A.length
  | [], _ => rfl
  | x :: A, [] => rfl
  | x :: A, f :: L => by simp [setFl, setFl_len A L]
theorem setFl_get : ∀ (A : List Ac) (L : List Int) (i : Nat), L.length ≤ i → (setFl A L)[i]? = A[i]?
  | [], _, _, _ => rfl
  | x :: A, [], _, _ => rfl
  | x :: A, f :: L, 0, h => by simp at h
  | x :: A, f :: L, i + 1, h => by simp only [setFl, List.getElem?_cons_succ]; exact setFl_get A L i (by simpa using h)
theorem setFl_snoc : ∀ (A : List Ac) (L : List Int) (x : Ac) (f : Int), A[L.length]? = some x → setFl A (L ++ [f]) = (setFl A L).set L.length ⟨x.a, x.b, x.d, x.w, f⟩
  | [], L, x, f, h => by simp at h
  | y :: A, [], x, f, h => by simp at h; subst h; simp [setFl, setFl_nil]
  | y :: A, g :: L, x, f, h => by
    simp only [List.cons_append, setFl, List.length_cons, List.set_cons_succ]
    rw [setFl_snoc A L x f (by simpa using h)]
/-- What the flows are worth. -/
def valF : List Ac → List Int → Int
  | x :: A, f :: L => -(f * x.d) + valF A L
  | _, _ => 0
theorem valF_snoc : ∀ (A : List Ac) (L : List Int) (x : Ac) (f : Int), A[L.length]? = some x → valF A (L ++ [f]) = valF A L - f * x.d
  | [], L, x, f, h => by simp at h
  | y :: A, [], x, f, h => by simp at h; subst h; cases A <;> simp [valF]
  | y :: A, g :: L, x, f, h => by
    simp only [List.cons_append, valF]
    rw [valF_snoc A L x f (by simpa using h)]
    omega
def inW (x : Ac) (f : Int) : Prop := -x.w ≤ f ∧ f ≤ x.w
instance (x : Ac) (f : Int) : Decidable (inW x f) := by unfold inW; exact inferInstance
def allW (A : List Ac) (L : List Int) : Prop := ∀ i x, A[i]? = some x → i < L.length → inW x (L.getD i 0)
theorem valF_bd : ∀ (A : List Ac) (L : List Int), (∀ x ∈ A, (-65535 ≤ x.d ∧ x.d ≤ 65535) ∧ x.w ≤ 65536) → allW A L → -(4294967296 * (L.length : Int)) ≤ valF A L ∧ valF A L ≤ 4294967296 * (L.length : Int)
  | [], L, _, _ => by simp only [valF]; omega
  | x :: A, [], _, _ => by simp [valF]
  | x :: A, f :: L, h, hw => by
    have ih := valF_bd A L (fun y hy => h y (by simp [hy])) (fun i y hy hi => by
      have := hw (i + 1) y (by simpa using hy) (by simpa using hi)
      simpa using this)
    have h1 := hw 0 x rfl (by simp)
    have h2 := h x (by simp)
    have h1 : -x.w ≤ f ∧ f ≤ x.w := h1
    have key : -4294967296 ≤ f * x.d ∧ f * x.d ≤ 4294967296 := by
      have a1 : (65536 - f) * (65535 - x.d) ≥ 0 := Int.mul_nonneg (by omega) (by omega)
      have a2 : (65536 + f) * (65535 + x.d) ≥ 0 := Int.mul_nonneg (by omega) (by omega)
      have a3 : (65536 - f) * (65535 + x.d) ≥ 0 := Int.mul_nonneg (by omega) (by omega)
      have a4 : (65536 + f) * (65535 - x.d) ≥ 0 := Int.mul_nonneg (by omega) (by omega)
      simp only [Int.sub_mul, Int.add_mul, Int.mul_sub, Int.mul_add] at a1 a2 a3 a4
      omega
    simp only [valF, List.length_cons]
    omega
end Go.Proofs.Ytebflkgpbbjhnaa
/- The walks of balance: a row of one number. -/
namespace Go.Proofs.Ytebflkgpbbjhnaa
open Go.Fw Go
set_option linter.unusedVariables false
set_option linter.unusedSimpArgs false

theorem wrap_u64b (x : Int) : IntKind.u64.wrap x = x % 18446744073709551616 := rfl
set_option maxRecDepth 8000 in
theorem Mul64_c (n : Nat) (h : n ≤ 4294967295) (H : AH) : ACall Try.prog 97 [.int .u64 1, .int .u64 n] H (fun y H' => y = .tup [.int .u64 0, .int .u64 n] ∧ H' = H) := by
  have e0 : (2 : Int) ^ min (Int.toNat 32) IntKind.u64.bits = 4294967296 := by decide
  have e1 : (n : Int).fdiv 4294967296 = 0 := by rw [Int.fdiv_eq_ediv_of_nonneg _ (by omega)]; omega
  have e2 : bitsA .and .u64 (n : Int) 4294967295 = n := by
    show IntKind.u64.wrap ((BitVec.ofInt 64 (n : Int) &&& BitVec.ofInt 64 4294967295).toNat : Int) = _
    have ha : (BitVec.ofInt 64 (n : Int)).toNat = n := by rw [BitVec.toNat_ofInt]; omega
    have hb : (BitVec.ofInt 64 4294967295).toNat = 2 ^ 32 - 1 := by decide
    rw [BitVec.toNat_and, ha, hb, Nat.and_two_pow_sub_one_eq_mod, wrap_u64b]
    omega
  have e3 : bitsA .and .u64 1 4294967295 = 1 := by decide
  have e4 : Int.fdiv 1 4294967296 = 0 := by decide
  have e5 : IntKind.u64.wrap (n : Int) = n := by rw [wrap_u64b]; omega
  have e6 : bitsA .and .u64 0 4294967295 = 0 := by decide
  have e7 : IntKind.u64.wrap 0 = 0 := by decide
  have e8 : Int.fdiv 0 4294967296 = 0 := by decide
  refine ACall_of tt_ok (dok _) Try.func97 rfl (by decide) rfl ?_
  (repeat' ((conv => whnf); first | refine Then.mk ?_ | refine OpsA.cons ?_ | refine OpsA.nil ?_ | refine AWq.seq ?_ | refine AWq.region ?_ | refine AWq.ret ?_ | (intro c hc; (try (simp only [AH.none_iff] at hc; repeat (have hn := hc.1; replace hc := hc.2))); (first | (have hc2 := Eq.trans hc (by with_reducible assumption); clear hc; subst hc2) | (refine u64_k hc ?_ ?_ ?_ ; omega; omega; (clear hc; intro hc; subst hc)) | subst hc)) | (apply And.intro; (first | rfl | omega)))) <;> (try (conv => whnf))
  refine ⟨?_, rfl⟩
  simp only [e0, e1, e2, e3, e4, e5, e6, e7, e8, Int.zero_mul, Int.one_mul, Int.mul_zero, Int.add_zero]
set_option maxRecDepth 8000 in
theorem Mul_c (n : Nat) (h : n ≤ 4294967295) (H : AH) : ACall Try.prog 83 [.int .u64 1, .int .u64 n] H (fun y H' => y = .tup [.int .u64 0, .int .u64 n] ∧ H' = H) := by
  have hm := fun H => Mul64_c n h H
  refine ACall_of tt_ok (dok _) Try.func83 rfl (by decide) rfl ?_
  (repeat' ((conv => whnf); first | refine Then.mk ?_ | refine OpsA.cons ?_ | refine OpsA.nil ?_ | refine AWq.seq ?_ | refine AWq.region ?_ | refine AWq.cond ?_ | refine AWq.skip ?_ | refine AWq.ret ?_ | (refine Both.mk ?_ ?_ <;> intro hc <;> (first | exact Bool.noConfusion hc | skip)) | (apply And.intro; (first | rfl)) | (refine ACall.to (hm _) ?_))) <;> (try (conv => whnf))

theorem dL_takeN {n m : Nat} (X : Nat → Int) (h : m ≤ n) : (dL n X).take m = dL m X := by
  apply List.ext_getElem?
  intro i
  rw [List.getElem?_take]
  by_cases hi : i < m
  · rw [if_pos hi, dL_get X (by omega), dL_get X hi]
  · rw [if_neg hi, List.getElem?_eq_none (by rw [dL_len]; omega)]
theorem dL_drop {n m : Nat} (X : Nat → Int) : (dL n X).drop m = dL (n - m) (fun k => X (m + k)) := by
  apply List.ext_getElem?
  intro i
  rw [List.getElem?_drop]
  by_cases hi : m + i < n
  · rw [dL_get X hi, dL_get _ (by omega)]
  · rw [List.getElem?_eq_none (by rw [dL_len]; omega), List.getElem?_eq_none (by rw [dL_len]; omega)]
theorem dL_app {n m : Nat} (X Y : Nat → Int) : dL n X ++ dL m Y = dL (n + m) (fun k => if k < n then X k else Y (k - n)) := by
  apply List.ext_getElem?
  intro i
  by_cases hi : i < n
  · rw [List.getElem?_append_left (by rw [dL_len]; exact hi), dL_get _ hi, dL_get _ (by omega), if_pos hi]
  · rw [List.getElem?_append_right (by rw [dL_len]; omega), dL_len]
    by_cases h2 : i < n + m
    · rw [dL_get _ (by omega), dL_get _ h2, if_neg hi]
    · rw [List.getElem?_eq_none (by rw [dL_len]; omega), List.getElem?_eq_none (by rw [dL_len]; omega)]
theorem dL_wrs {n m c : Nat} (X Y : Nat → Int) (h : c + m ≤ n) : wrA (dL n X) c (dL m Y) = dL n (fun k => if c ≤ k ∧ k < c + m then Y (k - c) else X k) := by
  unfold wrA
  rw [dL_takeN X (by omega), dL_len, dL_drop, dL_app, dL_app, show c + m + (n - (c + m)) = n by omega]
  refine dL_congr fun k hk => ?_
  by_cases h1 : k < c
  · rw [if_pos (by omega), if_pos h1, if_neg (by omega)]
  · by_cases h2 : k < c + m
    · rw [if_pos h2, if_neg h1, if_pos (by omega)]
    · rw [if_neg h2, if_neg (by omega)]
      congr 1; omega

set_option maxRecDepth 8000 in
theorem Repeat_c (z : Int) (n : Nat) (h1 : 1 ≤ n) (h2 : n ≤ 1000000) (H : AH) :
    ACall Try.prog 68 [.cs [.int .i64 z] 1, .int .i64 n] H (fun y H' => ∃ q, H q = none ∧ y = .sl q 0 1 0 n none ∧ H' = H.set q (.row (dL n fun _ => z) 0)) := by
  have hm := fun H => Mul_c n (by omega) H
  refine ACall_of tt_ok (dok _) Try.func68 rfl (by decide) rfl ?_
  (repeat' ((conv => whnf); first | refine Then.mk ?_ | refine OpsA.cons ?_ | refine OpsA.nil ?_ | refine AWq.seq ?_ | refine AWq.region ?_ | refine AWq.cond ?_ | refine AWq.block ?_ | refine AWq.skip ?_ | refine AWq.ret ?_ | refine AWq.exit ?_ | refine AWq.loop ?_ | refine DrawA.consD ?_ | refine DrawA.nil ?_ | (refine Both.mk ?_ ?_ <;> intro hc <;> (first | exact Bool.noConfusion hc | (exfalso; omega) | skip)) | (intro c hc; (try (simp only [AH.none_iff] at hc; repeat (have hn := hc.1; replace hc := hc.2))); (first | (refine i64_k hc ?_ ?_ ?_ ; omega; omega; (clear hc; intro hc; subst hc)) | (refine u64_k hc ?_ ?_ ?_ ; omega; omega; (clear hc; intro hc; subst hc)) | skip)) | (apply Exists.intro; apply And.intro; (focus (repeat (first | assumption | exact AH.set_same _ _ _)); done)) | (apply And.intro; (first | rfl | omega | assumption | (simp <;> fail) | (focus (repeat' (first | exact one_iS _ _ | rfl | apply one_take)); done))) | (refine ACall.to (hm _) ?_))) <;> (try (conv => whnf))
  refine AWp_loop (σ := Nat) (8 :: 34 :: 35 :: 36 :: 37 :: 38 :: 39 :: 40 :: 41 :: 42 :: 43 :: 44 :: 45 :: 46 :: []) (fun m => [(8, .int .i64 m)]) (fun m => AH.set H c (.row (dL n fun k => if k < m then z else 0) 0)) (fun m => 1 ≤ m ∧ m ≤ n) (fun m => n - m) 1 rfl ?_ ?_ ?_ ?_
  · exact ⟨Nat.le_refl _, h1⟩
  · refine ⟨?_, trivial⟩
    have : Nat.min 1 n = 1 := Nat.min_eq_left h1
    show AV.int .i64 (Nat.min 1 n : Nat) = _
    rw [this]
  · refine HLe.of_eq (Eq.symm ((AH.set_set _ _ _ _).trans (congrArg (fun l => AH.set H c (.row l 0)) ?_)))
    show wrA ((List.replicate n [AV.int .i64 0]).flatten) 0 (List.take (Nat.min 1 n * 1) (dL 1 fun _ => z)) = _
    rw [show Nat.min 1 n = 1 from Nat.min_eq_left h1, dL_zero, dL_takeN _ (by omega), dL_wrs _ _ (by omega)]
    refine dL_congr fun k hk => ?_
    by_cases h : k < 1 <;> simp [h]
  · rintro m ⟨hm1, hm2⟩
    refine AWp.of tt_ok (dok _) rfl ?_
    have li := dL_len n (fun k => if k < m then z else 0)
    by_cases hmn : m < n
    · (repeat' ((conv => whnf); first | refine AWq.drawM ([45], []) (by decide +kernel) ?_ | refine Then.mk ?_ | refine OpsA.cons ?_ | refine OpsA.nil ?_ | refine AWq.seq ?_ | refine AWq.region ?_ | refine AWq.cond ?_ | refine AWq.block ?_ | refine AWq.skip ?_ | refine AWq.ret ?_ | refine AWq.exit ?_ | refine AWq.loop ?_ | refine DrawA.consD ?_ | refine DrawA.nil ?_ | (refine Both.mk ?_ ?_ <;> intro hc <;> (first | exact Bool.noConfusion hc | (exfalso; omega) | skip)) | (intro c hc; (try (simp only [AH.none_iff] at hc; repeat (have hn := hc.1; replace hc := hc.2))); (first | (refine i64_k hc ?_ ?_ ?_ ; omega; omega; (clear hc; intro hc; subst hc)) | (refine u64_k hc ?_ ?_ ?_ ; omega; omega; (clear hc; intro hc; subst hc)) | skip)) | (apply Exists.intro; apply And.intro; (focus (repeat (first | assumption | exact AH.set_same _ _ _)); done)) | (apply And.intro; (first | rfl | omega | assumption | (simp <;> fail) | (focus (repeat' (first | exact one_iS _ _ | rfl | apply one_take)); done))) | (refine ACall.to (hm _) ?_))) <;> (try (conv => whnf))
      refine ⟨.int .i64 (min m (n - m) : Nat), AH.set H c (.row (dL n fun k => if k < m + min m (n - m) then z else 0) 0), ?_, ?_⟩
      · (repeat' ((conv => whnf); first | refine Then.mk ?_ | refine OpsA.cons ?_ | refine OpsA.nil ?_ | refine AWq.seq ?_ | refine AWq.region ?_ | refine AWq.cond ?_ | refine AWq.block ?_ | refine AWq.skip ?_ | refine AWq.ret ?_ | refine AWq.exit ?_ | refine AWq.loop ?_ | refine DrawA.consD ?_ | refine DrawA.nil ?_ | (refine Both.mk ?_ ?_ <;> intro hc <;> (first | exact Bool.noConfusion hc | (exfalso; omega) | skip)) | (intro c hc; (try (simp only [AH.none_iff] at hc; repeat (have hn := hc.1; replace hc := hc.2))); (first | (refine i64_k hc ?_ ?_ ?_ ; omega; omega; (clear hc; intro hc; subst hc)) | (refine u64_k hc ?_ ?_ ?_ ; omega; omega; (clear hc; intro hc; subst hc)) | skip)) | (apply Exists.intro; apply And.intro; (focus (repeat (first | assumption | exact AH.set_same _ _ _)); done)) | (apply And.intro; (first | rfl | omega | assumption | (simp <;> fail) | (focus (repeat' (first | exact one_iS _ _ | rfl | apply one_take)); done))))) <;> (try (conv => whnf))
        refine (AH.set_set _ _ _ _).trans (congrArg (fun l => AH.set H c (.row l 0)) ?_)
        have e1 : Nat.min m (n - m) = min m (n - m) := rfl
        rw [Int.toNat_natCast, Int.toNat_natCast, e1, List.drop_zero, Nat.mul_one, Nat.mul_one, dL_takeN _ hm2, dL_takeN _ (by omega), Nat.zero_add, dL_wrs _ _ (by omega)]
        refine dL_congr fun k hk => ?_
        split <;> split <;> first | rfl | omega | (split <;> first | rfl | omega)
      · (repeat' ((conv => whnf); first | refine Then.mk ?_ | refine OpsA.cons ?_ | refine OpsA.nil ?_ | refine AWq.seq ?_ | refine AWq.region ?_ | refine AWq.cond ?_ | refine AWq.block ?_ | refine AWq.skip ?_ | refine AWq.ret ?_ | refine AWq.exit ?_ | refine AWq.loop ?_ | refine DrawA.consD ?_ | refine DrawA.nil ?_ | (refine Both.mk ?_ ?_ <;> intro hc <;> (first | exact Bool.noConfusion hc | (exfalso; omega) | skip)) | (intro c hc; (try (simp only [AH.none_iff] at hc; repeat (have hn := hc.1; replace hc := hc.2))); (first | (refine i64_k hc ?_ ?_ ?_ ; omega; omega; (clear hc; intro hc; subst hc)) | (refine u64_k hc ?_ ?_ ?_ ; omega; omega; (clear hc; intro hc; subst hc)) | skip)) | (apply Exists.intro; apply And.intro; (focus (repeat (first | assumption | exact AH.set_same _ _ _)); done)) | (apply And.intro; (first | rfl | omega | assumption | (simp <;> fail) | (focus (repeat' (first | exact one_iS _ _ | rfl | apply one_take)); done))))) <;> (try (conv => whnf))
        exact ⟨m + min m (n - m), by omega, by omega, ⟨congrArg (AV.int .i64) (by omega), trivial⟩, HLe.refl _⟩
    · have hme : m = n := by omega
      (repeat' ((conv => whnf); first | refine Then.mk ?_ | refine OpsA.cons ?_ | refine OpsA.nil ?_ | refine AWq.seq ?_ | refine AWq.region ?_ | refine AWq.cond ?_ | refine AWq.block ?_ | refine AWq.skip ?_ | refine AWq.ret ?_ | refine AWq.exit ?_ | refine AWq.loop ?_ | refine DrawA.consD ?_ | refine DrawA.nil ?_ | (refine Both.mk ?_ ?_ <;> intro hc <;> (first | exact Bool.noConfusion hc | (exfalso; omega) | skip)) | (intro c hc; (try (simp only [AH.none_iff] at hc; repeat (have hn := hc.1; replace hc := hc.2))); (first | (refine i64_k hc ?_ ?_ ?_ ; omega; omega; (clear hc; intro hc; subst hc)) | (refine u64_k hc ?_ ?_ ?_ ; omega; omega; (clear hc; intro hc; subst hc)) | skip)) | (apply Exists.intro; apply And.intro; (focus (repeat (first | assumption | exact AH.set_same _ _ _)); done)) | (apply And.intro; (first | rfl | omega | assumption | (simp <;> fail) | (focus (repeat' (first | exact one_iS _ _ | rfl | apply one_take)); done))))) <;> (try (conv => whnf))
      exact congrArg (fun l => AH.set H c (.row l 0)) (dL_congr fun k hk => by rw [if_pos (by omega)])

end Go.Proofs.Ytebflkgpbbjhnaa
/- The walks of balance: the way back. -/
namespace Go.Proofs.Ytebflkgpbbjhnaa
open Go.Fw Go
set_option linter.unusedVariables false
set_option linter.unusedSimpArgs false

set_option maxRecDepth 8000 in
theorem mv2_c (A : List Ac) (n i : Nat) (x : Ac) (hx : A[i]? = some x) (hok : AcOk n x) (up : Bool) (b : Int) (H : AH) (ra va cb vb : Nat) (ha : H ra = some (.row (acL A) va)) (hcb : H cb = some (.row [.int .i64 b] vb)) :
    ACall Try.prog 70 [.ptr ra va (0 + (i : Int).toNat * 5), .bool up, .ptr cb vb 0] H (fun y H' => y = .tup [] ∧ H' = H.set cb (.row [.int .i64 (min b (rsd x up))] vb)) := by
  obtain ⟨xa, xb, d1, d2, w1, w2, f1, f2⟩ := hok
  have hcl := acL_len A
  have hil : i < A.length := (List.getElem?_eq_some_iff.1 hx).1
  have g3 : (acL A)[(i : Int).toNat * 5 + 3]? = some (.int .i64 x.w) := acL_get hx 3 (by decide)
  have g4 : (acL A)[(i : Int).toNat * 5 + 4]? = some (.int .i64 x.f) := acL_get hx 4 (by decide)
  unfold rsd
  cases up with
  | true =>
    rw [if_pos rfl]
    refine ACall_of tt_ok (dok _) Try.func70 rfl (by decide) rfl ?_
    (repeat' ((conv => whnf); first | refine Then.mk ?_ | refine OpsA.cons ?_ | refine OpsA.nil ?_ | refine AWq.seq ?_ | refine AWq.region ?_ | refine AWq.cond ?_ | refine DrawA.consD ?_ | refine DrawA.nil ?_ | refine AWq.draw (by decide +kernel) ?_ | (refine Both.mk ?_ ?_ <;> intro hc <;> (first | exact Bool.noConfusion hc | skip)) | (intro c hc; (try (simp only [AH.none_iff] at hc; repeat (have hn := hc.1; replace hc := hc.2))); (first | (refine i64_k hc ?_ ?_ ?_ ; omega; omega; (clear hc; intro hc; subst hc)) | skip)) | (apply Exists.intro; apply And.intro; (focus (repeat (first | assumption)); done)) | (apply Exists.intro; apply And.intro; first | (with_reducible assumption) | ((try simp only [List.getElem?_drop, Nat.mul_one, Nat.add_zero, Nat.zero_add]); first | (with_reducible assumption) | assumption | rfl)) | (apply Exists.intro; apply And.intro; (focus ((conv => whnf); first | (intro c hc; subst hc; exact And.intro rfl rfl)))) | (apply And.intro; (first | rfl | (with_reducible assumption) | exact Nat.le_of_ble_eq_true rfl | assumption)))) <;> (try (conv => whnf))
    rfl
  | false =>
    rw [if_neg (by decide)]
    refine ACall_of tt_ok (dok _) Try.func70 rfl (by decide) rfl ?_
    (repeat' ((conv => whnf); first | refine Then.mk ?_ | refine OpsA.cons ?_ | refine OpsA.nil ?_ | refine AWq.seq ?_ | refine AWq.region ?_ | refine AWq.cond ?_ | refine DrawA.consD ?_ | refine DrawA.nil ?_ | refine AWq.draw (by decide +kernel) ?_ | (refine Both.mk ?_ ?_ <;> intro hc <;> (first | exact Bool.noConfusion hc | skip)) | (intro c hc; (try (simp only [AH.none_iff] at hc; repeat (have hn := hc.1; replace hc := hc.2))); (first | (refine i64_k hc ?_ ?_ ?_ ; omega; omega; (clear hc; intro hc; subst hc)) | skip)) | (apply Exists.intro; apply And.intro; (focus (repeat (first | assumption)); done)) | (apply Exists.intro; apply And.intro; first | (with_reducible assumption) | ((try simp only [List.getElem?_drop, Nat.mul_one, Nat.add_zero, Nat.zero_add]); first | (with_reducible assumption) | assumption | rfl)) | (apply Exists.intro; apply And.intro; (focus ((conv => whnf); first | (intro c hc; subst hc; exact And.intro rfl rfl)))) | (apply And.intro; (first | rfl | (with_reducible assumption) | exact Nat.le_of_ble_eq_true rfl | assumption)))) <;> (try (conv => whnf))
    rfl
theorem acL_wrZ {A : List Ac} {i : Nat} {x : Ac} (h : A[i]? = some x) (z : Int) : wrA (acL A) (0 + (i : Int).toNat * 5 + 4) [.int .i64 z] = acL (A.set i ⟨x.a, x.b, x.d, x.w, z⟩) := by
  rw [show 0 + (i : Int).toNat * 5 + 4 = i * 5 + 4 by omega]; exact acL_wrF h z
set_option maxRecDepth 8000 in
theorem mv3_c (A : List Ac) (n i : Nat) (x : Ac) (hx : A[i]? = some x) (hok : AcOk n x) (up : Bool) (b : Int) (hb : -1000000000000 ≤ b ∧ b ≤ 1000000000000) (H : AH) (ra va cb vb : Nat) (ha : H ra = some (.row (acL A) va)) (hcb : H cb = some (.row [.int .i64 b] vb)) :
    ACall Try.prog 71 [.ptr ra va (0 + (i : Int).toNat * 5), .bool up, .ptr cb vb 0] H (fun y H' => y = .tup [] ∧ H' = H.set ra (.row (acL (A.set i (addF x (sgn up b)))) va)) := by
  obtain ⟨xa, xb, d1, d2, w1, w2, f1, f2⟩ := hok
  have hcl := acL_len A
  have hil : i < A.length := (List.getElem?_eq_some_iff.1 hx).1
  have g4 : (acL A)[(i : Int).toNat * 5 + 4]? = some (.int .i64 x.f) := acL_get hx 4 (by decide)
  unfold sgn
  cases up with
  | true =>
    rw [if_pos rfl]
    refine ACall_of tt_ok (dok _) Try.func71 rfl (by decide) rfl ?_
    (repeat' ((conv => whnf); first | refine Then.mk ?_ | refine OpsA.cons ?_ | refine OpsA.nil ?_ | refine AWq.seq ?_ | refine AWq.region ?_ | refine AWq.cond ?_ | refine DrawA.consD ?_ | refine DrawA.nil ?_ | refine AWq.draw (by decide +kernel) ?_ | (refine Both.mk ?_ ?_ <;> intro hc <;> (first | exact Bool.noConfusion hc | skip)) | (intro c hc; (try (simp only [AH.none_iff] at hc; repeat (have hn := hc.1; replace hc := hc.2))); (first | (refine i64_k hc ?_ ?_ ?_ ; omega; omega; (clear hc; intro hc; subst hc)) | skip)) | (apply Exists.intro; apply And.intro; (focus (repeat (first | assumption)); done)) | (apply Exists.intro; apply And.intro; first | (with_reducible assumption) | ((try simp only [List.getElem?_drop, Nat.mul_one, Nat.add_zero, Nat.zero_add]); first | (with_reducible assumption) | assumption | rfl)) | (apply And.intro; (first | rfl | (with_reducible assumption) | assumption | (simp <;> omega))))) <;> (try (conv => whnf))
    exact congrArg (fun l => H.set ra (.row l va)) (acL_wrZ hx _)
  | false =>
    rw [if_neg (by decide)]
    refine ACall_of tt_ok (dok _) Try.func71 rfl (by decide) rfl ?_
    (repeat' ((conv => whnf); first | refine Then.mk ?_ | refine OpsA.cons ?_ | refine OpsA.nil ?_ | refine AWq.seq ?_ | refine AWq.region ?_ | refine AWq.cond ?_ | refine DrawA.consD ?_ | refine DrawA.nil ?_ | refine AWq.draw (by decide +kernel) ?_ | (refine Both.mk ?_ ?_ <;> intro hc <;> (first | exact Bool.noConfusion hc | skip)) | (intro c hc; (try (simp only [AH.none_iff] at hc; repeat (have hn := hc.1; replace hc := hc.2))); (first | (refine i64_k hc ?_ ?_ ?_ ; omega; omega; (clear hc; intro hc; subst hc)) | skip)) | (apply Exists.intro; apply And.intro; (focus (repeat (first | assumption)); done)) | (apply Exists.intro; apply And.intro; first | (with_reducible assumption) | ((try simp only [List.getElem?_drop, Nat.mul_one, Nat.add_zero, Nat.zero_add]); first | (with_reducible assumption) | assumption | rfl)) | (apply And.intro; (first | rfl | (with_reducible assumption) | assumption | (simp <;> omega))))) <;> (try (conv => whnf))
    exact congrArg (fun l => H.set ra (.row l va)) (acL_wrZ hx _)

theorem Alk.len {A B : List Ac} (h : Alk A B) : B.length = A.length := by
  rcases Nat.lt_trichotomy A.length B.length with hl | hl | hl
  · have := (h A.length).2 (List.getElem?_eq_none (Nat.le_refl _))
    rw [List.getElem?_eq_getElem hl] at this; cases this
  · exact hl.symm
  · obtain ⟨g, hg⟩ := (h B.length).1 _ (List.getElem?_eq_getElem hl)
    rw [List.getElem?_eq_none (Nat.le_refl _)] at hg; cases hg
/-- The way back along the steps, with something done at every arc. -/
def runW {S : Type} (Af : S → List Ac) (nx : S → Nat → Ac → Bool → S) (st : Nat → Nat × Bool) : Nat → Nat → S → S
  | 0, _, s => s
  | k + 1, v, s => match (Af s)[(st v).1]? with
    | some x => runW Af nx st k (tl x (st v).2) (nx s (st v).1 x (st v).2)
    | none => s
/-- What is known of memory on the way. -/
structure WkAt (H : AH) (n r to rs g ra len : Nat) (vg va : Nat) (lim : Option Nat) (A : List Ac) (st : Nat → Nat × Bool) (ct cf cs cg : Nat) : Prop where
  wt : H ct = some (.row [.int .i64 to] 0)
  wf : H cf = some (.row [.int .i64 r] 0)
  ws : H cs = some (.row [.sl rs 0 2 0 (n + 1) none] 0)
  wg : H cg = some (.row [.ptr g vg 0] 0)
  wrs : H rs = some (.row (stL (n + 1) st) 0)
  whg : H g = some (.row [.int .i64 n, .sl ra va 5 0 len lim] vg)
  wra : H ra = some (.row (acL A) va)
set_option maxRecDepth 8000 in
theorem walk_c {S : Type} (n : Nat) (hnn : n ≤ 100) (A0 : List Ac) (hA : ∀ x ∈ A0, AcOk n x) (hl : A0.length ≤ 100000) (st : Nat → Nat × Bool) (r : Nat) (Af : S → List Ac) (nx : S → Nat → Ac → Bool → S) (Hf : S → AH) (P : Nat → Nat → S → Prop) (gd cb vb rs g ra vg va : Nat) (lim : Option Nat) (to ct cf cs cg : Nat)
    (hW : ∀ s, WkAt (Hf s) n r to rs g ra A0.length vg va lim (Af s) st ct cf cs cg)
    (hstep : ∀ k v s x0, Chn A0 st r (k + 1) v → A0[(st v).1]? = some x0 → P (k + 1) v s → ∃ x, (Af s)[(st v).1]? = some x ∧
      ACall Try.prog gd [.ptr ra va (0 + ((st v).1 : Int).toNat * 5), .bool (st v).2, .ptr cb vb 0] (Hf s) (fun y H' => y = .tup [] ∧ H' = Hf (nx s (st v).1 x (st v).2)) ∧ P k (tl x0 (st v).2) (nx s (st v).1 x (st v).2) ∧
      (∃ x', (Af (nx s (st v).1 x (st v).2))[(st v).1]? = some x' ∧ x'.a = x0.a ∧ x'.b = x0.b) ∧ (Af (nx s (st v).1 x (st v).2)).length = A0.length ∧ x.a = x0.a ∧ x.b = x0.b)
    (k0 : Nat) (s0 : S) (hk0 : Chn A0 st r k0 to) (hto : to ≤ n) (hP : P k0 to s0) :
    ACall Try.prog 69 [.fn (.func gd) [] [.ptr cb vb 0], .ptr ct 0 0, .ptr cf 0 0, .ptr cs 0 0, .ptr cg 0 0] (Hf s0) (fun y H' => y = .tup [] ∧ H' = Hf (runW Af nx st k0 to s0)) := by
  have w0 := (hW s0).wt
  refine ACall_of tt_ok (dok _) Try.func69 rfl (by decide) rfl ?_
  (repeat' ((conv => whnf); first | refine Then.mk ?_ | refine OpsA.cons ?_ | refine OpsA.nil ?_ | refine AWq.seq ?_ | refine AWq.region ?_ | refine AWq.cond ?_ | refine AWq.block ?_ | refine AWq.skip ?_ | refine AWq.exit ?_ | refine AWq.loop ?_ | refine DrawA.consD ?_ | refine DrawA.nil ?_ | refine AWq.draw (by decide +kernel) ?_ | (refine Both.mk ?_ ?_ <;> intro hc <;> (first | exact Bool.noConfusion hc | exact absurd (by with_reducible rfl) hc | exact absurd (by assumption) hc | skip)) | (intro c hc; (try (simp only [AH.none_iff] at hc; repeat (have hn := hc.1; replace hc := hc.2))); (first | skip)) | (apply Exists.intro; apply And.intro; (focus (repeat (first | assumption | exact AH.set_same _ _ _)); done)) | (apply Exists.intro; apply And.intro; first | (with_reducible assumption) | ((try simp only [List.getElem?_drop, Nat.mul_one, Nat.add_zero, Nat.zero_add]); first | (with_reducible assumption) | assumption | rfl)) | (apply And.intro; (first | rfl | (with_reducible assumption) | exact Nat.le_of_ble_eq_true rfl | omega | assumption | (simp <;> omega) | (focus (repeat' (first | (with_reducible assumption) | rfl | apply one_take | apply one_drop)); done))))) <;> (try (conv => whnf))
  refine AWp_loop (σ := Nat × Nat × S) (6 :: 7 :: 8 :: 10 :: 11 :: 12 :: 13 :: 14 :: 15 :: 16 :: 17 :: 18 :: 19 :: 20 :: 21 :: 22 :: 23 :: 24 :: 25 :: 26 :: 27 :: 28 :: 29 :: 30 :: 31 :: 32 :: 33 :: 34 :: 35 :: 36 :: 37 :: 38 :: []) (fun z => [(6, .int .i64 z.2.1)]) (fun z => Hf z.2.2) (fun z => Chn A0 st r z.1 z.2.1 ∧ z.2.1 ≤ n ∧ P z.1 z.2.1 z.2.2 ∧ runW Af nx st z.1 z.2.1 z.2.2 = runW Af nx st k0 to s0) (fun z => z.1) (k0, to, s0) rfl ⟨hk0, hto, hP, rfl⟩ ⟨rfl, trivial⟩ (HLe.refl _) ?_
  rintro ⟨k, v, s⟩ ⟨hc, hv, hal, hrun⟩
  dsimp only at hc hv hal hrun ⊢
  refine AWp.of tt_ok (dok _) rfl ?_
  obtain ⟨wt, wf, ws, wg, wrs, whg, wra⟩ := hW s
  cases k with
  | zero =>
    have hvr : v = r := hc
    subst hvr
    (repeat' ((conv => whnf); first | refine Then.mk ?_ | refine OpsA.cons ?_ | refine OpsA.nil ?_ | refine AWq.seq ?_ | refine AWq.region ?_ | refine AWq.cond ?_ | refine AWq.block ?_ | refine AWq.skip ?_ | refine AWq.exit ?_ | refine AWq.loop ?_ | refine DrawA.consD ?_ | refine DrawA.nil ?_ | refine AWq.draw (by decide +kernel) ?_ | (refine Both.mk ?_ ?_ <;> intro hc <;> (first | exact Bool.noConfusion hc | exact absurd (by with_reducible rfl) hc | exact absurd (by assumption) hc | skip)) | (intro c hc; (try (simp only [AH.none_iff] at hc; repeat (have hn := hc.1; replace hc := hc.2))); (first | skip)) | (apply Exists.intro; apply And.intro; (focus (repeat (first | assumption | exact AH.set_same _ _ _)); done)) | (apply Exists.intro; apply And.intro; first | (with_reducible assumption) | ((try simp only [List.getElem?_drop, Nat.mul_one, Nat.add_zero, Nat.zero_add]); first | (with_reducible assumption) | assumption | rfl)) | (apply And.intro; (first | rfl | (with_reducible assumption) | exact Nat.le_of_ble_eq_true rfl | omega | assumption | (simp <;> omega) | (focus (repeat' (first | (with_reducible assumption) | rfl | apply one_take | apply one_drop)); done))))) <;> (try (conv => whnf))
    rw [← hrun]; rfl
  | succ k =>
    have hch := hc
    obtain ⟨hne, x0, h1, h2, h3, h4⟩ := hc
    have hne' : (v : Int) ≠ r := by omega
    have hil : (st v).1 < A0.length := (List.getElem?_eq_some_iff.1 h1).1
    have hok0 := hA x0 (List.mem_of_getElem? h1)
    have htl := tl_le hok0 (st v).2
    obtain ⟨x, hx1, hd1, hal2, ⟨x', hx2, ea, eb⟩, hAll, eax, ebx⟩ := hstep k v s x0 hch h1 hal
    have hrun2 : runW Af nx st (k + 1) v s = runW Af nx st k (tl x0 (st v).2) (nx s (st v).1 x (st v).2) := by
      show (match (Af s)[(st v).1]? with | some x => _ | none => _) = _
      rw [hx1]
      show runW Af nx st k (tl x (st v).2) _ = _
      have : tl x (st v).2 = tl x0 (st v).2 := by unfold tl; rw [eax, ebx]
      rw [this]
    rw [hrun2] at hrun
    have hseg := stL_segZ st (show v < n + 1 by omega)
    have hsl := stL_len (n + 1) st
    have hso := stL_one (n + 1) st
    have wra2 := (hW (nx s (st v).1 x (st v).2)).wra
    have ga := acL_get hx2 0 (by decide)
    have gb := acL_get hx2 1 (by decide)
    have hfa : (acA x')[0]? = some (.int .i64 x0.a) := by
      show some (AV.int .i64 (x'.a : Int)) = _; rw [ea]
    have hfb : (acA x')[1]? = some (.int .i64 x0.b) := by
      show some (AV.int .i64 (x'.b : Int)) = _; rw [eb]
    rw [hfa] at ga
    rw [hfb] at gb
    have hcl := acL_len (Af (nx s (st v).1 x (st v).2))
    generalize hS2 : nx s (st v).1 x (st v).2 = s2 at *
    generalize hp : st v = p at *
    obtain ⟨j, up⟩ := p
    (iterate 3 ((repeat' ((conv => whnf); first | refine OpsA.cons ?_ | refine OpsA.nil ?_ | refine AWq.seq ?_ | refine AWq.region ?_ | refine AWq.cond ?_ | refine AWq.block ?_ | refine AWq.skip ?_ | refine AWq.exit ?_ | refine AWq.loop ?_ | refine DrawA.consD ?_ | refine DrawA.nil ?_ | refine AWq.draw (by decide +kernel) ?_ | (refine Both.mk ?_ ?_ <;> intro hc <;> (first | exact Bool.noConfusion hc | exact absurd (by with_reducible rfl) hc | exact absurd (by assumption) hc | skip)) | (intro c hc; (try (simp only [AH.none_iff] at hc; repeat (have hn := hc.1; replace hc := hc.2))); (first | skip)) | (apply Exists.intro; apply And.intro; (focus (repeat (first | assumption | exact AH.set_same _ _ _)); done)) | (apply Exists.intro; apply And.intro; first | (with_reducible assumption) | ((try simp only [List.getElem?_drop, Nat.mul_one, Nat.add_zero, Nat.zero_add]); first | (with_reducible assumption) | assumption | rfl)) | (apply And.intro; (first | rfl | (with_reducible assumption) | exact Nat.le_of_ble_eq_true rfl | omega | assumption | (simp <;> omega) | (focus (repeat' (first | (with_reducible assumption) | rfl | apply one_take | apply one_drop)); done))))) <;> (try (conv => whnf)); refine Then.mk ?_))
    refine AWq.in ?_
    refine AWp_segP 7 (stA (j, up)) rfl rfl (by (first | assumption | (simp only [AH.none_iff]; (repeat' (first | assumption | (refine And.intro ?_ ?_)))))) hseg rfl ?_
    refine AWp.of tt_ok (dok _) rfl ?_
    cases up with
    | true =>
      (repeat' ((conv => whnf); first | refine Then.mk ?_ | refine OpsA.cons ?_ | refine OpsA.nil ?_ | refine AWq.seq ?_ | refine AWq.region ?_ | refine AWq.cond ?_ | refine AWq.block ?_ | refine AWq.skip ?_ | refine AWq.exit ?_ | refine AWq.loop ?_ | refine DrawA.consD ?_ | refine DrawA.nil ?_ | refine AWq.draw (by decide +kernel) ?_ | (refine Both.mk ?_ ?_ <;> intro hc <;> (first | exact Bool.noConfusion hc | exact absurd (by with_reducible rfl) hc | exact absurd (by assumption) hc | skip)) | (intro c hc; (try (simp only [AH.none_iff] at hc; repeat (have hn := hc.1; replace hc := hc.2))); (first | skip)) | (apply Exists.intro; apply And.intro; (focus (repeat (first | assumption | exact AH.set_same _ _ _)); done)) | (apply Exists.intro; apply And.intro; first | (with_reducible assumption) | ((try simp only [List.getElem?_drop, Nat.mul_one, Nat.add_zero, Nat.zero_add]); first | (with_reducible assumption) | assumption | rfl)) | (apply And.intro; (first | rfl | (with_reducible assumption) | exact Nat.le_of_ble_eq_true rfl | omega | assumption | (simp <;> omega) | (focus (repeat' (first | (with_reducible assumption) | rfl | apply one_take | apply one_drop)); done))) | (refine ACall.to (hd1) ?_))) <;> (try (conv => whnf))
      exact ⟨(k, tl x0 true, s2), ⟨h4, htl, hal2, hrun⟩, Nat.lt_succ_self k, ⟨rfl, trivial⟩, HLe.refl _⟩
    | false =>
      (repeat' ((conv => whnf); first | refine Then.mk ?_ | refine OpsA.cons ?_ | refine OpsA.nil ?_ | refine AWq.seq ?_ | refine AWq.region ?_ | refine AWq.cond ?_ | refine AWq.block ?_ | refine AWq.skip ?_ | refine AWq.exit ?_ | refine AWq.loop ?_ | refine DrawA.consD ?_ | refine DrawA.nil ?_ | refine AWq.draw (by decide +kernel) ?_ | (refine Both.mk ?_ ?_ <;> intro hc <;> (first | exact Bool.noConfusion hc | exact absurd (by with_reducible rfl) hc | exact absurd (by assumption) hc | skip)) | (intro c hc; (try (simp only [AH.none_iff] at hc; repeat (have hn := hc.1; replace hc := hc.2))); (first | skip)) | (apply Exists.intro; apply And.intro; (focus (repeat (first | assumption | exact AH.set_same _ _ _)); done)) | (apply Exists.intro; apply And.intro; first | (with_reducible assumption) | ((try simp only [List.getElem?_drop, Nat.mul_one, Nat.add_zero, Nat.zero_add]); first | (with_reducible assumption) | assumption | rfl)) | (apply And.intro; (first | rfl | (with_reducible assumption) | exact Nat.le_of_ble_eq_true rfl | omega | assumption | (simp <;> omega) | (focus (repeat' (first | (with_reducible assumption) | rfl | apply one_take | apply one_drop)); done))) | (refine ACall.to (hd1) ?_))) <;> (try (conv => whnf))
      exact ⟨(k, tl x0 false, s2), ⟨h4, htl, hal2, hrun⟩, Nat.lt_succ_self k, ⟨rfl, trivial⟩, HLe.refl _⟩
/-- Flow is moved through one arc. -/
structure MvP (n : Nat) (A0 : List Ac) (s : Nat → Nat × Bool) (r : Nat) (z : Int) (k v : Nat) (A : List Ac) : Prop where
  alk : Alk A0 A
  ok : ∀ x ∈ A, AcOk n x
  cap : Cap A0 s z k v
  fresh : ∀ j u, j < k → Chn A0 s r (j + 1) u → A[(s u).1]? = A0[(s u).1]?
theorem mv_step {n : Nat} {A0 : List Ac} {s : Nat → Nat × Bool} {r : Nat} {z : Int} (hz : 0 ≤ z) {k v : Nat} {A : List Ac} {x : Ac} (hc0 : Chn A0 s r (k + 1) v) (h1 : A0[(s v).1]? = some x) (h : MvP n A0 s r z (k + 1) v A) :
    A[(s v).1]? = some x ∧ MvP n A0 s r z k (tl x (s v).2) (A.set (s v).1 (addF x (sgn (s v).2 z))) := by
  obtain ⟨hA, hb, hcap, hf⟩ := h
  have hAx : A[(s v).1]? = some x := (hf k v (Nat.lt_succ_self _) hc0).trans h1
  obtain ⟨c1, c2⟩ := hcap x h1
  refine ⟨hAx, hA.trans (Alk.set hAx _), fun y hy => ?_, c2, fun j u hj hu => ?_⟩
  · rcases List.mem_or_eq_of_mem_set hy with h | h
    · exact hb y h
    · subst h
      obtain ⟨xa, xb, d1, d2, w1, w2, f1, f2⟩ := hb x (List.mem_of_getElem? hAx)
      refine ⟨xa, xb, d1, d2, w1, w2, ?_, ?_⟩
      · show -x.w ≤ x.f + sgn (s v).2 z
        unfold rsd at c1; unfold sgn
        split <;> rename_i hh <;> simp only [hh, if_true] at c1 <;> first | omega | (rw [if_neg (by simp)] at c1; omega)
      · show x.f + sgn (s v).2 z ≤ x.w
        unfold rsd at c1; unfold sgn
        split <;> rename_i hh <;> simp only [hh, if_true] at c1 <;> first | omega | (rw [if_neg (by simp)] at c1; omega)
  · rw [List.getElem?_set_ne (chn_arc hc0 hu hj).symm]
    exact hf j u (by omega) hu
end Go.Proofs.Ytebflkgpbbjhnaa
/- The walks of balance: move. -/
namespace Go.Proofs.Ytebflkgpbbjhnaa
open Go.Fw Go
set_option linter.unusedVariables false
set_option linter.unusedSimpArgs false

theorem run_mn (A : List Ac) (st : Nat → Nat × Bool) : ∀ (k v : Nat) (b : Int), runW (fun _ : Int => A) (fun b _ x up => min b (rsd x up)) st k v b = mnF A st k v b
  | 0, _, _ => rfl
  | k + 1, v, b => by
    cases hx : A[(st v).1]? with
    | none => simp only [runW, mnF, hx]
    | some x => simp only [runW, mnF, hx, run_mn A st k]
theorem run_mv (st : Nat → Nat × Bool) (z : Int) : ∀ (k v : Nat) (A : List Ac), runW (fun A : List Ac => A) (fun A i x up => A.set i (addF x (sgn up z))) st k v A = mvF st z k v A
  | 0, _, _ => rfl
  | k + 1, v, A => by
    cases hx : A[(st v).1]? with
    | none => simp only [runW, mvF, hx]
    | some x => simp only [runW, mvF, hx, run_mv st z k]
/-- What is looked for: a node with a negative sum that is reached. -/
def cand (A : List Ac) (d : Nat → Int) (v : Nat) : Prop := netN A v < 0 ∧ d v < far
theorem one0_0 {n r : Nat} {p : Nat → Int} {A : List Ac} (hp0 : ∀ v, v ≤ n → 0 ≤ p v ∧ p v ≤ 65536 * (n + 1)) (hn : n ≤ 100) (hr : r ≤ n) : DI A n p (one0 r) (-p r) ⟨one0 r, fun _ => (0, false)⟩ := by
  have hfar : far = 1125899906842624 := rfl
  refine ⟨fun v hv => ?_, fun v hv => Int.le_refl _, fun v hv hl => ?_, fun v hv => .inl rfl⟩
  · have h1 := hp0 v hv
    have h2 := hp0 r hr
    show _ ≤ one0 r v - p v
    unfold one0
    split
    · rename_i e; rw [e]; omega
    · omega
  · have hl : one0 r v < far := hl
    show one0 r v ≤ _
    unfold one0 at hl ⊢
    split
    · omega
    · rename_i e; rw [if_neg e] at hl; omega
set_option maxHeartbeats 4000000 in
set_option maxRecDepth 8000 in
theorem move_c (n : Nat) (hnn : n ≤ 100) (A : List Ac) (hJ : J n A) (hl : A.length ≤ 100000) (r : Nat) (hr : r ≤ n) (hrp : 0 < netN A r) (H : AH) (g vg ra va : Nat) (lim : Option Nat) (hN : NetAt H n A g vg ra va lim) :
    ACall Try.prog 40 [.ptr g vg 0, .int .i64 r, .cs (dL (n + 1) (netN A)) (n + 1)] H (fun y H' => ∃ A', J n A' ∧ posN A' n < posN A n ∧ Alk A A' ∧ y = .tup [] ∧ H' = H.set ra (.row (acL A') va)) := by
  obtain ⟨hA, p, hp, hpb⟩ := hJ
  have hRep := fun H => Repeat_c far (n + 1) (by omega) (by omega) H
  obtain ⟨hg, ha, hgr⟩ := hN
  refine ACall.told ?_
  refine ACall_of tt_ok (dok _) Try.func40 rfl (by decide) rfl ?_
  (repeat' ((conv => whnf); first | refine Then.mk ?_ | left | refine OpsA.cons ?_ | refine OpsA.nil ?_ | refine AWq.seq ?_ | refine AWq.region ?_ | refine AWq.cond ?_ | refine AWq.block ?_ | refine AWq.skip ?_ | refine AWq.exit ?_ | refine AWq.loop ?_ | refine DrawA.consD ?_ | refine DrawA.nil ?_ | refine AWq.draw (by decide +kernel) ?_ | (refine Both.mk ?_ ?_ <;> intro hc <;> (first | exact Bool.noConfusion hc | exact absurd (by assumption) hc | exact absurd hc (by assumption) | (exfalso; omega) | skip)) | (intro c hc; (try (simp only [AH.none_iff] at hc; repeat (have hn := hc.1; replace hc := hc.2))); (first | (refine i64_k hc ?_ ?_ ?_ ; omega; omega; (clear hc; intro hc; subst hc)) | skip)) | (apply Exists.intro; apply And.intro; (focus (repeat (first | assumption | exact AH.set_same _ _ _ | ((first | refine AH.get_ne ?_ ?_); (first | assumption | omega | exact AH.ne_none (by assumption) (by assumption))))); done)) | (apply Exists.intro; apply And.intro; first | (with_reducible assumption) | ((try simp only [List.getElem?_drop, Nat.mul_one, Nat.add_zero, Nat.zero_add]); first | (with_reducible assumption) | assumption | rfl)) | (apply Exists.intro; apply And.intro; (focus (intro G; ((conv => whnf); (try left); (conv => whnf); first | (intro c hc; subst hc; exact And.intro rfl rfl))))) | (apply And.intro; (first | rfl | (with_reducible assumption) | exact Nat.le_of_ble_eq_true rfl | omega | assumption | (simp <;> omega))))) <;> (try (conv => whnf))
  rename_i c3 hc3
  (obtain ⟨c4, hq_⟩ : ∃ c4, c4 = c := ⟨_, rfl⟩); subst hq_
  have hc4 : H c4 = none := hc
  have h43 : c4 ≠ c3 := hn
  have n3g : c3 ≠ g := AH.ne_none hc3 hg |>.symm
  have n3a : c3 ≠ ra := AH.ne_none hc3 ha |>.symm
  have n4g : c4 ≠ g := AH.ne_none hc4 hg |>.symm
  have n4a : c4 ≠ ra := AH.ne_none hc4 ha |>.symm
  obtain ⟨G, hG⟩ : ∃ G, G = (H.set c3 (.row [.ptr g vg 0] 0)).set c4 (.row [.int .i64 r] 0) := ⟨_, rfl⟩
  have g3 : G c3 = some (.row [.ptr g vg 0] 0) := by rw [hG]; (focus (repeat (first | (with_reducible assumption) | (with_reducible exact AH.set_same _ _ _) | ((first | refine AH.get_ne ?_ ?_); (first | (with_reducible assumption) | exact Ne.symm (by with_reducible assumption) | exact AH.ne_none (by with_reducible assumption) (by with_reducible assumption))))); done)
  have g4 : G c4 = some (.row [.int .i64 r] 0) := by rw [hG]; (focus (repeat (first | (with_reducible assumption) | (with_reducible exact AH.set_same _ _ _) | ((first | refine AH.get_ne ?_ ?_); (first | (with_reducible assumption) | exact Ne.symm (by with_reducible assumption) | exact AH.ne_none (by with_reducible assumption) (by with_reducible assumption))))); done)
  have gg : G g = some (.row [.int .i64 n, .sl ra va 5 0 A.length lim] vg) := by rw [hG]; (focus (repeat (first | (with_reducible assumption) | (with_reducible exact AH.set_same _ _ _) | ((first | refine AH.get_ne ?_ ?_); (first | (with_reducible assumption) | exact Ne.symm (by with_reducible assumption) | exact AH.ne_none (by with_reducible assumption) (by with_reducible assumption))))); done)
  have ga : G ra = some (.row (acL A) va) := by rw [hG]; (focus (repeat (first | (with_reducible assumption) | (with_reducible exact AH.set_same _ _ _) | ((first | refine AH.get_ne ?_ ?_); (first | (with_reducible assumption) | exact Ne.symm (by with_reducible assumption) | exact AH.ne_none (by with_reducible assumption) (by with_reducible assumption))))); done)
  refine ACall.mono (hRep ((H.set c3 (.row [.ptr g vg 0] 0)).set c4 (.row [.int .i64 r] 0))) ?_
  rw [← hG]
  rintro y H' ⟨rd, hrd, rfl, rfl⟩
  have ndg : g ≠ rd := AH.ne_none hrd gg
  have nda : ra ≠ rd := AH.ne_none hrd ga
  have nd3 : c3 ≠ rd := AH.ne_none hrd g3
  have nd4 : c4 ≠ rd := AH.ne_none hrd g4
  have hdl := dL_len (n + 1) fun _ => far
  (repeat' ((conv => whnf); first | left | refine OpsA.cons ?_ | refine OpsA.nil ?_ | refine AWq.seq ?_ | refine AWq.region ?_ | refine AWq.cond ?_ | refine AWq.block ?_ | refine AWq.skip ?_ | refine AWq.exit ?_ | refine AWq.loop ?_ | refine DrawA.consD ?_ | refine DrawA.nil ?_ | refine AWq.draw (by decide +kernel) ?_ | (refine Both.mk ?_ ?_ <;> intro hc <;> (first | exact Bool.noConfusion hc | exact absurd (by assumption) hc | exact absurd hc (by assumption) | (exfalso; omega) | skip)) | (intro c hc; (try (simp only [AH.none_iff] at hc; repeat (have hn := hc.1; replace hc := hc.2))); (first | (refine i64_k hc ?_ ?_ ?_ ; omega; omega; (clear hc; intro hc; subst hc)) | skip)) | (apply Exists.intro; apply And.intro; (focus (repeat (first | assumption | exact AH.set_same _ _ _ | ((first | refine AH.get_ne ?_ ?_); (first | assumption | omega | exact AH.ne_none (by assumption) (by assumption))))); done)) | (apply Exists.intro; apply And.intro; first | (with_reducible assumption) | ((try simp only [List.getElem?_drop, Nat.mul_one, Nat.add_zero, Nat.zero_add]); first | (with_reducible assumption) | assumption | rfl)) | (apply Exists.intro; apply And.intro; (focus (intro G; ((conv => whnf); (try left); (conv => whnf); first | (intro c hc; subst hc; exact And.intro rfl rfl))))) | (apply And.intro; (first | rfl | (with_reducible assumption) | exact Nat.le_of_ble_eq_true rfl | omega | assumption | (simp <;> omega))))) <;> (try (conv => whnf))
  refine Then.mk ?_
  (repeat' ((conv => whnf); first | left | refine OpsA.cons ?_ | refine OpsA.nil ?_ | refine AWq.seq ?_ | refine AWq.region ?_ | refine AWq.cond ?_ | refine AWq.block ?_ | refine AWq.skip ?_ | refine AWq.exit ?_ | refine AWq.loop ?_ | refine DrawA.consD ?_ | refine DrawA.nil ?_ | refine AWq.draw (by decide +kernel) ?_ | (refine Both.mk ?_ ?_ <;> intro hc <;> (first | exact Bool.noConfusion hc | exact absurd (by assumption) hc | exact absurd hc (by assumption) | (exfalso; omega) | skip)) | (intro c hc; (try (simp only [AH.none_iff] at hc; repeat (have hn := hc.1; replace hc := hc.2))); (first | (refine i64_k hc ?_ ?_ ?_ ; omega; omega; (clear hc; intro hc; subst hc)) | skip)) | (apply Exists.intro; apply And.intro; (focus (repeat (first | assumption | exact AH.set_same _ _ _ | ((first | refine AH.get_ne ?_ ?_); (first | assumption | omega | exact AH.ne_none (by assumption) (by assumption))))); done)) | (apply Exists.intro; apply And.intro; first | (with_reducible assumption) | ((try simp only [List.getElem?_drop, Nat.mul_one, Nat.add_zero, Nat.zero_add]); first | (with_reducible assumption) | assumption | rfl)) | (apply Exists.intro; apply And.intro; (focus (intro G; ((conv => whnf); (try left); (conv => whnf); first | (intro c hc; subst hc; exact And.intro rfl rfl))))) | (apply And.intro; (first | rfl | (with_reducible assumption) | exact Nat.le_of_ble_eq_true rfl | omega | assumption | (simp <;> omega))))) <;> (try (conv => whnf))
  refine Then.mk (AWq.in ?_)
  have hone : wrA (dL (n + 1) fun _ => far) (0 + (r : Int).toNat * 1) [.int .i64 0] = dL (n + 1) (one0 r) := dL_wrZ (n := n + 1) (fun _ => far) (show r < n + 1 by omega) 0
  refine AWp_less (G.set rd (.row (dL (n + 1) (one0 r)) 0)) (HLe.of_eq (by rw [← hone]; exact (AH.set_set _ _ _ _).symm)) ?_
  refine AWp.of tt_ok (dok _) rfl ?_
  clear hone
  have hdist := distances_c n hnn A hA hl (fun σ => DI A n p (one0 r) (-p r) σ ∧ ∀ v, v ≤ n → σ.d v < far → ∃ k, Chn A σ.s r k v) (fun σ => wgt p (-p r) σ.d n)
    (fun σ i x up hq hx hR => ⟨⟨hq.1.rlx hA hp hnn hx hR, chn_rlx hq.1 hA hp rfl hnn hx hR hq.2⟩, hq.1.less hA hp hx hR⟩)
    (fun σ hq v hv => by
      have h1 := hq.1.low v hv
      have h2 := hq.1.dec v hv
      have h3 := hpb v hv
      have h4 := hpb r hr
      have h5 : one0 r v ≤ far := by unfold one0; have : far = 1125899906842624 := rfl; split <;> omega
      have : far = 1125899906842624 := rfl
      omega)
    (one0 r) ⟨one0_0 hpb hnn hr, fun v hv hl => ⟨0, by
      show v = r
      apply Classical.byContradiction
      intro e
      have hl : one0 r v < far := hl
      unfold one0 at hl
      rw [if_neg e] at hl; omega⟩⟩
    (G.set rd (.row (dL (n + 1) (one0 r)) 0)) g vg ra va lim none ⟨by (focus (repeat (first | (with_reducible assumption) | (with_reducible exact AH.set_same _ _ _) | ((first | refine AH.get_ne ?_ ?_); (first | (with_reducible assumption) | exact Ne.symm (by with_reducible assumption) | exact AH.ne_none (by with_reducible assumption) (by with_reducible assumption))))); done), by (focus (repeat (first | (with_reducible assumption) | (with_reducible exact AH.set_same _ _ _) | ((first | refine AH.get_ne ?_ ?_); (first | (with_reducible assumption) | exact Ne.symm (by with_reducible assumption) | exact AH.ne_none (by with_reducible assumption) (by with_reducible assumption))))); done), hgr⟩ rd 0 (AH.set_same _ _ _) (Ne.symm ndg) (Ne.symm nda)
  (repeat' ((conv => whnf); first | left | refine OpsA.cons ?_ | refine OpsA.nil ?_ | refine AWq.seq ?_ | refine AWq.region ?_ | refine AWq.cond ?_ | refine AWq.block ?_ | refine AWq.skip ?_ | refine AWq.exit ?_ | refine AWq.loop ?_ | refine DrawA.consD ?_ | refine DrawA.nil ?_ | refine AWq.draw (by decide +kernel) ?_ | (refine Both.mk ?_ ?_ <;> intro hc <;> (first | exact Bool.noConfusion hc | exact absurd (by assumption) hc | exact absurd hc (by assumption) | (exfalso; omega) | skip)) | (intro c hc; (try (simp only [AH.none_iff] at hc; repeat (have hn := hc.1; replace hc := hc.2))); (first | (refine i64_k hc ?_ ?_ ?_ ; omega; omega; (clear hc; intro hc; subst hc)) | skip)) | (apply Exists.intro; apply And.intro; (focus (repeat (first | assumption | exact AH.set_same _ _ _ | ((first | refine AH.get_ne ?_ ?_); (first | assumption | omega | exact AH.ne_none (by assumption) (by assumption))))); done)) | (apply Exists.intro; apply And.intro; first | (with_reducible assumption) | ((try simp only [List.getElem?_drop, Nat.mul_one, Nat.add_zero, Nat.zero_add]); first | (with_reducible assumption) | assumption | rfl)) | (apply Exists.intro; apply And.intro; (focus (intro G; ((conv => whnf); (try left); (conv => whnf); first | (intro c hc; subst hc; exact And.intro rfl rfl))))) | (apply And.intro; (first | rfl | (with_reducible assumption) | exact Nat.le_of_ble_eq_true rfl | omega | assumption | (simp <;> omega))))) <;> (try (conv => whnf))
  refine hdist.mono ?_
  rintro y H' ⟨σ, rs, ⟨hDI, hch⟩, hst, hrs, rfl, rfl⟩
  clear hdist
  obtain ⟨E, hE⟩ : ∃ E, E = (G.set rd (.row (dL (n + 1) σ.d) 0)).set rs (.row (stL (n + 1) σ.s) 0) := ⟨_, rfl⟩
  have hEq : dsH (G.set rd (.row (dL (n + 1) (one0 r)) 0)) n rd 0 rs σ = E := by rw [hE]; unfold dsH; rw [AH.set_set]
  rw [hEq]
  have k3 : (G.set rd (.row (dL (n + 1) (one0 r)) 0)) c3 = some (.row [.ptr g vg 0] 0) := by (focus (repeat (first | (with_reducible assumption) | (with_reducible exact AH.set_same _ _ _) | ((first | refine AH.get_ne ?_ ?_); (first | (with_reducible assumption) | exact Ne.symm (by with_reducible assumption) | exact AH.ne_none (by with_reducible assumption) (by with_reducible assumption))))); done)
  have k4 : (G.set rd (.row (dL (n + 1) (one0 r)) 0)) c4 = some (.row [.int .i64 r] 0) := by (focus (repeat (first | (with_reducible assumption) | (with_reducible exact AH.set_same _ _ _) | ((first | refine AH.get_ne ?_ ?_); (first | (with_reducible assumption) | exact Ne.symm (by with_reducible assumption) | exact AH.ne_none (by with_reducible assumption) (by with_reducible assumption))))); done)
  have kg : (G.set rd (.row (dL (n + 1) (one0 r)) 0)) g = some (.row [.int .i64 n, .sl ra va 5 0 A.length lim] vg) := by (focus (repeat (first | (with_reducible assumption) | (with_reducible exact AH.set_same _ _ _) | ((first | refine AH.get_ne ?_ ?_); (first | (with_reducible assumption) | exact Ne.symm (by with_reducible assumption) | exact AH.ne_none (by with_reducible assumption) (by with_reducible assumption))))); done)
  have ka : (G.set rd (.row (dL (n + 1) (one0 r)) 0)) ra = some (.row (acL A) va) := by (focus (repeat (first | (with_reducible assumption) | (with_reducible exact AH.set_same _ _ _) | ((first | refine AH.get_ne ?_ ?_); (first | (with_reducible assumption) | exact Ne.symm (by with_reducible assumption) | exact AH.ne_none (by with_reducible assumption) (by with_reducible assumption))))); done)
  have kd : (G.set rd (.row (dL (n + 1) (one0 r)) 0)) rd = some (.row (dL (n + 1) (one0 r)) 0) := by (focus (repeat (first | (with_reducible assumption) | (with_reducible exact AH.set_same _ _ _) | ((first | refine AH.get_ne ?_ ?_); (first | (with_reducible assumption) | exact Ne.symm (by with_reducible assumption) | exact AH.ne_none (by with_reducible assumption) (by with_reducible assumption))))); done)
  have ns3 : c3 ≠ rs := AH.none_ne' hrs k3
  have ns4 : c4 ≠ rs := AH.none_ne' hrs k4
  have nsg : g ≠ rs := AH.none_ne' hrs kg
  have nsa : ra ≠ rs := AH.none_ne' hrs ka
  have nsd : rd ≠ rs := AH.none_ne' hrs kd
  have hGs : G rs = none := by rw [AH.set_ne _ _ (Ne.symm nsd)] at hrs; exact hrs
  have e3 : E c3 = some (.row [.ptr g vg 0] 0) := by rw [hE]; (focus (repeat (first | (with_reducible assumption) | (with_reducible exact AH.set_same _ _ _) | ((first | refine AH.get_ne ?_ ?_); (first | (with_reducible assumption) | exact Ne.symm (by with_reducible assumption) | exact AH.ne_none (by with_reducible assumption) (by with_reducible assumption))))); done)
  have e4 : E c4 = some (.row [.int .i64 r] 0) := by rw [hE]; (focus (repeat (first | (with_reducible assumption) | (with_reducible exact AH.set_same _ _ _) | ((first | refine AH.get_ne ?_ ?_); (first | (with_reducible assumption) | exact Ne.symm (by with_reducible assumption) | exact AH.ne_none (by with_reducible assumption) (by with_reducible assumption))))); done)
  have eg : E g = some (.row [.int .i64 n, .sl ra va 5 0 A.length lim] vg) := by rw [hE]; (focus (repeat (first | (with_reducible assumption) | (with_reducible exact AH.set_same _ _ _) | ((first | refine AH.get_ne ?_ ?_); (first | (with_reducible assumption) | exact Ne.symm (by with_reducible assumption) | exact AH.ne_none (by with_reducible assumption) (by with_reducible assumption))))); done)
  have ea : E ra = some (.row (acL A) va) := by rw [hE]; (focus (repeat (first | (with_reducible assumption) | (with_reducible exact AH.set_same _ _ _) | ((first | refine AH.get_ne ?_ ?_); (first | (with_reducible assumption) | exact Ne.symm (by with_reducible assumption) | exact AH.ne_none (by with_reducible assumption) (by with_reducible assumption))))); done)
  have ed : E rd = some (.row (dL (n + 1) σ.d) 0) := by rw [hE]; (focus (repeat (first | (with_reducible assumption) | (with_reducible exact AH.set_same _ _ _) | ((first | refine AH.get_ne ?_ ?_); (first | (with_reducible assumption) | exact Ne.symm (by with_reducible assumption) | exact AH.ne_none (by with_reducible assumption) (by with_reducible assumption))))); done)
  have es : E rs = some (.row (stL (n + 1) σ.s) 0) := by rw [hE]; (focus (repeat (first | (with_reducible assumption) | (with_reducible exact AH.set_same _ _ _) | ((first | refine AH.get_ne ?_ ?_); (first | (with_reducible assumption) | exact Ne.symm (by with_reducible assumption) | exact AH.ne_none (by with_reducible assumption) (by with_reducible assumption))))); done)
  clear k3 k4 kg ka kd
  (repeat' ((conv => whnf); first | left | refine OpsA.cons ?_ | refine OpsA.nil ?_ | refine AWq.seq ?_ | refine AWq.region ?_ | refine AWq.cond ?_ | refine AWq.block ?_ | refine AWq.skip ?_ | refine AWq.exit ?_ | refine AWq.loop ?_ | refine DrawA.consD ?_ | refine DrawA.nil ?_ | refine AWq.draw (by decide +kernel) ?_ | (refine Both.mk ?_ ?_ <;> intro hc <;> (first | exact Bool.noConfusion hc | exact absurd (by assumption) hc | exact absurd hc (by assumption) | (exfalso; omega) | skip)) | (intro c hc; (try (simp only [AH.none_iff] at hc; repeat (have hn := hc.1; replace hc := hc.2))); (first | (refine i64_k hc ?_ ?_ ?_ ; omega; omega; (clear hc; intro hc; subst hc)) | skip)) | (apply Exists.intro; apply And.intro; (focus (repeat (first | assumption | exact AH.set_same _ _ _ | ((first | refine AH.get_ne ?_ ?_); (first | assumption | omega | exact AH.ne_none (by assumption) (by assumption))))); done)) | (apply Exists.intro; apply And.intro; first | (with_reducible assumption) | ((try simp only [List.getElem?_drop, Nat.mul_one, Nat.add_zero, Nat.zero_add]); first | (with_reducible assumption) | assumption | rfl)) | (apply Exists.intro; apply And.intro; (focus (intro G; ((conv => whnf); (try left); (conv => whnf); first | (intro c hc; subst hc; exact And.intro rfl rfl))))) | (apply And.intro; (first | rfl | (with_reducible assumption) | exact Nat.le_of_ble_eq_true rfl | omega | assumption | (simp <;> omega))))) <;> (try (conv => whnf))
  (obtain ⟨c7, hq_⟩ : ∃ c7, c7 = c := ⟨_, rfl⟩); subst hq_
  have hc7 : E c7 = none := hc
  refine Then.mk (AWq.in ?_)
  refine AWp_less (E.set c7 (.row [.sl rs 0 2 0 (n + 1) none] 0)) (HLe.of_eq (AH.set_set _ _ _ _).symm) ?_
  refine AWp.of tt_ok (dok _) rfl ?_
  obtain ⟨F, hF⟩ : ∃ F, F = E.set c7 (.row [.sl rs 0 2 0 (n + 1) none] 0) := ⟨_, rfl⟩
  rw [← hF]
  have f3 : F c3 = some (.row [.ptr g vg 0] 0) := by rw [hF]; (focus (repeat (first | (with_reducible assumption) | (with_reducible exact AH.set_same _ _ _) | ((first | refine AH.get_ne ?_ ?_); (first | (with_reducible assumption) | exact Ne.symm (by with_reducible assumption) | exact AH.ne_none (by with_reducible assumption) (by with_reducible assumption))))); done)
  have f4 : F c4 = some (.row [.int .i64 r] 0) := by rw [hF]; (focus (repeat (first | (with_reducible assumption) | (with_reducible exact AH.set_same _ _ _) | ((first | refine AH.get_ne ?_ ?_); (first | (with_reducible assumption) | exact Ne.symm (by with_reducible assumption) | exact AH.ne_none (by with_reducible assumption) (by with_reducible assumption))))); done)
  have fg : F g = some (.row [.int .i64 n, .sl ra va 5 0 A.length lim] vg) := by rw [hF]; (focus (repeat (first | (with_reducible assumption) | (with_reducible exact AH.set_same _ _ _) | ((first | refine AH.get_ne ?_ ?_); (first | (with_reducible assumption) | exact Ne.symm (by with_reducible assumption) | exact AH.ne_none (by with_reducible assumption) (by with_reducible assumption))))); done)
  have fa : F ra = some (.row (acL A) va) := by rw [hF]; (focus (repeat (first | (with_reducible assumption) | (with_reducible exact AH.set_same _ _ _) | ((first | refine AH.get_ne ?_ ?_); (first | (with_reducible assumption) | exact Ne.symm (by with_reducible assumption) | exact AH.ne_none (by with_reducible assumption) (by with_reducible assumption))))); done)
  have fd : F rd = some (.row (dL (n + 1) σ.d) 0) := by rw [hF]; (focus (repeat (first | (with_reducible assumption) | (with_reducible exact AH.set_same _ _ _) | ((first | refine AH.get_ne ?_ ?_); (first | (with_reducible assumption) | exact Ne.symm (by with_reducible assumption) | exact AH.ne_none (by with_reducible assumption) (by with_reducible assumption))))); done)
  have fs : F rs = some (.row (stL (n + 1) σ.s) 0) := by rw [hF]; (focus (repeat (first | (with_reducible assumption) | (with_reducible exact AH.set_same _ _ _) | ((first | refine AH.get_ne ?_ ?_); (first | (with_reducible assumption) | exact Ne.symm (by with_reducible assumption) | exact AH.ne_none (by with_reducible assumption) (by with_reducible assumption))))); done)
  have f7 : F c7 = some (.row [.sl rs 0 2 0 (n + 1) none] 0) := by rw [hF]; (focus (repeat (first | (with_reducible assumption) | (with_reducible exact AH.set_same _ _ _) | ((first | refine AH.get_ne ?_ ?_); (first | (with_reducible assumption) | exact Ne.symm (by with_reducible assumption) | exact AH.ne_none (by with_reducible assumption) (by with_reducible assumption))))); done)
  (repeat' ((conv => whnf); first | left | refine OpsA.cons ?_ | refine OpsA.nil ?_ | refine AWq.seq ?_ | refine AWq.region ?_ | refine AWq.cond ?_ | refine AWq.block ?_ | refine AWq.skip ?_ | refine AWq.exit ?_ | refine AWq.loop ?_ | refine DrawA.consD ?_ | refine DrawA.nil ?_ | refine AWq.draw (by decide +kernel) ?_ | (refine Both.mk ?_ ?_ <;> intro hc <;> (first | exact Bool.noConfusion hc | exact absurd (by assumption) hc | exact absurd hc (by assumption) | (exfalso; omega) | skip)) | (intro c hc; (try (simp only [AH.none_iff] at hc; repeat (have hn := hc.1; replace hc := hc.2))); (first | (refine i64_k hc ?_ ?_ ?_ ; omega; omega; (clear hc; intro hc; subst hc)) | skip)) | (apply Exists.intro; apply And.intro; (focus (repeat (first | assumption | exact AH.set_same _ _ _ | ((first | refine AH.get_ne ?_ ?_); (first | assumption | omega | exact AH.ne_none (by assumption) (by assumption))))); done)) | (apply Exists.intro; apply And.intro; first | (with_reducible assumption) | ((try simp only [List.getElem?_drop, Nat.mul_one, Nat.add_zero, Nat.zero_add]); first | (with_reducible assumption) | assumption | rfl)) | (apply Exists.intro; apply And.intro; (focus (intro G; ((conv => whnf); (try left); (conv => whnf); first | (intro c hc; subst hc; exact And.intro rfl rfl))))) | (apply And.intro; (first | rfl | (with_reducible assumption) | exact Nat.le_of_ble_eq_true rfl | omega | assumption | (simp <;> omega))))) <;> (try (conv => whnf))
  (obtain ⟨c8, hq_⟩ : ∃ c8, c8 = c := ⟨_, rfl⟩); subst hq_
  have hc8 : F c8 = none := hc
  refine Then.mk (AWq.in ?_)
  refine AWp_less (F.set c8 (.row [.int .i64 (-1)] 0)) (HLe.of_eq (AH.set_set _ _ _ _).symm) ?_
  refine AWp.of tt_ok (dok _) rfl ?_
  (repeat' ((conv => whnf); first | refine Then.mk ?_ | left | refine OpsA.cons ?_ | refine OpsA.nil ?_ | refine AWq.seq ?_ | refine AWq.region ?_ | refine AWq.cond ?_ | refine AWq.block ?_ | refine AWq.skip ?_ | refine AWq.exit ?_ | refine AWq.loop ?_ | refine DrawA.consD ?_ | refine DrawA.nil ?_ | refine AWq.draw (by decide +kernel) ?_ | (refine Both.mk ?_ ?_ <;> intro hc <;> (first | exact Bool.noConfusion hc | exact absurd (by assumption) hc | exact absurd hc (by assumption) | (exfalso; omega) | skip)) | (intro c hc; (try (simp only [AH.none_iff] at hc; repeat (have hn := hc.1; replace hc := hc.2))); (first | (refine i64_k hc ?_ ?_ ?_ ; omega; omega; (clear hc; intro hc; subst hc)) | skip)) | (apply Exists.intro; apply And.intro; (focus (repeat (first | assumption | exact AH.set_same _ _ _ | ((first | refine AH.get_ne ?_ ?_); (first | assumption | omega | exact AH.ne_none (by assumption) (by assumption))))); done)) | (apply Exists.intro; apply And.intro; first | (with_reducible assumption) | ((try simp only [List.getElem?_drop, Nat.mul_one, Nat.add_zero, Nat.zero_add]); first | (with_reducible assumption) | assumption | rfl)) | (apply Exists.intro; apply And.intro; (focus (intro G; ((conv => whnf); (try left); (conv => whnf); first | (intro c hc; subst hc; exact And.intro rfl rfl))))) | (apply And.intro; (first | rfl | (with_reducible assumption) | exact Nat.le_of_ble_eq_true rfl | omega | assumption | (simp <;> omega))))) <;> (try (conv => whnf))
  refine AWp_loop (σ := Nat × Int) (9 :: 27 :: 28 :: 29 :: 30 :: 31 :: 32 :: 33 :: 34 :: 35 :: 36 :: 37 :: 38 :: 39 :: 40 :: 41 :: 42 :: 43 :: 44 :: 45 :: 46 :: 47 :: 48 :: 49 :: 50 :: 51 :: 52 :: 53 :: 54 :: 55 :: 56 :: 57 :: 58 :: []) (fun z => [(27, .int .i64 z.1)]) (fun z => F.set c8 (.row [.int .i64 z.2] 0))
    (fun z => z.1 ≤ n + 1 ∧ ((z.2 = -1 ∧ ∀ v, v < z.1 → ¬ cand A σ.d v) ∨ ∃ t : Nat, z.2 = t ∧ t < z.1 ∧ cand A σ.d t)) (fun z => n + 1 - z.1) (0, -1) rfl ⟨Nat.zero_le _, .inl ⟨rfl, fun v hv => absurd hv (Nat.not_lt_zero v)⟩⟩ ⟨rfl, trivial⟩ (HLe.refl _) ?_
  rintro ⟨i, to⟩ ⟨hi, hto⟩
  dsimp only at hi hto ⊢
  refine AWp.of tt_ok (dok _) rfl ?_
  by_cases hil : i < n + 1
  · have hin := dL_getZ (n := n + 1) (netN A) hil
    have hid := dL_getZ (n := n + 1) σ.d hil
    have hl1 := dL_len (n + 1) (netN A)
    have hl2 := dL_len (n + 1) σ.d
    have hdl2 := hDI.dec i (by omega)
    by_cases hc1 : netN A i < 0 ∧ σ.d i < 1125899906842624
    · rcases hto with ⟨rfl, hno⟩ | ⟨t, rfl, hti, hct⟩
      · (repeat' ((conv => whnf); first | refine Then.mk ?_ | left | refine OpsA.cons ?_ | refine OpsA.nil ?_ | refine AWq.seq ?_ | refine AWq.region ?_ | refine AWq.cond ?_ | refine AWq.block ?_ | refine AWq.skip ?_ | refine AWq.exit ?_ | refine AWq.loop ?_ | refine DrawA.consD ?_ | refine DrawA.nil ?_ | refine AWq.draw (by decide +kernel) ?_ | (refine Both.mk ?_ ?_ <;> intro hc <;> (first | exact Bool.noConfusion hc | exact absurd (by assumption) hc | exact absurd hc (by assumption) | (exfalso; omega) | skip)) | (intro c hc; (try (simp only [AH.none_iff] at hc; repeat (have hn := hc.1; replace hc := hc.2))); (first | (refine i64_k hc ?_ ?_ ?_ ; omega; omega; (clear hc; intro hc; subst hc)) | skip)) | (apply Exists.intro; apply And.intro; (focus (repeat (first | assumption | exact AH.set_same _ _ _ | ((first | refine AH.get_ne ?_ ?_); (first | assumption | omega | exact AH.ne_none (by assumption) (by assumption))))); done)) | (apply Exists.intro; apply And.intro; first | (with_reducible assumption) | ((try simp only [List.getElem?_drop, Nat.mul_one, Nat.add_zero, Nat.zero_add]); first | (with_reducible assumption) | assumption | rfl)) | (apply Exists.intro; apply And.intro; (focus (intro G; ((conv => whnf); (try left); (conv => whnf); first | (intro c hc; subst hc; exact And.intro rfl rfl))))) | (apply And.intro; (first | rfl | (with_reducible assumption) | exact Nat.le_of_ble_eq_true rfl | omega | assumption | (simp <;> omega))))) <;> (try (conv => whnf))
        exact ⟨(i + 1, (i : Int)), ⟨by dsimp only; omega, .inr ⟨i, rfl, by dsimp only; omega, hc1⟩⟩, by dsimp only; omega, ⟨congrArg (AV.int .i64) (by dsimp only; omega), trivial⟩, HLe.of_eq (AH.set_set _ _ _ _).symm⟩
      · have htd := dL_getZ (n := n + 1) σ.d (show t < n + 1 by omega)
        by_cases hlt : σ.d i < σ.d t
        · (repeat' ((conv => whnf); first | refine Then.mk ?_ | left | refine OpsA.cons ?_ | refine OpsA.nil ?_ | refine AWq.seq ?_ | refine AWq.region ?_ | refine AWq.cond ?_ | refine AWq.block ?_ | refine AWq.skip ?_ | refine AWq.exit ?_ | refine AWq.loop ?_ | refine DrawA.consD ?_ | refine DrawA.nil ?_ | refine AWq.draw (by decide +kernel) ?_ | (refine Both.mk ?_ ?_ <;> intro hc <;> (first | exact Bool.noConfusion hc | exact absurd (by assumption) hc | exact absurd hc (by assumption) | (exfalso; omega) | skip)) | (intro c hc; (try (simp only [AH.none_iff] at hc; repeat (have hn := hc.1; replace hc := hc.2))); (first | (refine i64_k hc ?_ ?_ ?_ ; omega; omega; (clear hc; intro hc; subst hc)) | skip)) | (apply Exists.intro; apply And.intro; (focus (repeat (first | assumption | exact AH.set_same _ _ _ | ((first | refine AH.get_ne ?_ ?_); (first | assumption | omega | exact AH.ne_none (by assumption) (by assumption))))); done)) | (apply Exists.intro; apply And.intro; first | (with_reducible assumption) | ((try simp only [List.getElem?_drop, Nat.mul_one, Nat.add_zero, Nat.zero_add]); first | (with_reducible assumption) | assumption | rfl)) | (apply Exists.intro; apply And.intro; (focus (intro G; ((conv => whnf); (try left); (conv => whnf); first | (intro c hc; subst hc; exact And.intro rfl rfl))))) | (apply And.intro; (first | rfl | (with_reducible assumption) | exact Nat.le_of_ble_eq_true rfl | omega | assumption | (simp <;> omega))))) <;> (try (conv => whnf))
          exact ⟨(i + 1, (i : Int)), ⟨by dsimp only; omega, .inr ⟨i, rfl, by dsimp only; omega, hc1⟩⟩, by dsimp only; omega, ⟨congrArg (AV.int .i64) (by dsimp only; omega), trivial⟩, HLe.of_eq (AH.set_set _ _ _ _).symm⟩
        · (repeat' ((conv => whnf); first | refine Then.mk ?_ | left | refine OpsA.cons ?_ | refine OpsA.nil ?_ | refine AWq.seq ?_ | refine AWq.region ?_ | refine AWq.cond ?_ | refine AWq.block ?_ | refine AWq.skip ?_ | refine AWq.exit ?_ | refine AWq.loop ?_ | refine DrawA.consD ?_ | refine DrawA.nil ?_ | refine AWq.draw (by decide +kernel) ?_ | (refine Both.mk ?_ ?_ <;> intro hc <;> (first | exact Bool.noConfusion hc | exact absurd (by assumption) hc | exact absurd hc (by assumption) | (exfalso; omega) | skip)) | (intro c hc; (try (simp only [AH.none_iff] at hc; repeat (have hn := hc.1; replace hc := hc.2))); (first | (refine i64_k hc ?_ ?_ ?_ ; omega; omega; (clear hc; intro hc; subst hc)) | skip)) | (apply Exists.intro; apply And.intro; (focus (repeat (first | assumption | exact AH.set_same _ _ _ | ((first | refine AH.get_ne ?_ ?_); (first | assumption | omega | exact AH.ne_none (by assumption) (by assumption))))); done)) | (apply Exists.intro; apply And.intro; first | (with_reducible assumption) | ((try simp only [List.getElem?_drop, Nat.mul_one, Nat.add_zero, Nat.zero_add]); first | (with_reducible assumption) | assumption | rfl)) | (apply Exists.intro; apply And.intro; (focus (intro G; ((conv => whnf); (try left); (conv => whnf); first | (intro c hc; subst hc; exact And.intro rfl rfl))))) | (apply And.intro; (first | rfl | (with_reducible assumption) | exact Nat.le_of_ble_eq_true rfl | omega | assumption | (simp <;> omega))))) <;> (try (conv => whnf))
          exact ⟨(i + 1, (t : Int)), ⟨by dsimp only; omega, .inr ⟨t, rfl, by dsimp only; omega, hct⟩⟩, by dsimp only; omega, ⟨congrArg (AV.int .i64) (by dsimp only; omega), trivial⟩, HLe.refl _⟩
    · have hto2 : (to = -1 ∧ ∀ v, v < i + 1 → ¬ cand A σ.d v) ∨ ∃ t : Nat, to = t ∧ t < i + 1 ∧ cand A σ.d t := by
        rcases hto with ⟨h, hno⟩ | ⟨t, h, hti, hct⟩
        · refine .inl ⟨h, fun v hv => ?_⟩
          by_cases e : v = i
          · rw [e]; exact hc1
          · exact hno v (by omega)
        · exact .inr ⟨t, h, by omega, hct⟩
      (repeat' ((conv => whnf); first | refine Then.mk ?_ | left | refine OpsA.cons ?_ | refine OpsA.nil ?_ | refine AWq.seq ?_ | refine AWq.region ?_ | refine AWq.cond ?_ | refine AWq.block ?_ | refine AWq.skip ?_ | refine AWq.exit ?_ | refine AWq.loop ?_ | refine DrawA.consD ?_ | refine DrawA.nil ?_ | refine AWq.draw (by decide +kernel) ?_ | (refine Both.mk ?_ ?_ <;> intro hc <;> (first | exact Bool.noConfusion hc | exact absurd (by assumption) hc | exact absurd hc (by assumption) | (exfalso; omega) | skip)) | (intro c hc; (try (simp only [AH.none_iff] at hc; repeat (have hn := hc.1; replace hc := hc.2))); (first | (refine i64_k hc ?_ ?_ ?_ ; omega; omega; (clear hc; intro hc; subst hc)) | skip)) | (apply Exists.intro; apply And.intro; (focus (repeat (first | assumption | exact AH.set_same _ _ _ | ((first | refine AH.get_ne ?_ ?_); (first | assumption | omega | exact AH.ne_none (by assumption) (by assumption))))); done)) | (apply Exists.intro; apply And.intro; first | (with_reducible assumption) | ((try simp only [List.getElem?_drop, Nat.mul_one, Nat.add_zero, Nat.zero_add]); first | (with_reducible assumption) | assumption | rfl)) | (apply Exists.intro; apply And.intro; (focus (intro G; ((conv => whnf); (try left); (conv => whnf); first | (intro c hc; subst hc; exact And.intro rfl rfl))))) | (apply And.intro; (first | rfl | (with_reducible assumption) | exact Nat.le_of_ble_eq_true rfl | omega | assumption | (simp <;> omega))))) <;> (try (conv => whnf))
      all_goals exact ⟨(i + 1, to), ⟨by dsimp only; omega, hto2⟩, by dsimp only; omega, ⟨congrArg (AV.int .i64) (by dsimp only; omega), trivial⟩, HLe.refl _⟩
  · have hie : i = n + 1 := by omega
    obtain ⟨v0, hv1, hv2, hv3⟩ := to_ex hDI hA hnn hst hr hrp
    have htt : ∃ t : Nat, to = t ∧ t < i ∧ cand A σ.d t := by
      rcases hto with ⟨h, hno⟩ | h
      · exact absurd ⟨hv3, hv2⟩ (hno v0 (by omega))
      · exact h
    clear hto
    obtain ⟨t, rfl, hti, htn, htf⟩ := htt
    have hts : t ≤ n := by omega
    obtain ⟨k, hk⟩ := hch t hts htf
    have hbt := netN_bd hA t
    have hbr := netN_bd hA r
    have gr := dL_getZ (n := n + 1) (netN A) (show r < n + 1 by omega)
    have gt := dL_getZ (n := n + 1) (netN A) (show t < n + 1 by omega)
    have hl1 := dL_len (n + 1) (netN A)
    have k4 : (F.set c8 (.row [.int .i64 t] 0)) c4 = some (.row [.int .i64 r] 0) := by (focus (repeat (first | (with_reducible assumption) | (with_reducible exact AH.set_same _ _ _) | ((first | refine AH.get_ne ?_ ?_); (first | (with_reducible assumption) | exact Ne.symm (by with_reducible assumption) | exact AH.ne_none (by with_reducible assumption) (by with_reducible assumption))))); done)
    have k8 : (F.set c8 (.row [.int .i64 t] 0)) c8 = some (.row [.int .i64 t] 0) := AH.set_same _ _ _
    (repeat' ((conv => whnf); first | refine Then.mk ?_ | left | refine OpsA.cons ?_ | refine OpsA.nil ?_ | refine AWq.seq ?_ | refine AWq.region ?_ | refine AWq.cond ?_ | refine AWq.block ?_ | refine AWq.skip ?_ | refine AWq.exit ?_ | refine AWq.loop ?_ | refine DrawA.consD ?_ | refine DrawA.nil ?_ | (refine Both.mk ?_ ?_ <;> intro hc <;> (first | exact Bool.noConfusion hc | exact absurd (by assumption) hc | exact absurd hc (by assumption) | (exfalso; omega) | skip)) | (intro c hc; (try (simp only [AH.none_iff] at hc; repeat (have hn := hc.1; replace hc := hc.2))); (first | (refine i64_k hc ?_ ?_ ?_ ; omega; omega; (clear hc; intro hc; subst hc)) | skip)) | (apply Exists.intro; apply And.intro; (focus (repeat (first | assumption | exact AH.set_same _ _ _ | ((first | refine AH.get_ne ?_ ?_); (first | assumption | omega | exact AH.ne_none (by assumption) (by assumption))))); done)) | (apply Exists.intro; apply And.intro; first | (with_reducible assumption) | ((try simp only [List.getElem?_drop, Nat.mul_one, Nat.add_zero, Nat.zero_add]); first | (with_reducible assumption) | assumption | rfl)) | (apply Exists.intro; apply And.intro; (focus (intro G; ((conv => whnf); (try left); (conv => whnf); first | (intro c hc; subst hc; exact And.intro rfl rfl))))) | (apply And.intro; (first | rfl | (with_reducible assumption) | exact Nat.le_of_ble_eq_true rfl | omega | assumption | (simp <;> omega))))) <;> (try (conv => whnf))
    refine AWq.in ?_
    refine AWp_spare fun a haa => ?_
    obtain ⟨nm, k0⟩ : ∃ nm : Nat → Nat, nm 0 = a := ⟨fun k => a, rfl⟩
    subst k0
    have n40 : nm 0 ≠ c4 := AH.ne_none haa k4 |>.symm
    have n80 : nm 0 ≠ c8 := AH.ne_none haa k8 |>.symm
    refine AWp.of tt_ok (dok _) rfl ?_
    refine AWq.drawK mo [(10, 0)] nm ?_ (by decide +kernel) ?_
    · intro a b ha hb hab
      simp at ha hb
      rw [ha, hb]
    (repeat' ((conv => whnf); first | refine DrawK.consD ?_ | refine DrawK.nil ?_ | (apply And.intro; (focus (repeat (first | exact trivial | (refine And.intro (a := _ ≠ _) (b := offR _ _ _) ?_ ?_; (first | assumption | omega | exact AH.ne_none (by assumption) (by assumption))))); done)) | left | refine OpsA.cons ?_ | refine OpsA.nil ?_ | refine AWq.seq ?_ | refine AWq.region ?_ | refine AWq.cond ?_ | refine AWq.block ?_ | refine AWq.skip ?_ | refine AWq.exit ?_ | refine AWq.loop ?_ | refine DrawA.consD ?_ | refine DrawA.nil ?_ | refine AWq.draw (by decide +kernel) ?_ | (refine Both.mk ?_ ?_ <;> intro hc <;> (first | exact Bool.noConfusion hc | exact absurd (by assumption) hc | exact absurd hc (by assumption) | (exfalso; omega) | skip)) | (intro c hc; (try (simp only [AH.none_iff] at hc; repeat (have hn := hc.1; replace hc := hc.2))); (first | (refine i64_k hc ?_ ?_ ?_ ; omega; omega; (clear hc; intro hc; subst hc)) | skip)) | (apply Exists.intro; apply And.intro; (focus (repeat (first | assumption | exact AH.set_same _ _ _ | ((first | refine AH.get_ne ?_ ?_); (first | assumption | omega | exact AH.ne_none (by assumption) (by assumption))))); done)) | (apply Exists.intro; apply And.intro; first | (with_reducible assumption) | ((try simp only [List.getElem?_drop, Nat.mul_one, Nat.add_zero, Nat.zero_add]); first | (with_reducible assumption) | assumption | rfl)) | (apply Exists.intro; apply And.intro; (focus (intro G; ((conv => whnf); (try left); (conv => whnf); first | (intro c hc; subst hc; exact And.intro rfl rfl))))) | (apply And.intro; (first | rfl | (with_reducible assumption) | exact Nat.le_of_ble_eq_true rfl | omega | assumption | (simp <;> omega))))) <;> (try (conv => whnf))
    refine Then.mk (AWq.in ?_)
    have hb0 : min (netN A r) (-netN A t) ≤ 6553600000 := by omega
    have hb1 : 1 ≤ min (netN A r) (-netN A t) := by omega
    obtain ⟨b0, hb0e⟩ : ∃ b0, b0 = min (netN A r) (0 - netN A t) := ⟨_, rfl⟩
    refine AWp_less ((F.set c8 (.row [.int .i64 t] 0)).set (nm 0) (.row [.int .i64 b0] 1)) (HLe.of_eq (by rw [hb0e]; exact ((AH.set_set _ _ _ _).trans (AH.set_set _ _ _ _)).symm)) ?_
    refine AWp.of tt_ok (dok _) rfl ?_
    rw [Int.zero_sub] at hb0e
    generalize nm 0 = cb at *
    have n83 : c3 ≠ c8 := AH.none_ne' hc8 f3
    have n84 : c4 ≠ c8 := AH.none_ne' hc8 f4
    have n8g : g ≠ c8 := AH.none_ne' hc8 fg
    have n8a : ra ≠ c8 := AH.none_ne' hc8 fa
    have n8d : rd ≠ c8 := AH.none_ne' hc8 fd
    have n8s : rs ≠ c8 := AH.none_ne' hc8 fs
    have n87 : c7 ≠ c8 := AH.none_ne' hc8 f7
    have nbs := AH.none_set haa
    obtain ⟨nb8, hFb⟩ := nbs
    have nb3 : c3 ≠ cb := AH.none_ne' hFb f3
    have nb4 : c4 ≠ cb := AH.none_ne' hFb f4
    have nbg : g ≠ cb := AH.none_ne' hFb fg
    have nba : ra ≠ cb := AH.none_ne' hFb fa
    have nbd : rd ≠ cb := AH.none_ne' hFb fd
    have nbss : rs ≠ cb := AH.none_ne' hFb fs
    have nb7 : c7 ≠ cb := AH.none_ne' hFb f7
    have n7a : ra ≠ c7 := AH.none_ne' hc7 ea
    have walk1 := walk_c n hnn A hA hl σ.s r (fun _ : Int => A) (fun b _ x up => min b (rsd x up)) (fun b => (F.set c8 (.row [.int .i64 t] 0)).set cb (.row [.int .i64 b] 1)) (fun _ _ _ => True) 70 cb 1 rs g ra vg va lim t c8 c4 c7 c3
      (fun b => ⟨by (focus (repeat (first | (with_reducible assumption) | (with_reducible exact AH.set_same _ _ _) | ((first | refine AH.get_ne ?_ ?_); (first | (with_reducible assumption) | exact Ne.symm (by with_reducible assumption) | exact AH.ne_none (by with_reducible assumption) (by with_reducible assumption))))); done), by (focus (repeat (first | (with_reducible assumption) | (with_reducible exact AH.set_same _ _ _) | ((first | refine AH.get_ne ?_ ?_); (first | (with_reducible assumption) | exact Ne.symm (by with_reducible assumption) | exact AH.ne_none (by with_reducible assumption) (by with_reducible assumption))))); done), by (focus (repeat (first | (with_reducible assumption) | (with_reducible exact AH.set_same _ _ _) | ((first | refine AH.get_ne ?_ ?_); (first | (with_reducible assumption) | exact Ne.symm (by with_reducible assumption) | exact AH.ne_none (by with_reducible assumption) (by with_reducible assumption))))); done), by (focus (repeat (first | (with_reducible assumption) | (with_reducible exact AH.set_same _ _ _) | ((first | refine AH.get_ne ?_ ?_); (first | (with_reducible assumption) | exact Ne.symm (by with_reducible assumption) | exact AH.ne_none (by with_reducible assumption) (by with_reducible assumption))))); done), by (focus (repeat (first | (with_reducible assumption) | (with_reducible exact AH.set_same _ _ _) | ((first | refine AH.get_ne ?_ ?_); (first | (with_reducible assumption) | exact Ne.symm (by with_reducible assumption) | exact AH.ne_none (by with_reducible assumption) (by with_reducible assumption))))); done), by (focus (repeat (first | (with_reducible assumption) | (with_reducible exact AH.set_same _ _ _) | ((first | refine AH.get_ne ?_ ?_); (first | (with_reducible assumption) | exact Ne.symm (by with_reducible assumption) | exact AH.ne_none (by with_reducible assumption) (by with_reducible assumption))))); done), by (focus (repeat (first | (with_reducible assumption) | (with_reducible exact AH.set_same _ _ _) | ((first | refine AH.get_ne ?_ ?_); (first | (with_reducible assumption) | exact Ne.symm (by with_reducible assumption) | exact AH.ne_none (by with_reducible assumption) (by with_reducible assumption))))); done)⟩)
      (fun k v b x0 hc hx _ => ⟨x0, hx, (mv2_c A n _ x0 hx (hA x0 (List.mem_of_getElem? hx)) _ b _ ra va cb 1 (by (focus (repeat (first | (with_reducible assumption) | (with_reducible exact AH.set_same _ _ _) | ((first | refine AH.get_ne ?_ ?_); (first | (with_reducible assumption) | exact Ne.symm (by with_reducible assumption) | exact AH.ne_none (by with_reducible assumption) (by with_reducible assumption))))); done)) (AH.set_same _ _ _)).mono (fun y H' h => ⟨h.1, h.2.trans (AH.set_set _ _ _ _)⟩), trivial, ⟨x0, hx, rfl, rfl⟩, rfl, rfl, rfl⟩)
      k b0 hk hts trivial
    rw [run_mn] at walk1
    have hmv := move_ok hA hnn hp (fun v hv => (hpb v hv).1) hDI hst hr hrp hts htf htn hk (by' := mnF A σ.s k t b0) (by rw [hb0e])
    have hz1 : mnF A σ.s k t b0 ≤ 6553600000 := Int.le_trans mnF_le (by rw [hb0e]; exact hb0)
    have hz0 : 1 ≤ mnF A σ.s k t b0 := mnF_pos hk (by rw [hb0e]; exact hb1)
    have hcap : Cap A σ.s (mnF A σ.s k t b0) k t := mnF_cap (b := b0) (Int.le_refl _)
    generalize mnF A σ.s k t b0 = z at *
    have walk2 := walk_c n hnn A hA hl σ.s r (fun A : List Ac => A) (fun A i x up => A.set i (addF x (sgn up z))) (fun A' => ((F.set c8 (.row [.int .i64 t] 0)).set cb (.row [.int .i64 z] 1)).set ra (.row (acL A') va)) (fun k v A' => MvP n A σ.s r z k v A') 71 cb 1 rs g ra vg va lim t c8 c4 c7 c3
      (fun b => ⟨by (focus (repeat (first | (with_reducible assumption) | (with_reducible exact AH.set_same _ _ _) | ((first | refine AH.get_ne ?_ ?_); (first | (with_reducible assumption) | exact Ne.symm (by with_reducible assumption) | exact AH.ne_none (by with_reducible assumption) (by with_reducible assumption))))); done), by (focus (repeat (first | (with_reducible assumption) | (with_reducible exact AH.set_same _ _ _) | ((first | refine AH.get_ne ?_ ?_); (first | (with_reducible assumption) | exact Ne.symm (by with_reducible assumption) | exact AH.ne_none (by with_reducible assumption) (by with_reducible assumption))))); done), by (focus (repeat (first | (with_reducible assumption) | (with_reducible exact AH.set_same _ _ _) | ((first | refine AH.get_ne ?_ ?_); (first | (with_reducible assumption) | exact Ne.symm (by with_reducible assumption) | exact AH.ne_none (by with_reducible assumption) (by with_reducible assumption))))); done), by (focus (repeat (first | (with_reducible assumption) | (with_reducible exact AH.set_same _ _ _) | ((first | refine AH.get_ne ?_ ?_); (first | (with_reducible assumption) | exact Ne.symm (by with_reducible assumption) | exact AH.ne_none (by with_reducible assumption) (by with_reducible assumption))))); done), by (focus (repeat (first | (with_reducible assumption) | (with_reducible exact AH.set_same _ _ _) | ((first | refine AH.get_ne ?_ ?_); (first | (with_reducible assumption) | exact Ne.symm (by with_reducible assumption) | exact AH.ne_none (by with_reducible assumption) (by with_reducible assumption))))); done), by (focus (repeat (first | (with_reducible assumption) | (with_reducible exact AH.set_same _ _ _) | ((first | refine AH.get_ne ?_ ?_); (first | (with_reducible assumption) | exact Ne.symm (by with_reducible assumption) | exact AH.ne_none (by with_reducible assumption) (by with_reducible assumption))))); done), by (focus (repeat (first | (with_reducible assumption) | (with_reducible exact AH.set_same _ _ _) | ((first | refine AH.get_ne ?_ ?_); (first | (with_reducible assumption) | exact Ne.symm (by with_reducible assumption) | exact AH.ne_none (by with_reducible assumption) (by with_reducible assumption))))); done)⟩)
      (fun k v A' x0 hc hx hP => by
        obtain ⟨q1, q2⟩ := mv_step (by omega) hc hx hP
        refine ⟨x0, q1, (mv3_c A' n _ x0 q1 (hA x0 (List.mem_of_getElem? hx)) _ z (by omega) _ ra va cb 1 (AH.set_same _ _ _) (by (focus (repeat (first | (with_reducible assumption) | (with_reducible exact AH.set_same _ _ _) | ((first | refine AH.get_ne ?_ ?_); (first | (with_reducible assumption) | exact Ne.symm (by with_reducible assumption) | exact AH.ne_none (by with_reducible assumption) (by with_reducible assumption))))); done))).mono (fun y H' h => ⟨h.1, h.2.trans (AH.set_set _ _ _ _)⟩), q2, ⟨_, List.getElem?_set_self (List.getElem?_eq_some_iff.1 q1).1, rfl, rfl⟩, ?_, rfl, rfl⟩
        rw [List.length_set]; exact hP.alk.len)
      k A hk hts ⟨Alk.refl _, hA, hcap, fun _ _ _ _ => rfl⟩
    rw [run_mv, AH.set_id (show ((F.set c8 (.row [.int .i64 t] 0)).set cb (.row [.int .i64 z] 1)) ra = some (.row (acL A) va) by (focus (repeat (first | (with_reducible assumption) | (with_reducible exact AH.set_same _ _ _) | ((first | refine AH.get_ne ?_ ?_); (first | (with_reducible assumption) | exact Ne.symm (by with_reducible assumption) | exact AH.ne_none (by with_reducible assumption) (by with_reducible assumption))))); done))] at walk2
    (repeat' ((conv => whnf); first | refine Then.mk ?_ | left | refine OpsA.cons ?_ | refine OpsA.nil ?_ | refine AWq.seq ?_ | refine AWq.region ?_ | refine AWq.cond ?_ | refine AWq.block ?_ | refine AWq.skip ?_ | refine AWq.exit ?_ | refine AWq.loop ?_ | refine DrawA.consD ?_ | refine DrawA.nil ?_ | refine AWq.draw (by decide +kernel) ?_ | (refine Both.mk ?_ ?_ <;> intro hc <;> (first | exact Bool.noConfusion hc | exact absurd (by assumption) hc | exact absurd hc (by assumption) | (exfalso; omega) | skip)) | (intro c hc; (try (simp only [AH.none_iff] at hc; repeat (have hn := hc.1; replace hc := hc.2))); (first | (refine i64_k hc ?_ ?_ ?_ ; omega; omega; (clear hc; intro hc; subst hc)) | skip)) | (apply Exists.intro; apply And.intro; (focus (repeat (first | assumption | exact AH.set_same _ _ _ | ((first | refine AH.get_ne ?_ ?_); (first | assumption | omega | exact AH.ne_none (by assumption) (by assumption))))); done)) | (apply Exists.intro; apply And.intro; first | (with_reducible assumption) | ((try simp only [List.getElem?_drop, Nat.mul_one, Nat.add_zero, Nat.zero_add]); first | (with_reducible assumption) | assumption | rfl)) | (apply Exists.intro; apply And.intro; (focus (intro G; ((conv => whnf); (try left); (conv => whnf); first | (intro c hc; subst hc; exact And.intro rfl rfl))))) | (apply And.intro; (first | rfl | (with_reducible assumption) | exact Nat.le_of_ble_eq_true rfl | omega | assumption | (simp <;> omega))) | (refine ACall.to (walk1) ?_) | (refine ACall.to (walk2) ?_))) <;> (try (conv => whnf))
    have l1 : HLe H G := by rw [hG]; exact HLe.set_of _ _ (HLe.fresh _ hc3) hc4
    have l2 : HLe G E := by rw [hE]; exact HLe.set_of _ _ (HLe.fresh _ hrd) hGs
    have l3 : HLe E F := by rw [hF]; exact HLe.fresh _ hc7
    have l4 : HLe F ((F.set c8 (.row [.int .i64 t] 0)).set cb (.row [.int .i64 z] 1)) := HLe.set_of _ _ (HLe.fresh _ hc8) hFb
    exact ⟨_, _, AVle.refl _, HLe.set ((l1.trans l2).trans (l3.trans l4)) _ _, _, hmv.1, hmv.2.1, hmv.2.2, rfl, rfl⟩
end Go.Proofs.Ytebflkgpbbjhnaa
/- The frame of the abstract walk, part 33: a call that is told of constants alone may be made with rows that are written later; it leaves them as they were. -/
set_option linter.unusedVariables false
set_option linter.unusedSimpArgs false
namespace Go.Fw
open Go.RowKit

variable {κ : KM} {F : FM} {B : Nat} {w0 w : World} {H : AH} {P : Program} {T : TT}

theorem heap_lt {w : World} {b : Nat} {o : Obj} (h : w.heap[b]? = some o) : b < w.heap.size := (Array.getElem?_eq_some_iff.1 h).1
/-- What is new in memory does not touch what is known. -/
theorem Inv.stay (I : Inv κ F B w0 H w) {w' : World} (h : Below w.heap.size w w') : Inv κ F B w0 H w' := by
  have hb : ∀ {b : Nat} {o : Obj}, w.heap[b]? = some o → w'.heap[b]? = some o := fun {b o} hk => by rw [h.block b (heap_lt hk)]; exact hk
  refine ⟨I.below.trans (h.mono I.base), Nat.le_trans I.base h.size, fun b arr hF => ?_, I.names, fun r o hr => ?_, I.apart⟩
  · obtain ⟨e, fr, hh⟩ := I.fz b arr hF
    exact ⟨e, fr, hb hh⟩
  · have ho := I.objs r o hr
    cases o with
    | row cells v =>
      obtain ⟨i, hi, hrow, hn⟩ := ho
      refine ⟨i, hi, ?_, hn⟩
      cases hblk : i.blk with
      | none => simp only [RowOk, hblk] at hrow ⊢; exact hrow
      | some b =>
        simp only [RowOk, hblk] at hrow ⊢
        obtain ⟨hB, hFb, arr, e, fr, hh, hl, hsz, hlen, hc⟩ := hrow
        exact ⟨hB, hFb, arr, e, fr, hb hh, hl, hsz, hlen, hc⟩
    | map es =>
      obtain ⟨b, i, ents, clock, h1, h2, h3, h4, h5, h6⟩ := ho
      exact ⟨b, i, ents, clock, h1, h2, h3, h4, hb h5, h6⟩
    | obj b o =>
      obtain ⟨i, h1, h2, h3, h4, h5, h6⟩ := ho
      exact ⟨i, h1, h2, h3, h4, hb h5, h6⟩
    | loop b N e L =>
      obtain ⟨i, tmps, h1, h2, h3, h4, h5, h6⟩ := ho
      exact ⟨i, tmps, h1, h2, h3, h4, hb h5, h6⟩

/-- Values without names of rows. -/
inductive Flat : AV → Prop where
  | junk : Flat .junk
  | int (k : IntKind) (n : Int) : Flat (.int k n)
  | bool (b : Bool) : Flat (.bool b)
  | str (s : List UInt8) : Flat (.str s)
  | nilp : Flat .nilp
  | nils : Flat .nils
  | cs (l : List AV) (n : Nat) (h : ∀ x, x ∈ l → Flat x) : Flat (.cs l n)
  | cp (l : List AV) (h : ∀ x, x ∈ l → Flat x) : Flat (.cp l)
  | agg (l : List AV) (h : ∀ x, x ∈ l → Flat x) : Flat (.agg l)
  | tup (l : List AV) (h : ∀ x, x ∈ l → Flat x) : Flat (.tup l)
theorem Flat.vr {κ' : KM} {F' : FM} (hF : FLe F F') {a : AV} {v : Value} (hf : Flat a) (h : VR κ F a v) : VR κ' F' a v := by
  induction h with
  | junk v => exact .junk v
  | int k n => exact .int k n
  | bool b => exact .bool b
  | str s => exact .str s
  | nilp => exact .nilp
  | ptr h => cases hf
  | cp hFb hle _ ih => cases hf with | cp _ hf => exact .cp (hF _ _ hFb) hle fun i hi => ih i hi (hf _ (List.getElem_mem hi))
  | nils a => exact .nils a
  | cs0 a c => exact .cs0 a c
  | cs hFb hle hc _ ih => cases hf with | cs _ _ hf => exact .cs (hF _ _ hFb) hle hc fun i hi => ih i hi (hf _ (List.getElem_mem hi))
  | sl h hoff hlo hc hlen ha => cases hf
  | mapNil => exact .mapNil
  | map h => cases hf
  | fn hA hC _ _ ih1 ih2 => cases hf
  | nilf => exact .nilf
  | agg hA _ ih => cases hf with | agg _ hf => exact .agg hA fun i hi => ih i hi (hf _ (List.getElem_mem hi))
  | tup hA _ ih => cases hf with | tup _ hf => exact .tup hA fun i hi => ih i hi (hf _ (List.getElem_mem hi))
/-- Values without constants in memory. -/
inductive NoF : AV → Prop where
  | junk : NoF .junk
  | int (k : IntKind) (n : Int) : NoF (.int k n)
  | bool (b : Bool) : NoF (.bool b)
  | str (s : List UInt8) : NoF (.str s)
  | nilp : NoF .nilp
  | nils : NoF .nils
  | agg (l : List AV) (h : ∀ x, x ∈ l → NoF x) : NoF (.agg l)
  | tup (l : List AV) (h : ∀ x, x ∈ l → NoF x) : NoF (.tup l)
theorem NoF.vr {κ' : KM} {F' : FM} {a : AV} {v : Value} (hf : NoF a) (h : VR κ F a v) : VR κ' F' a v := by
  induction h with
  | junk v => exact .junk v
  | int k n => exact .int k n
  | bool b => exact .bool b
  | str s => exact .str s
  | nilp => exact .nilp
  | ptr h => cases hf
  | cp hFb hle _ ih => cases hf
  | nils a => exact .nils a
  | cs0 a c => exact .cs0 a c
  | cs hFb hle hc _ ih => cases hf
  | sl h hoff hlo hc hlen ha => cases hf
  | mapNil => exact .mapNil
  | map h => cases hf
  | fn hA hC _ _ ih1 ih2 => cases hf
  | nilf => exact .nilf
  | agg hA _ ih => cases hf with | agg _ hf => exact .agg hA fun i hi => ih i hi (hf _ (List.getElem_mem hi))
  | tup hA _ ih => cases hf with | tup _ hf => exact .tup hA fun i hi => ih i hi (hf _ (List.getElem_mem hi))
/-- An argument, told as a constant. -/
inductive Frz (H : AH) : AV → AV → Prop where
  | flat (a : AV) (h : Flat a) : Frz H a a
  | sl {r v es n : Nat} {lim : Option Nat} {cells : List AV} (hr : H r = some (.row cells v)) (hl : cells.length = n * es) (h : ∀ x, x ∈ cells → Flat x) : Frz H (.sl r v es 0 n lim) (.cs cells n)
inductive Frzs (H : AH) : List AV → List AV → Prop where
  | nil : Frzs H [] []
  | cons {a b : AV} {l m : List AV} (h : Frz H a b) (k : Frzs H l m) : Frzs H (a :: l) (b :: m)
theorem Frz.vr (I : Inv κ F B w0 H w) {a b : AV} (h : Frz H a b) {x : Value} (hv : VR κ F a x) : VR (fun _ _ => none) (startF w) b x := by
  have hF : FLe F (startF w) := fun c arr hc => by
    obtain ⟨e, fr, hh⟩ := I.fz c arr hc
    unfold startF
    rw [hh]
  cases h with
  | flat _ hf => exact hf.vr hF hv
  | sl hr hl hf =>
    rename_i r v es n lim cells
    obtain ⟨i, adr, c, rfl, hi, hie, hlc, hrow, hnx, hadr, lo, hlo0, hlo, hlim⟩ := VR.slOf I hv hr
    rcases hadr with hc | ⟨b', hb', rfl⟩
    · have hn : n = 0 := by omega
      subst hn
      have : cells = [] := List.eq_nil_of_length_eq_zero (by simpa using hl)
      rw [this]; exact .cs0 _ _
    · obtain ⟨i2, hi2, hrow2, _⟩ := I.objs _ _ hr
      have hi2 : κ r v = some i2 := hi2
      rw [hi] at hi2; cases hi2
      simp only [RowOk, hb'] at hrow2
      obtain ⟨hB, hFb, arr, e, fr, hh, hlo2, hsz, hlen, hcell⟩ := hrow2
      refine .cs (arr := arr) (by unfold startF; rw [hh]) (by omega) hlc fun j hj => ?_
      have := hcell j hj
      rw [Nat.zero_add]
      exact (hf _ (List.getElem_mem hj)).vr hF this
theorem Frzs.vrs (I : Inv κ F B w0 H w) : ∀ {l m : List AV}, Frzs H l m → m.length = l.length ∧ ∀ i (hi : i < l.length) (hj : i < m.length), Frz H l[i] m[i]
  | _, _, .nil => ⟨rfl, fun i hi => by simp at hi⟩
  | _, _, .cons h k => by
    obtain ⟨k1, k2⟩ := Frzs.vrs I k
    refine ⟨by simp [k1], fun i hi hj => ?_⟩
    cases i with
    | zero => exact h
    | succ i => exact k2 i (by simpa using hi) (by simpa using hj)
theorem Frzs.cargs (I : Inv κ F B w0 H w) {args args' : List AV} {cargs : Array Value} (ha : Frzs H args args') (hA : VRs κ F args cargs) : VRs (fun _ _ => none) (startF w) args' cargs := by
  obtain ⟨k1, k2⟩ := ha.vrs I
  exact ⟨by rw [hA.1, k1], fun i hi => (k2 i (by rw [← k1]; exact hi) hi).vr I (hA.2 i (by rw [← k1]; exact hi))⟩
/-- The call leaves all that is known as it was. -/
theorem ACall.apart {g : FuncId} {args args' : List AV} {K0 : AV → Prop} (ha : Frzs H args args') (h : ACall P g args' (fun _ => none) fun y _ => ∃ y0, NoF y0 ∧ AVle y y0 ∧ K0 y0) : ACall P g args H fun y H' => K0 y ∧ H' = H := by
  refine ⟨h.ent, fun κ F B w0 w cargs I hA => ?_⟩
  refine (h.run _ _ _ w w cargs (start_inv w) (ha.cargs I hA)).mono ?_
  rintro e w' ⟨v, rfl, y, H', κ', F', hk, hf, I', hv, y0, hy, hle, hK⟩
  exact ⟨v, rfl, y0, H, κ, F, KLe.refl _, FLe.refl _, I.stay I'.below, hy.vr (hle _ _ _ hv), hK, rfl⟩
/-- The same, for a known value. -/
theorem ACall.apart1 {g : FuncId} {args args' : List AV} {y0 : AV} (hy : NoF y0) (ha : Frzs H args args') (h : ∀ H, ACall P g args' H fun y H' => y = y0 ∧ H' = H) : ACall P g args H fun y H' => y = y0 ∧ H' = H :=
  ACall.apart (K0 := fun y => y = y0) ha ((h _).mono fun y H' e => ⟨y0, hy, e.1 ▸ AVle.refl _, rfl⟩)

theorem flat_iS (k : IntKind) (l : List Int) : ∀ x, x ∈ iS k l → Flat x := fun x hx => by
  obtain ⟨n, _, rfl⟩ := List.mem_map.1 hx
  exact .int _ _
end Go.Fw
