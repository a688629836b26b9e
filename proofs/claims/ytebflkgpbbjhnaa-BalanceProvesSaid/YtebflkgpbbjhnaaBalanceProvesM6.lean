/- For the law BalanceProves, part 6 of 7: the frame of the walk, the walks of the functions, the plain law, the row. No conditions. -/
import Derived.Test.YtebflkgpbbjhnaaBalanceProvesM5
/- The law BalanceProves: the contract of the law's function. -/
namespace Go.Proofs.Ytebflkgpbbjhnaa
open Go.Fw Go
set_option linter.unusedVariables false
set_option linter.unusedSimpArgs false

theorem loose0 {n : Nat} {es : List Ed} {fs : List Fx} {A : List Ac} {d o : Nat → Int} (h : Sv n es fs A d o) {i : Nat} (hL : LooseP n es fs i) (hE : ∀ x ∈ es, vE n x) : offS n d o i = 0 := by
  obtain ⟨hi, b, hb, hcl, hlo, hfx⟩ := hL
  have hS : ∀ x ∈ A, (x.a < n ∧ b x.a = true) ↔ (x.b < n ∧ b x.b = true) := by
    intro x hx
    obtain ⟨j, hj⟩ := List.mem_iff_getElem?.1 hx
    have hjl : j < A.length := by
      rcases Nat.lt_or_ge j A.length with h | h
      · exact h
      · rw [List.getElem?_eq_none h] at hj; cases hj
    rw [h.alk.len] at hjl
    obtain ⟨y, hy⟩ : ∃ y, (net0 n es fs)[j]? = some y := ⟨_, List.getElem?_eq_getElem hjl⟩
    obtain ⟨g, hg⟩ := (h.alk j).1 y hy
    rw [hj] at hg
    cases hg
    show (y.a < n ∧ b y.a = true) ↔ (y.b < n ∧ b y.b = true)
    have hym := List.mem_of_getElem? hy
    unfold net0 at hym
    rcases List.mem_append.1 hym with hm | hm
    · obtain ⟨e, he, rfl⟩ := List.mem_map.1 hm
      obtain ⟨v1, v2, v3, v4, v5⟩ := hE e he
      show (e.a.toNat < n ∧ b e.a.toNat = true) ↔ (e.b.toNat < n ∧ b e.b.toNat = true)
      rw [hcl e he]
      constructor
      · exact fun k => ⟨by omega, k.2⟩
      · exact fun k => ⟨by omega, k.2⟩
    · obtain ⟨e, he, rfl⟩ := List.mem_map.1 hm
      show (e.a.toNat < n ∧ b e.a.toNat = true) ↔ (n < n ∧ b n = true)
      rw [hfx e he]
      constructor
      · exact fun k => Bool.noConfusion k.2
      · exact fun k => absurd k.1 (Nat.lt_irrefl n)
  obtain ⟨u, hu, hun, hub⟩ := h.bi.cl (fun v => v < n ∧ b v = true) (fun k => absurd k.1 (Nat.lt_irrefl n)) hS i (by omega) ⟨hi, hb⟩
  have hup := h.bi.up i (by omega)
  have hui : u = i := by
    by_cases hlt : u < i
    · rw [hlo u hlt] at hub; cases hub
    · omega
  have hbs : bsN n o i = i := by unfold bsN; rw [hu, hui, if_neg (by omega)]
  unfold offS
  rw [hbs, Int.toNat_natCast]; omega
theorem loose0_c (n : Nat) (es : List Ed) (fs : List Fx) (hv : validV n es fs = 0) (H : AH) :
    ACall Try.prog 18 [.int .i64 n, .cs (edL es) es.length, .cs (fxL fs) fs.length] H (fun y H' => (∃ L : List Nat, L.length ≤ n ∧ (∀ i ∈ L, LooseP n es fs i) ∧ y = .cs (iS .i64 (L.map fun i : Nat => (i : Int))) L.length) ∧ H' = H) := by
  obtain ⟨⟨_, hn⟩, ⟨he, hf⟩, hE, hF⟩ := validV_ok hv
  refine (loose_c n (by omega) es fs he hf hE hF H).mono ?_
  rintro y H' ⟨L, h1, h2, h3, h4⟩
  exact ⟨⟨L, h1, h2, h3⟩, h4⟩
theorem rcheck_solved {n : Nat} {es : List Ed} {fs : List Fx} {A : List Ac} {d o : Nat → Int} (h : Sv n es fs A d o) (hv : validV n es fs = 0) (H : AH) :
    ACall Try.prog 15 [.int .i64 n, .cs (edL es) es.length, .cs (fxL fs) fs.length, .agg [.cs (iS .i64 (fnL n (offS n d o))) n, .cs (iS .i64 (flE es A)) es.length, .cs (iS .i64 (flF es A)) fs.length, .int .i64 (costR es fs (fnL n (offS n d o))).1]] H (fun y H' => y = .int .i64 0 ∧ H' = H) := by
  obtain ⟨⟨_, hn⟩, ⟨he, hf⟩, hE, hF⟩ := validV_ok hv
  obtain ⟨_, _, _, f4, f5⟩ := h.flows hE hF
  have hc := rcheck_c n es fs hv (fnL n (offS n d o)) (flE es A) (flF es A) (costR es fs (fnL n (offS n d o))).1 (by rw [fnL_len]; omega) (by omega) (by omega) 0 (fun _ => rfl) (fun k => absurd (h.chk hE hF hv) k) H
  rw [fnL_len, f4, f5] at hc
  exact hc
set_option maxHeartbeats 8000000 in
set_option maxRecDepth 8000 in
theorem BalanceProves_c (x0 : Int) (hx0 : -9223372036854775808 ≤ x0 ∧ x0 ≤ 9223372036854775807) (l1 : List Int) (hl1 : l1.length ≤ maxLen) (hr1 : ∀ n ∈ l1, -9223372036854775808 ≤ n ∧ n ≤ 9223372036854775807) (x2 : Int) (hx2 : -9223372036854775808 ≤ x2 ∧ x2 ≤ 9223372036854775807) (x3 : Int) (hx3 : -9223372036854775808 ≤ x3 ∧ x3 ≤ 9223372036854775807) :
    ACall Try.prog 4 [.int .i64 x0, .cs (iS .i64 l1) l1.length, .int .i64 x2, .int .i64 x3] (fun _ => none) (fun y _ => y = .bool true) := by
  have ha1 : ∀ H, ACall Try.prog 11 [.int .i64 x0, .int .i64 10] H (fun y H' => y = .int .i64 (aro x0 10) ∧ H' = H) := fun H => around_f x0 hx0.1 hx0.2 10 (by decide) (by decide) H
  have hn := aro_lt (n := x0) (m := 10) (by decide)
  generalize aro x0 10 = n at *
  have hpr : ∀ H, ACall Try.prog 12 [.int .i64 n, .cs (iS .i64 l1) l1.length, .int .i64 65535] H (fun y H' => y = .tup [.cs (edL (prES n 65535 l1)) (prES n 65535 l1).length, .cs (fxL (prFS n 65535 l1)) (prFS n 65535 l1).length] ∧ H' = H) := fun H => problem_c n 65535 (by omega) (by decide) l1 hr1 hl1 H
  obtain ⟨v1, v2, v3, v4⟩ := pr_valid (n := n) (most := 65535) (by omega) (by decide) l1
  generalize prES n 65535 l1 = es at *
  generalize prFS n 65535 l1 = fs at *
  have hv0 : validV n es fs = 0 := valid0 (by omega) (by omega) (by omega) (fun x hx => (v1 x hx).1) (fun x hx => (v2 x hx).1)
  have hsp := fun H => spoilt_c es fs (by omega) (by omega) x2 x3 hx2 hx3 H
  have hre := fun (es : List Ed) (fs : List Fx) (h1 : es.length ≤ 1000) (h2 : fs.length ≤ 10000) H => real_c es fs (by omega) (by omega) H
  have hva := fun (c : Int) (es : List Ed) (fs : List Fx) (h1 : es.length ≤ 1000) (h2 : fs.length ≤ 10000) H => rvalid_c c es fs (by omega) (by omega) H
  have hsb := fun (c : Int) (es : List Ed) (fs : List Fx) (h1 : es.length ≤ 1000) (h2 : fs.length ≤ 10000) (hv : validV c es fs ≠ 0) H => solve_bad c es fs (by omega) (by omega) hv H
  have he1 : es.length ≤ 1000 := by omega
  have hf1 : fs.length ≤ 10000 := by omega
  clear v1 v2 v3 v4
  generalize (fun _ => none : AH) = H0
  refine ACall_of tt_ok (dok _) Try.func4 rfl (by decide) rfl ?_
  (repeat' ((conv => whnf); first | refine Then.mk ?_ | left | refine OpsA.cons ?_ | refine OpsA.nil ?_ | refine AWq.seq ?_ | refine AWq.region ?_ | refine AWq.cond ?_ | refine AWq.block ?_ | refine AWq.skip ?_ | refine AWq.ret ?_ | refine AWq.exit ?_ | refine AWq.loop ?_ | refine DrawA.consD ?_ | refine DrawA.nil ?_ | refine AWq.draw (by decide +kernel) ?_ | (refine Both.mk ?_ ?_ <;> intro hc <;> (first | exact Bool.noConfusion hc | exact absurd (by with_reducible rfl) hc | exact absurd (by assumption) hc | exact absurd hc (by assumption) | (exfalso; omega) | skip)) | (intro c hc; (try (simp only [AH.none_iff] at hc; repeat (have hn := hc.1; replace hc := hc.2))); (first | (refine i64_k hc ?_ ?_ ?_ ; omega; omega; (clear hc; intro hc; subst hc)) | skip)) | (apply Exists.intro; apply And.intro; (first | (focus (repeat (first | (with_reducible assumption) | (with_reducible exact AH.set_same _ _ _))); done))) | (apply Exists.intro; apply And.intro; first | (with_reducible assumption) | ((try simp only [List.getElem?_drop, Nat.mul_one, Nat.add_zero, Nat.zero_add]); first | (with_reducible assumption) | rfl)) | (apply And.intro; (first | rfl | (with_reducible assumption) | exact Nat.le_of_ble_eq_true rfl | omega)) | (refine ACall.to (ha1 _) ?_) | (refine ACall.to (hpr _) ?_))) <;> (try (conv => whnf))
  refine ACall.mono (hsp _) ?_
  rintro y H' ⟨⟨es', fs', he', hf', rfl⟩, rfl⟩
  clear hsp
  (repeat' ((conv => whnf); first | left | refine OpsA.cons ?_ | refine OpsA.nil ?_ | refine AWq.seq ?_ | refine AWq.region ?_ | refine AWq.cond ?_ | refine AWq.block ?_ | refine AWq.skip ?_ | refine AWq.ret ?_ | refine AWq.exit ?_ | refine AWq.loop ?_ | refine DrawA.consD ?_ | refine DrawA.nil ?_ | refine AWq.draw (by decide +kernel) ?_ | (refine Both.mk ?_ ?_ <;> intro hc <;> (first | exact Bool.noConfusion hc | exact absurd (by with_reducible rfl) hc | exact absurd (by assumption) hc | exact absurd hc (by assumption) | (exfalso; omega) | skip)) | (intro c hc; (try (simp only [AH.none_iff] at hc; repeat (have hn := hc.1; replace hc := hc.2))); (first | (refine i64_k hc ?_ ?_ ?_ ; omega; omega; (clear hc; intro hc; subst hc)) | skip)) | (apply Exists.intro; apply And.intro; (first | (focus (repeat (first | (with_reducible assumption) | (with_reducible exact AH.set_same _ _ _))); done))) | (apply Exists.intro; apply And.intro; first | (with_reducible assumption) | ((try simp only [List.getElem?_drop, Nat.mul_one, Nat.add_zero, Nat.zero_add]); first | (with_reducible assumption) | rfl)) | (apply And.intro; (first | rfl | (with_reducible assumption) | exact Nat.le_of_ble_eq_true rfl | omega)))) <;> (try (conv => whnf))
  refine Then.mk ?_
  (repeat' ((conv => whnf); first | refine Then.mk ?_ | left | refine OpsA.cons ?_ | refine OpsA.nil ?_ | refine AWq.seq ?_ | refine AWq.region ?_ | refine AWq.cond ?_ | refine AWq.block ?_ | refine AWq.skip ?_ | refine AWq.ret ?_ | refine AWq.exit ?_ | refine AWq.loop ?_ | refine DrawA.consD ?_ | refine DrawA.nil ?_ | refine AWq.draw (by decide +kernel) ?_ | (refine Both.mk ?_ ?_ <;> intro hc <;> (first | exact Bool.noConfusion hc | exact absurd (by with_reducible rfl) hc | exact absurd (by assumption) hc | exact absurd hc (by assumption) | (exfalso; omega) | skip)) | (intro c hc; (try (simp only [AH.none_iff] at hc; repeat (have hn := hc.1; replace hc := hc.2))); (first | (refine i64_k hc ?_ ?_ ?_ ; omega; omega; (clear hc; intro hc; subst hc)) | skip)) | (apply Exists.intro; apply And.intro; (first | (focus (repeat (first | (with_reducible assumption) | (with_reducible exact AH.set_same _ _ _))); done))) | (apply Exists.intro; apply And.intro; first | (with_reducible assumption) | ((try simp only [List.getElem?_drop, Nat.mul_one, Nat.add_zero, Nat.zero_add]); first | (with_reducible assumption) | rfl)) | (apply And.intro; (first | rfl | (with_reducible assumption) | exact Nat.le_of_ble_eq_true rfl | omega)))) <;> (try (conv => whnf))
  refine AWp_loop (σ := Nat) (8 :: 15 :: 16 :: 17 :: 18 :: 19 :: 20 :: 21 :: 22 :: 23 :: 24 :: 45 :: 46 :: 47 :: 48 :: 49 :: 50 :: 51 :: 52 :: 53 :: 54 :: 55 :: 56 :: 57 :: 58 :: 59 :: 60 :: 61 :: 62 :: 63 :: 64 :: 65 :: 66 :: 67 :: 68 :: 69 :: 70 :: 71 :: 72 :: 73 :: 74 :: 75 :: 76 :: 77 :: 78 :: 79 :: 80 :: 81 :: 82 :: 83 :: 84 :: 85 :: 86 :: 87 :: 88 :: 89 :: 90 :: 91 :: 92 :: 93 :: 94 :: 95 :: 96 :: 97 :: 98 :: 99 :: 100 :: 101 :: 102 :: 103 :: 104 :: 105 :: 106 :: 107 :: 108 :: 109 :: 110 :: 111 :: 112 :: 113 :: 114 :: 115 :: 116 :: 117 :: 118 :: 119 :: 120 :: 121 :: 122 :: 123 :: 124 :: 125 :: 126 :: 127 :: 128 :: 129 :: 130 :: 131 :: 132 :: 133 :: 134 :: 135 :: 136 :: 137 :: 138 :: 139 :: 140 :: 141 :: 142 :: 143 :: 144 :: 145 :: []) (fun k => [(15, .int .i64 k)]) (fun k => H') (fun k => k ≤ 3) (fun k => 3 - k) 0 rfl (Nat.zero_le _) ⟨rfl, trivial⟩ (HLe.refl _) ?_
  intro k hk
  dsimp only at hk ⊢
  refine AWp.of tt_ok (dok _) rfl ?_
  rcases (show k = 0 ∨ k = 1 ∨ k = 2 ∨ k = 3 by omega) with rfl | rfl | rfl | rfl
  · have r1 := hre es fs he1 hf1
    have r2 := hva (n : Int) es fs he1 hf1
    have r3 := hsb (n : Int) es fs he1 hf1
    clear hre hva hsb
    by_cases hvz : validV (n : Int) es fs = 0
    · rw [hvz] at r2
      clear r3
      by_cases hlong : 100 < fs.length
      · (repeat' ((conv => whnf); first | refine Then.mk ?_ | left | refine OpsA.cons ?_ | refine OpsA.nil ?_ | refine AWq.seq ?_ | refine AWq.region ?_ | refine AWq.cond ?_ | refine AWq.block ?_ | refine AWq.skip ?_ | refine AWq.ret ?_ | refine AWq.exit ?_ | refine AWq.loop ?_ | refine DrawA.consD ?_ | refine DrawA.nil ?_ | refine AWq.draw (by decide +kernel) ?_ | (refine Both.mk ?_ ?_ <;> intro hc <;> (first | exact Bool.noConfusion hc | exact absurd (by with_reducible rfl) hc | exact absurd (by assumption) hc | exact absurd hc (by assumption) | (exfalso; omega) | skip)) | (intro c hc; (try (simp only [AH.none_iff] at hc; repeat (have hn := hc.1; replace hc := hc.2))); (first | (refine i64_k hc ?_ ?_ ?_ ; omega; omega; (clear hc; intro hc; subst hc)) | skip)) | (apply Exists.intro; apply And.intro; (first | (focus (repeat (first | (with_reducible assumption) | (with_reducible exact AH.set_same _ _ _))); done))) | (apply Exists.intro; apply And.intro; first | (with_reducible assumption) | ((try simp only [List.getElem?_drop, Nat.mul_one, Nat.add_zero, Nat.zero_add]); first | (with_reducible assumption) | rfl)) | (apply And.intro; (first | rfl | (with_reducible assumption) | exact Nat.le_of_ble_eq_true rfl | omega)) | (refine ACall.to (r1 _) ?_) | (refine ACall.to (r2 _) ?_))) <;> (try (conv => whnf))
        exact ⟨0 + 1, by decide, by decide, ⟨rfl, trivial⟩, HLe.refl _⟩
      · obtain ⟨⟨hm0, hm1⟩, _, hE, hF⟩ := validV_ok hvz
        obtain ⟨m, hm⟩ : ∃ m : Nat, m = ((n : Int)).toNat := ⟨_, rfl⟩
        have hcm : ((n : Int) : Int) = (m : Int) := by omega
        rw [hcm] at hvz hE hF r2
        have s1 := fun H => solve_c m es fs hvz H
        have s2 := fun H => loose0_c m es fs hvz H
        rw [← hcm] at s1 s2 r2
        (repeat' ((conv => whnf); first | refine Then.mk ?_ | left | refine OpsA.cons ?_ | refine OpsA.nil ?_ | refine AWq.seq ?_ | refine AWq.region ?_ | refine AWq.cond ?_ | refine AWq.block ?_ | refine AWq.skip ?_ | refine AWq.ret ?_ | refine AWq.exit ?_ | refine AWq.loop ?_ | refine DrawA.consD ?_ | refine DrawA.nil ?_ | refine AWq.draw (by decide +kernel) ?_ | (refine Both.mk ?_ ?_ <;> intro hc <;> (first | exact Bool.noConfusion hc | exact absurd (by with_reducible rfl) hc | exact absurd (by assumption) hc | exact absurd hc (by assumption) | (exfalso; omega) | skip)) | (intro c hc; (try (simp only [AH.none_iff] at hc; repeat (have hn := hc.1; replace hc := hc.2))); (first | (refine i64_k hc ?_ ?_ ?_ ; omega; omega; (clear hc; intro hc; subst hc)) | skip)) | (apply Exists.intro; apply And.intro; (first | (focus (repeat (first | (with_reducible assumption) | (with_reducible exact AH.set_same _ _ _))); done))) | (apply Exists.intro; apply And.intro; first | (with_reducible assumption) | ((try simp only [List.getElem?_drop, Nat.mul_one, Nat.add_zero, Nat.zero_add]); first | (with_reducible assumption) | rfl)) | (apply And.intro; (first | rfl | (with_reducible assumption) | exact Nat.le_of_ble_eq_true rfl | omega)) | (refine ACall.to (r1 _) ?_) | (refine ACall.to (r2 _) ?_))) <;> (try (conv => whnf))
        refine ACall.mono (s1 _) ?_
        rintro y H2 ⟨A, dd, oo, hSv, rfl, rfl⟩
        have c1 := fun H => check_solved hSv hvz H
        have c2 := fun H => rcheck_solved hSv hvz H
        have hz := fun i (hL : LooseP m es fs i) => loose0 hSv hL hE
        have hon := one_iS .i64 (fnL m (offS m dd oo))
        have hol : (iS .i64 (fnL m (offS m dd oo))).length = m := by simp
        have hog : ∀ i : Nat, i < m → (iS .i64 (fnL m (offS m dd oo)))[i]? = some (.int .i64 (offS m dd oo i)) := fun i hi => dL_get _ hi
        unfold solV
        generalize (costR es fs (fnL m (offS m dd oo))).1 = cc at *
        generalize iS .i64 (fnL m (offS m dd oo)) = OL at *
        generalize iS .i64 (flE es A) = EL at *
        generalize iS .i64 (flF es A) = FL at *
        (repeat' ((conv => whnf); first | left | refine OpsA.cons ?_ | refine OpsA.nil ?_ | refine AWq.seq ?_ | refine AWq.region ?_ | refine AWq.cond ?_ | refine AWq.block ?_ | refine AWq.skip ?_ | refine AWq.ret ?_ | refine AWq.exit ?_ | refine AWq.loop ?_ | refine DrawA.consD ?_ | refine DrawA.nil ?_ | refine AWq.draw (by decide +kernel) ?_ | (refine Both.mk ?_ ?_ <;> intro hc <;> (first | exact Bool.noConfusion hc | exact absurd (by with_reducible rfl) hc | exact absurd (by assumption) hc | exact absurd hc (by assumption) | (exfalso; omega) | skip)) | (intro c hc; (try (simp only [AH.none_iff] at hc; repeat (have hn := hc.1; replace hc := hc.2))); (first | (refine i64_k hc ?_ ?_ ?_ ; omega; omega; (clear hc; intro hc; subst hc)) | skip)) | (apply Exists.intro; apply And.intro; (first | (focus (repeat (first | (with_reducible assumption) | (with_reducible exact AH.set_same _ _ _))); done))) | (apply Exists.intro; apply And.intro; first | (with_reducible assumption) | ((try simp only [List.getElem?_drop, Nat.mul_one, Nat.add_zero, Nat.zero_add]); first | (with_reducible assumption) | rfl)) | (apply And.intro; (first | rfl | (with_reducible assumption) | exact Nat.le_of_ble_eq_true rfl | omega)))) <;> (try (conv => whnf))
        refine Then.mk (AWq.in ?_)
        refine AWp_segP 21 [.cs OL m, .cs EL es.length, .cs FL fs.length, .int .i64 cc] rfl rfl (by assumption) rfl rfl ?_
        rw [← hcm] at c1 c2
        refine AWp.of tt_ok (dok _) rfl ?_
        (repeat' ((conv => whnf); first | refine Then.mk ?_ | left | refine OpsA.cons ?_ | refine OpsA.nil ?_ | refine AWq.seq ?_ | refine AWq.region ?_ | refine AWq.cond ?_ | refine AWq.block ?_ | refine AWq.skip ?_ | refine AWq.ret ?_ | refine AWq.exit ?_ | refine AWq.loop ?_ | refine DrawA.consD ?_ | refine DrawA.nil ?_ | refine AWq.draw (by decide +kernel) ?_ | (apply Exists.intro; apply And.intro; exact plain_c _ _ _ _ _ _ _ _) | (apply Exists.intro; apply And.intro; exact c1 _) | (apply Exists.intro; apply And.intro; exact c2 _) | (refine Both.mk ?_ ?_ <;> intro hc <;> (first | exact Bool.noConfusion hc | exact absurd (by with_reducible rfl) hc | exact absurd (by assumption) hc | exact absurd hc (by assumption) | (exfalso; omega) | skip)) | (intro c hc; (try (simp only [AH.none_iff] at hc; repeat (have hn := hc.1; replace hc := hc.2))); (first | (refine i64_k hc ?_ ?_ ?_ ; omega; omega; (clear hc; intro hc; subst hc)) | skip)) | (apply Exists.intro; apply And.intro; (first | (focus (repeat (first | (with_reducible assumption) | (with_reducible exact AH.set_same _ _ _))); done))) | (apply Exists.intro; apply And.intro; first | (with_reducible assumption) | ((try simp only [List.getElem?_drop, Nat.mul_one, Nat.add_zero, Nat.zero_add]); first | (with_reducible assumption) | rfl)) | (apply And.intro; (first | rfl | (with_reducible assumption) | exact Nat.le_of_ble_eq_true rfl | omega)))) <;> (try (conv => whnf))
        refine ACall.mono (s2 _) ?_
        rintro y H3 ⟨⟨L, hLl, hL, rfl⟩, rfl⟩
        have hLg : ∀ (j : Nat) (i : Nat), L[j]? = some i → (iS .i64 (L.map fun i : Nat => (i : Int)))[(j : Int).toNat]? = some (.int .i64 (i : Int)) := fun j i h => by
          unfold iS
          rw [List.getElem?_map, List.getElem?_map, Int.toNat_natCast, h]; rfl
        have hLn : (iS .i64 (L.map fun i : Nat => (i : Int))).length = L.length := by simp
        have hLo := one_iS .i64 (L.map fun i : Nat => (i : Int))
        generalize iS .i64 (L.map fun i : Nat => (i : Int)) = RL at *
        (repeat' ((conv => whnf); first | refine Then.mk ?_ | left | refine OpsA.cons ?_ | refine OpsA.nil ?_ | refine AWq.seq ?_ | refine AWq.region ?_ | refine AWq.cond ?_ | refine AWq.block ?_ | refine AWq.skip ?_ | refine AWq.ret ?_ | refine AWq.exit ?_ | refine AWq.loop ?_ | refine DrawA.consD ?_ | refine DrawA.nil ?_ | refine AWq.draw (by decide +kernel) ?_ | (refine Both.mk ?_ ?_ <;> intro hc <;> (first | exact Bool.noConfusion hc | exact absurd (by with_reducible rfl) hc | exact absurd (by assumption) hc | exact absurd hc (by assumption) | (exfalso; omega) | skip)) | (intro c hc; (try (simp only [AH.none_iff] at hc; repeat (have hn := hc.1; replace hc := hc.2))); (first | (refine i64_k hc ?_ ?_ ?_ ; omega; omega; (clear hc; intro hc; subst hc)) | skip)) | (apply Exists.intro; apply And.intro; (first | (focus (repeat (first | (with_reducible assumption) | (with_reducible exact AH.set_same _ _ _))); done))) | (apply Exists.intro; apply And.intro; first | (with_reducible assumption) | ((try simp only [List.getElem?_drop, Nat.mul_one, Nat.add_zero, Nat.zero_add]); first | (with_reducible assumption) | rfl)) | (apply And.intro; (first | rfl | (with_reducible assumption) | exact Nat.le_of_ble_eq_true rfl | omega)))) <;> (try (conv => whnf))
        refine AWp_loop (σ := Nat) (8 :: 24 :: 127 :: 128 :: 129 :: 130 :: 131 :: 132 :: 133 :: 134 :: 135 :: 136 :: 137 :: 138 :: 139 :: 140 :: 141 :: 142 :: 143 :: 144 :: 145 :: []) (fun j => [(24, .int .i64 j)]) (fun j => H3) (fun j => j ≤ L.length ∧ (0 ≠ 0 → j = 0)) (fun j => L.length - j) 0 rfl ⟨Nat.zero_le _, fun _ => rfl⟩ ⟨rfl, trivial⟩ (HLe.refl _) ?_
        rintro j ⟨hj, hj0⟩
        dsimp only at hj hj0 ⊢
        refine AWp.of tt_ok (dok _) rfl ?_
        by_cases hjl : j < L.length
        · obtain ⟨i, hLi⟩ : ∃ i, L[j]? = some i := ⟨_, List.getElem?_eq_getElem hjl⟩
          have hLP := hL i (List.mem_of_getElem? hLi)
          have g1 := hLg j i hLi
          have g2 : OL[(i : Int).toNat]? = some (.int .i64 0) := by
            have := hog i hLP.1
            rw [hz i hLP] at this
            rw [Int.toNat_natCast]; exact this
          have hin := hLP.1
          (repeat' ((conv => whnf); first | refine Then.mk ?_ | left | refine OpsA.cons ?_ | refine OpsA.nil ?_ | refine AWq.seq ?_ | refine AWq.region ?_ | refine AWq.cond ?_ | refine AWq.block ?_ | refine AWq.skip ?_ | refine AWq.ret ?_ | refine AWq.exit ?_ | refine AWq.loop ?_ | refine DrawA.consD ?_ | refine DrawA.nil ?_ | refine AWq.draw (by decide +kernel) ?_ | (refine Both.mk ?_ ?_ <;> intro hc <;> (first | exact Bool.noConfusion hc | exact absurd (by with_reducible rfl) hc | exact absurd (by assumption) hc | exact absurd hc (by assumption) | (exfalso; omega) | skip)) | (intro c hc; (try (simp only [AH.none_iff] at hc; repeat (have hn := hc.1; replace hc := hc.2))); (first | (refine i64_k hc ?_ ?_ ?_ ; omega; omega; (clear hc; intro hc; subst hc)) | skip)) | (apply Exists.intro; apply And.intro; (first | (focus (repeat (first | (with_reducible assumption) | (with_reducible exact AH.set_same _ _ _))); done))) | (apply Exists.intro; apply And.intro; first | (with_reducible assumption) | ((try simp only [List.getElem?_drop, Nat.mul_one, Nat.add_zero, Nat.zero_add]); first | (with_reducible assumption) | rfl)) | (apply And.intro; (first | rfl | (with_reducible assumption) | exact Nat.le_of_ble_eq_true rfl | omega)))) <;> (try (conv => whnf))
          all_goals first | exact ⟨j + 1, ⟨hjl, fun h => absurd rfl h⟩, by omega, ⟨congrArg (AV.int .i64) (by omega), trivial⟩, HLe.refl _⟩ | exact ⟨0 + 1, by decide, by decide, ⟨rfl, trivial⟩, HLe.refl _⟩
        · (repeat' ((conv => whnf); first | refine Then.mk ?_ | left | refine OpsA.cons ?_ | refine OpsA.nil ?_ | refine AWq.seq ?_ | refine AWq.region ?_ | refine AWq.cond ?_ | refine AWq.block ?_ | refine AWq.skip ?_ | refine AWq.ret ?_ | refine AWq.exit ?_ | refine AWq.loop ?_ | refine DrawA.consD ?_ | refine DrawA.nil ?_ | refine AWq.draw (by decide +kernel) ?_ | (refine Both.mk ?_ ?_ <;> intro hc <;> (first | exact Bool.noConfusion hc | exact absurd (by with_reducible rfl) hc | exact absurd (by assumption) hc | exact absurd hc (by assumption) | (exfalso; omega) | skip)) | (intro c hc; (try (simp only [AH.none_iff] at hc; repeat (have hn := hc.1; replace hc := hc.2))); (first | (refine i64_k hc ?_ ?_ ?_ ; omega; omega; (clear hc; intro hc; subst hc)) | skip)) | (apply Exists.intro; apply And.intro; (first | (focus (repeat (first | (with_reducible assumption) | (with_reducible exact AH.set_same _ _ _))); done))) | (apply Exists.intro; apply And.intro; first | (with_reducible assumption) | ((try simp only [List.getElem?_drop, Nat.mul_one, Nat.add_zero, Nat.zero_add]); first | (with_reducible assumption) | rfl)) | (apply And.intro; (first | rfl | (with_reducible assumption) | exact Nat.le_of_ble_eq_true rfl | omega)))) <;> (try (conv => whnf))
          exact ⟨0 + 1, by decide, by decide, ⟨rfl, trivial⟩, HLe.refl _⟩
    · have s3 := r3 hvz
      clear r3
      (repeat' ((conv => whnf); first | refine Then.mk ?_ | left | refine OpsA.cons ?_ | refine OpsA.nil ?_ | refine AWq.seq ?_ | refine AWq.region ?_ | refine AWq.cond ?_ | refine AWq.block ?_ | refine AWq.skip ?_ | refine AWq.ret ?_ | refine AWq.exit ?_ | refine AWq.loop ?_ | refine DrawA.consD ?_ | refine DrawA.nil ?_ | refine AWq.draw (by decide +kernel) ?_ | (refine Both.mk ?_ ?_ <;> intro hc <;> (first | exact Bool.noConfusion hc | exact absurd (by with_reducible rfl) hc | exact absurd (by assumption) hc | exact absurd hc (by assumption) | (exfalso; omega) | skip)) | (intro c hc; (try (simp only [AH.none_iff] at hc; repeat (have hn := hc.1; replace hc := hc.2))); (first | (refine i64_k hc ?_ ?_ ?_ ; omega; omega; (clear hc; intro hc; subst hc)) | skip)) | (apply Exists.intro; apply And.intro; (first | (focus (repeat (first | (with_reducible assumption) | (with_reducible exact AH.set_same _ _ _))); done))) | (apply Exists.intro; apply And.intro; first | (with_reducible assumption) | ((try simp only [List.getElem?_drop, Nat.mul_one, Nat.add_zero, Nat.zero_add]); first | (with_reducible assumption) | rfl)) | (apply And.intro; (first | rfl | (with_reducible assumption) | exact Nat.le_of_ble_eq_true rfl | omega)) | (refine ACall.to (r1 _) ?_) | (refine ACall.to (r2 _) ?_) | (refine ACall.to (s3 _) ?_))) <;> (try (conv => whnf))
      all_goals
        refine ⟨0 + 1, by decide, by decide, ⟨rfl, trivial⟩, ?_⟩
        dsimp only
        (first | ((repeat' (first | (with_reducible exact HLe.refl _) | (with_reducible assumption) | refine HLe.set_of _ _ ?_ ?_)); done))
  · have r1 := hre es' fs' he' hf'
    have r2 := hva (n : Int) es' fs' he' hf'
    have r3 := hsb (n : Int) es' fs' he' hf'
    clear hre hva hsb
    by_cases hvz : validV (n : Int) es' fs' = 0
    · rw [hvz] at r2
      clear r3
      by_cases hlong : 100 < fs'.length
      · (repeat' ((conv => whnf); first | refine Then.mk ?_ | left | refine OpsA.cons ?_ | refine OpsA.nil ?_ | refine AWq.seq ?_ | refine AWq.region ?_ | refine AWq.cond ?_ | refine AWq.block ?_ | refine AWq.skip ?_ | refine AWq.ret ?_ | refine AWq.exit ?_ | refine AWq.loop ?_ | refine DrawA.consD ?_ | refine DrawA.nil ?_ | refine AWq.draw (by decide +kernel) ?_ | (refine Both.mk ?_ ?_ <;> intro hc <;> (first | exact Bool.noConfusion hc | exact absurd (by with_reducible rfl) hc | exact absurd (by assumption) hc | exact absurd hc (by assumption) | (exfalso; omega) | skip)) | (intro c hc; (try (simp only [AH.none_iff] at hc; repeat (have hn := hc.1; replace hc := hc.2))); (first | (refine i64_k hc ?_ ?_ ?_ ; omega; omega; (clear hc; intro hc; subst hc)) | skip)) | (apply Exists.intro; apply And.intro; (first | (focus (repeat (first | (with_reducible assumption) | (with_reducible exact AH.set_same _ _ _))); done))) | (apply Exists.intro; apply And.intro; first | (with_reducible assumption) | ((try simp only [List.getElem?_drop, Nat.mul_one, Nat.add_zero, Nat.zero_add]); first | (with_reducible assumption) | rfl)) | (apply And.intro; (first | rfl | (with_reducible assumption) | exact Nat.le_of_ble_eq_true rfl | omega)) | (refine ACall.to (r1 _) ?_) | (refine ACall.to (r2 _) ?_))) <;> (try (conv => whnf))
        exact ⟨1 + 1, by decide, by decide, ⟨rfl, trivial⟩, HLe.refl _⟩
      · obtain ⟨⟨hm0, hm1⟩, _, hE, hF⟩ := validV_ok hvz
        obtain ⟨m, hm⟩ : ∃ m : Nat, m = ((n : Int)).toNat := ⟨_, rfl⟩
        have hcm : ((n : Int) : Int) = (m : Int) := by omega
        rw [hcm] at hvz hE hF r2
        have s1 := fun H => solve_c m es' fs' hvz H
        have s2 := fun H => loose0_c m es' fs' hvz H
        rw [← hcm] at s1 s2 r2
        (repeat' ((conv => whnf); first | refine Then.mk ?_ | left | refine OpsA.cons ?_ | refine OpsA.nil ?_ | refine AWq.seq ?_ | refine AWq.region ?_ | refine AWq.cond ?_ | refine AWq.block ?_ | refine AWq.skip ?_ | refine AWq.ret ?_ | refine AWq.exit ?_ | refine AWq.loop ?_ | refine DrawA.consD ?_ | refine DrawA.nil ?_ | refine AWq.draw (by decide +kernel) ?_ | (refine Both.mk ?_ ?_ <;> intro hc <;> (first | exact Bool.noConfusion hc | exact absurd (by with_reducible rfl) hc | exact absurd (by assumption) hc | exact absurd hc (by assumption) | (exfalso; omega) | skip)) | (intro c hc; (try (simp only [AH.none_iff] at hc; repeat (have hn := hc.1; replace hc := hc.2))); (first | (refine i64_k hc ?_ ?_ ?_ ; omega; omega; (clear hc; intro hc; subst hc)) | skip)) | (apply Exists.intro; apply And.intro; (first | (focus (repeat (first | (with_reducible assumption) | (with_reducible exact AH.set_same _ _ _))); done))) | (apply Exists.intro; apply And.intro; first | (with_reducible assumption) | ((try simp only [List.getElem?_drop, Nat.mul_one, Nat.add_zero, Nat.zero_add]); first | (with_reducible assumption) | rfl)) | (apply And.intro; (first | rfl | (with_reducible assumption) | exact Nat.le_of_ble_eq_true rfl | omega)) | (refine ACall.to (r1 _) ?_) | (refine ACall.to (r2 _) ?_))) <;> (try (conv => whnf))
        refine ACall.mono (s1 _) ?_
        rintro y H2 ⟨A, dd, oo, hSv, rfl, rfl⟩
        have c1 := fun H => check_solved hSv hvz H
        have c2 := fun H => rcheck_solved hSv hvz H
        have hz := fun i (hL : LooseP m es' fs' i) => loose0 hSv hL hE
        have hon := one_iS .i64 (fnL m (offS m dd oo))
        have hol : (iS .i64 (fnL m (offS m dd oo))).length = m := by simp
        have hog : ∀ i : Nat, i < m → (iS .i64 (fnL m (offS m dd oo)))[i]? = some (.int .i64 (offS m dd oo i)) := fun i hi => dL_get _ hi
        unfold solV
        generalize (costR es' fs' (fnL m (offS m dd oo))).1 = cc at *
        generalize iS .i64 (fnL m (offS m dd oo)) = OL at *
        generalize iS .i64 (flE es' A) = EL at *
        generalize iS .i64 (flF es' A) = FL at *
        (repeat' ((conv => whnf); first | left | refine OpsA.cons ?_ | refine OpsA.nil ?_ | refine AWq.seq ?_ | refine AWq.region ?_ | refine AWq.cond ?_ | refine AWq.block ?_ | refine AWq.skip ?_ | refine AWq.ret ?_ | refine AWq.exit ?_ | refine AWq.loop ?_ | refine DrawA.consD ?_ | refine DrawA.nil ?_ | refine AWq.draw (by decide +kernel) ?_ | (refine Both.mk ?_ ?_ <;> intro hc <;> (first | exact Bool.noConfusion hc | exact absurd (by with_reducible rfl) hc | exact absurd (by assumption) hc | exact absurd hc (by assumption) | (exfalso; omega) | skip)) | (intro c hc; (try (simp only [AH.none_iff] at hc; repeat (have hn := hc.1; replace hc := hc.2))); (first | (refine i64_k hc ?_ ?_ ?_ ; omega; omega; (clear hc; intro hc; subst hc)) | skip)) | (apply Exists.intro; apply And.intro; (first | (focus (repeat (first | (with_reducible assumption) | (with_reducible exact AH.set_same _ _ _))); done))) | (apply Exists.intro; apply And.intro; first | (with_reducible assumption) | ((try simp only [List.getElem?_drop, Nat.mul_one, Nat.add_zero, Nat.zero_add]); first | (with_reducible assumption) | rfl)) | (apply And.intro; (first | rfl | (with_reducible assumption) | exact Nat.le_of_ble_eq_true rfl | omega)))) <;> (try (conv => whnf))
        refine Then.mk (AWq.in ?_)
        refine AWp_segP 21 [.cs OL m, .cs EL es'.length, .cs FL fs'.length, .int .i64 cc] rfl rfl (by assumption) rfl rfl ?_
        rw [← hcm] at c1 c2
        refine AWp.of tt_ok (dok _) rfl ?_
        (repeat' ((conv => whnf); first | refine Then.mk ?_ | left | refine OpsA.cons ?_ | refine OpsA.nil ?_ | refine AWq.seq ?_ | refine AWq.region ?_ | refine AWq.cond ?_ | refine AWq.block ?_ | refine AWq.skip ?_ | refine AWq.ret ?_ | refine AWq.exit ?_ | refine AWq.loop ?_ | refine DrawA.consD ?_ | refine DrawA.nil ?_ | refine AWq.draw (by decide +kernel) ?_ | (apply Exists.intro; apply And.intro; exact plain_c _ _ _ _ _ _ _ _) | (apply Exists.intro; apply And.intro; exact c1 _) | (apply Exists.intro; apply And.intro; exact c2 _) | (refine Both.mk ?_ ?_ <;> intro hc <;> (first | exact Bool.noConfusion hc | exact absurd (by with_reducible rfl) hc | exact absurd (by assumption) hc | exact absurd hc (by assumption) | (exfalso; omega) | skip)) | (intro c hc; (try (simp only [AH.none_iff] at hc; repeat (have hn := hc.1; replace hc := hc.2))); (first | (refine i64_k hc ?_ ?_ ?_ ; omega; omega; (clear hc; intro hc; subst hc)) | skip)) | (apply Exists.intro; apply And.intro; (first | (focus (repeat (first | (with_reducible assumption) | (with_reducible exact AH.set_same _ _ _))); done))) | (apply Exists.intro; apply And.intro; first | (with_reducible assumption) | ((try simp only [List.getElem?_drop, Nat.mul_one, Nat.add_zero, Nat.zero_add]); first | (with_reducible assumption) | rfl)) | (apply And.intro; (first | rfl | (with_reducible assumption) | exact Nat.le_of_ble_eq_true rfl | omega)))) <;> (try (conv => whnf))
        refine ACall.mono (s2 _) ?_
        rintro y H3 ⟨⟨L, hLl, hL, rfl⟩, rfl⟩
        have hLg : ∀ (j : Nat) (i : Nat), L[j]? = some i → (iS .i64 (L.map fun i : Nat => (i : Int)))[(j : Int).toNat]? = some (.int .i64 (i : Int)) := fun j i h => by
          unfold iS
          rw [List.getElem?_map, List.getElem?_map, Int.toNat_natCast, h]; rfl
        have hLn : (iS .i64 (L.map fun i : Nat => (i : Int))).length = L.length := by simp
        have hLo := one_iS .i64 (L.map fun i : Nat => (i : Int))
        generalize iS .i64 (L.map fun i : Nat => (i : Int)) = RL at *
        (repeat' ((conv => whnf); first | refine Then.mk ?_ | left | refine OpsA.cons ?_ | refine OpsA.nil ?_ | refine AWq.seq ?_ | refine AWq.region ?_ | refine AWq.cond ?_ | refine AWq.block ?_ | refine AWq.skip ?_ | refine AWq.ret ?_ | refine AWq.exit ?_ | refine AWq.loop ?_ | refine DrawA.consD ?_ | refine DrawA.nil ?_ | refine AWq.draw (by decide +kernel) ?_ | (refine Both.mk ?_ ?_ <;> intro hc <;> (first | exact Bool.noConfusion hc | exact absurd (by with_reducible rfl) hc | exact absurd (by assumption) hc | exact absurd hc (by assumption) | (exfalso; omega) | skip)) | (intro c hc; (try (simp only [AH.none_iff] at hc; repeat (have hn := hc.1; replace hc := hc.2))); (first | (refine i64_k hc ?_ ?_ ?_ ; omega; omega; (clear hc; intro hc; subst hc)) | skip)) | (apply Exists.intro; apply And.intro; (first | (focus (repeat (first | (with_reducible assumption) | (with_reducible exact AH.set_same _ _ _))); done))) | (apply Exists.intro; apply And.intro; first | (with_reducible assumption) | ((try simp only [List.getElem?_drop, Nat.mul_one, Nat.add_zero, Nat.zero_add]); first | (with_reducible assumption) | rfl)) | (apply And.intro; (first | rfl | (with_reducible assumption) | exact Nat.le_of_ble_eq_true rfl | omega)))) <;> (try (conv => whnf))
        refine AWp_loop (σ := Nat) (8 :: 24 :: 127 :: 128 :: 129 :: 130 :: 131 :: 132 :: 133 :: 134 :: 135 :: 136 :: 137 :: 138 :: 139 :: 140 :: 141 :: 142 :: 143 :: 144 :: 145 :: []) (fun j => [(24, .int .i64 j)]) (fun j => H3) (fun j => j ≤ L.length ∧ (1 ≠ 0 → j = 0)) (fun j => L.length - j) 0 rfl ⟨Nat.zero_le _, fun _ => rfl⟩ ⟨rfl, trivial⟩ (HLe.refl _) ?_
        rintro j ⟨hj, hj0⟩
        dsimp only at hj hj0 ⊢
        refine AWp.of tt_ok (dok _) rfl ?_
        by_cases hjl : j < L.length
        · obtain ⟨i, hLi⟩ : ∃ i, L[j]? = some i := ⟨_, List.getElem?_eq_getElem hjl⟩
          have hLP := hL i (List.mem_of_getElem? hLi)
          have g1 := hLg j i hLi
          have g2 : OL[(i : Int).toNat]? = some (.int .i64 0) := by
            have := hog i hLP.1
            rw [hz i hLP] at this
            rw [Int.toNat_natCast]; exact this
          have hin := hLP.1
          (repeat' ((conv => whnf); first | refine Then.mk ?_ | left | refine OpsA.cons ?_ | refine OpsA.nil ?_ | refine AWq.seq ?_ | refine AWq.region ?_ | refine AWq.cond ?_ | refine AWq.block ?_ | refine AWq.skip ?_ | refine AWq.ret ?_ | refine AWq.exit ?_ | refine AWq.loop ?_ | refine DrawA.consD ?_ | refine DrawA.nil ?_ | refine AWq.draw (by decide +kernel) ?_ | (refine Both.mk ?_ ?_ <;> intro hc <;> (first | exact Bool.noConfusion hc | exact absurd (by with_reducible rfl) hc | exact absurd (by assumption) hc | exact absurd hc (by assumption) | (exfalso; omega) | skip)) | (intro c hc; (try (simp only [AH.none_iff] at hc; repeat (have hn := hc.1; replace hc := hc.2))); (first | (refine i64_k hc ?_ ?_ ?_ ; omega; omega; (clear hc; intro hc; subst hc)) | skip)) | (apply Exists.intro; apply And.intro; (first | (focus (repeat (first | (with_reducible assumption) | (with_reducible exact AH.set_same _ _ _))); done))) | (apply Exists.intro; apply And.intro; first | (with_reducible assumption) | ((try simp only [List.getElem?_drop, Nat.mul_one, Nat.add_zero, Nat.zero_add]); first | (with_reducible assumption) | rfl)) | (apply And.intro; (first | rfl | (with_reducible assumption) | exact Nat.le_of_ble_eq_true rfl | omega)))) <;> (try (conv => whnf))
          all_goals first | exact ⟨j + 1, ⟨hjl, fun h => absurd rfl h⟩, by omega, ⟨congrArg (AV.int .i64) (by omega), trivial⟩, HLe.refl _⟩ | exact ⟨1 + 1, by decide, by decide, ⟨rfl, trivial⟩, HLe.refl _⟩
        · (repeat' ((conv => whnf); first | refine Then.mk ?_ | left | refine OpsA.cons ?_ | refine OpsA.nil ?_ | refine AWq.seq ?_ | refine AWq.region ?_ | refine AWq.cond ?_ | refine AWq.block ?_ | refine AWq.skip ?_ | refine AWq.ret ?_ | refine AWq.exit ?_ | refine AWq.loop ?_ | refine DrawA.consD ?_ | refine DrawA.nil ?_ | refine AWq.draw (by decide +kernel) ?_ | (refine Both.mk ?_ ?_ <;> intro hc <;> (first | exact Bool.noConfusion hc | exact absurd (by with_reducible rfl) hc | exact absurd (by assumption) hc | exact absurd hc (by assumption) | (exfalso; omega) | skip)) | (intro c hc; (try (simp only [AH.none_iff] at hc; repeat (have hn := hc.1; replace hc := hc.2))); (first | (refine i64_k hc ?_ ?_ ?_ ; omega; omega; (clear hc; intro hc; subst hc)) | skip)) | (apply Exists.intro; apply And.intro; (first | (focus (repeat (first | (with_reducible assumption) | (with_reducible exact AH.set_same _ _ _))); done))) | (apply Exists.intro; apply And.intro; first | (with_reducible assumption) | ((try simp only [List.getElem?_drop, Nat.mul_one, Nat.add_zero, Nat.zero_add]); first | (with_reducible assumption) | rfl)) | (apply And.intro; (first | rfl | (with_reducible assumption) | exact Nat.le_of_ble_eq_true rfl | omega)))) <;> (try (conv => whnf))
          exact ⟨1 + 1, by decide, by decide, ⟨rfl, trivial⟩, HLe.refl _⟩
    · have s3 := r3 hvz
      clear r3
      (repeat' ((conv => whnf); first | refine Then.mk ?_ | left | refine OpsA.cons ?_ | refine OpsA.nil ?_ | refine AWq.seq ?_ | refine AWq.region ?_ | refine AWq.cond ?_ | refine AWq.block ?_ | refine AWq.skip ?_ | refine AWq.ret ?_ | refine AWq.exit ?_ | refine AWq.loop ?_ | refine DrawA.consD ?_ | refine DrawA.nil ?_ | refine AWq.draw (by decide +kernel) ?_ | (refine Both.mk ?_ ?_ <;> intro hc <;> (first | exact Bool.noConfusion hc | exact absurd (by with_reducible rfl) hc | exact absurd (by assumption) hc | exact absurd hc (by assumption) | (exfalso; omega) | skip)) | (intro c hc; (try (simp only [AH.none_iff] at hc; repeat (have hn := hc.1; replace hc := hc.2))); (first | (refine i64_k hc ?_ ?_ ?_ ; omega; omega; (clear hc; intro hc; subst hc)) | skip)) | (apply Exists.intro; apply And.intro; (first | (focus (repeat (first | (with_reducible assumption) | (with_reducible exact AH.set_same _ _ _))); done))) | (apply Exists.intro; apply And.intro; first | (with_reducible assumption) | ((try simp only [List.getElem?_drop, Nat.mul_one, Nat.add_zero, Nat.zero_add]); first | (with_reducible assumption) | rfl)) | (apply And.intro; (first | rfl | (with_reducible assumption) | exact Nat.le_of_ble_eq_true rfl | omega)) | (refine ACall.to (r1 _) ?_) | (refine ACall.to (r2 _) ?_) | (refine ACall.to (s3 _) ?_))) <;> (try (conv => whnf))
      all_goals
        refine ⟨1 + 1, by decide, by decide, ⟨rfl, trivial⟩, ?_⟩
        dsimp only
        (first | ((repeat' (first | (with_reducible exact HLe.refl _) | (with_reducible assumption) | refine HLe.set_of _ _ ?_ ?_)); done))
  · have r1 := hre es fs he1 hf1
    have r2 := hva x3 es fs he1 hf1
    have r3 := hsb x3 es fs he1 hf1
    clear hre hva hsb
    by_cases hvz : validV x3 es fs = 0
    · rw [hvz] at r2
      clear r3
      by_cases hlong : 100 < fs.length
      · (repeat' ((conv => whnf); first | refine Then.mk ?_ | left | refine OpsA.cons ?_ | refine OpsA.nil ?_ | refine AWq.seq ?_ | refine AWq.region ?_ | refine AWq.cond ?_ | refine AWq.block ?_ | refine AWq.skip ?_ | refine AWq.ret ?_ | refine AWq.exit ?_ | refine AWq.loop ?_ | refine DrawA.consD ?_ | refine DrawA.nil ?_ | refine AWq.draw (by decide +kernel) ?_ | (refine Both.mk ?_ ?_ <;> intro hc <;> (first | exact Bool.noConfusion hc | exact absurd (by with_reducible rfl) hc | exact absurd (by assumption) hc | exact absurd hc (by assumption) | (exfalso; omega) | skip)) | (intro c hc; (try (simp only [AH.none_iff] at hc; repeat (have hn := hc.1; replace hc := hc.2))); (first | (refine i64_k hc ?_ ?_ ?_ ; omega; omega; (clear hc; intro hc; subst hc)) | skip)) | (apply Exists.intro; apply And.intro; (first | (focus (repeat (first | (with_reducible assumption) | (with_reducible exact AH.set_same _ _ _))); done))) | (apply Exists.intro; apply And.intro; first | (with_reducible assumption) | ((try simp only [List.getElem?_drop, Nat.mul_one, Nat.add_zero, Nat.zero_add]); first | (with_reducible assumption) | rfl)) | (apply And.intro; (first | rfl | (with_reducible assumption) | exact Nat.le_of_ble_eq_true rfl | omega)) | (refine ACall.to (r1 _) ?_) | (refine ACall.to (r2 _) ?_))) <;> (try (conv => whnf))
        exact ⟨2 + 1, by decide, by decide, ⟨rfl, trivial⟩, HLe.refl _⟩
      · obtain ⟨⟨hm0, hm1⟩, _, hE, hF⟩ := validV_ok hvz
        obtain ⟨m, hm⟩ : ∃ m : Nat, m = (x3).toNat := ⟨_, rfl⟩
        have hcm : (x3 : Int) = (m : Int) := by omega
        rw [hcm] at hvz hE hF r2
        have s1 := fun H => solve_c m es fs hvz H
        have s2 := fun H => loose0_c m es fs hvz H
        rw [← hcm] at s1 s2 r2
        (repeat' ((conv => whnf); first | refine Then.mk ?_ | left | refine OpsA.cons ?_ | refine OpsA.nil ?_ | refine AWq.seq ?_ | refine AWq.region ?_ | refine AWq.cond ?_ | refine AWq.block ?_ | refine AWq.skip ?_ | refine AWq.ret ?_ | refine AWq.exit ?_ | refine AWq.loop ?_ | refine DrawA.consD ?_ | refine DrawA.nil ?_ | refine AWq.draw (by decide +kernel) ?_ | (refine Both.mk ?_ ?_ <;> intro hc <;> (first | exact Bool.noConfusion hc | exact absurd (by with_reducible rfl) hc | exact absurd (by assumption) hc | exact absurd hc (by assumption) | (exfalso; omega) | skip)) | (intro c hc; (try (simp only [AH.none_iff] at hc; repeat (have hn := hc.1; replace hc := hc.2))); (first | (refine i64_k hc ?_ ?_ ?_ ; omega; omega; (clear hc; intro hc; subst hc)) | skip)) | (apply Exists.intro; apply And.intro; (first | (focus (repeat (first | (with_reducible assumption) | (with_reducible exact AH.set_same _ _ _))); done))) | (apply Exists.intro; apply And.intro; first | (with_reducible assumption) | ((try simp only [List.getElem?_drop, Nat.mul_one, Nat.add_zero, Nat.zero_add]); first | (with_reducible assumption) | rfl)) | (apply And.intro; (first | rfl | (with_reducible assumption) | exact Nat.le_of_ble_eq_true rfl | omega)) | (refine ACall.to (r1 _) ?_) | (refine ACall.to (r2 _) ?_))) <;> (try (conv => whnf))
        refine ACall.mono (s1 _) ?_
        rintro y H2 ⟨A, dd, oo, hSv, rfl, rfl⟩
        have c1 := fun H => check_solved hSv hvz H
        have c2 := fun H => rcheck_solved hSv hvz H
        have hz := fun i (hL : LooseP m es fs i) => loose0 hSv hL hE
        have hon := one_iS .i64 (fnL m (offS m dd oo))
        have hol : (iS .i64 (fnL m (offS m dd oo))).length = m := by simp
        have hog : ∀ i : Nat, i < m → (iS .i64 (fnL m (offS m dd oo)))[i]? = some (.int .i64 (offS m dd oo i)) := fun i hi => dL_get _ hi
        unfold solV
        generalize (costR es fs (fnL m (offS m dd oo))).1 = cc at *
        generalize iS .i64 (fnL m (offS m dd oo)) = OL at *
        generalize iS .i64 (flE es A) = EL at *
        generalize iS .i64 (flF es A) = FL at *
        (repeat' ((conv => whnf); first | left | refine OpsA.cons ?_ | refine OpsA.nil ?_ | refine AWq.seq ?_ | refine AWq.region ?_ | refine AWq.cond ?_ | refine AWq.block ?_ | refine AWq.skip ?_ | refine AWq.ret ?_ | refine AWq.exit ?_ | refine AWq.loop ?_ | refine DrawA.consD ?_ | refine DrawA.nil ?_ | refine AWq.draw (by decide +kernel) ?_ | (refine Both.mk ?_ ?_ <;> intro hc <;> (first | exact Bool.noConfusion hc | exact absurd (by with_reducible rfl) hc | exact absurd (by assumption) hc | exact absurd hc (by assumption) | (exfalso; omega) | skip)) | (intro c hc; (try (simp only [AH.none_iff] at hc; repeat (have hn := hc.1; replace hc := hc.2))); (first | (refine i64_k hc ?_ ?_ ?_ ; omega; omega; (clear hc; intro hc; subst hc)) | skip)) | (apply Exists.intro; apply And.intro; (first | (focus (repeat (first | (with_reducible assumption) | (with_reducible exact AH.set_same _ _ _))); done))) | (apply Exists.intro; apply And.intro; first | (with_reducible assumption) | ((try simp only [List.getElem?_drop, Nat.mul_one, Nat.add_zero, Nat.zero_add]); first | (with_reducible assumption) | rfl)) | (apply And.intro; (first | rfl | (with_reducible assumption) | exact Nat.le_of_ble_eq_true rfl | omega)))) <;> (try (conv => whnf))
        refine Then.mk (AWq.in ?_)
        refine AWp_segP 21 [.cs OL m, .cs EL es.length, .cs FL fs.length, .int .i64 cc] rfl rfl (by assumption) rfl rfl ?_
        rw [← hcm] at c1 c2
        refine AWp.of tt_ok (dok _) rfl ?_
        (repeat' ((conv => whnf); first | refine Then.mk ?_ | left | refine OpsA.cons ?_ | refine OpsA.nil ?_ | refine AWq.seq ?_ | refine AWq.region ?_ | refine AWq.cond ?_ | refine AWq.block ?_ | refine AWq.skip ?_ | refine AWq.ret ?_ | refine AWq.exit ?_ | refine AWq.loop ?_ | refine DrawA.consD ?_ | refine DrawA.nil ?_ | refine AWq.draw (by decide +kernel) ?_ | (apply Exists.intro; apply And.intro; exact plain_c _ _ _ _ _ _ _ _) | (apply Exists.intro; apply And.intro; exact c1 _) | (apply Exists.intro; apply And.intro; exact c2 _) | (refine Both.mk ?_ ?_ <;> intro hc <;> (first | exact Bool.noConfusion hc | exact absurd (by with_reducible rfl) hc | exact absurd (by assumption) hc | exact absurd hc (by assumption) | (exfalso; omega) | skip)) | (intro c hc; (try (simp only [AH.none_iff] at hc; repeat (have hn := hc.1; replace hc := hc.2))); (first | (refine i64_k hc ?_ ?_ ?_ ; omega; omega; (clear hc; intro hc; subst hc)) | skip)) | (apply Exists.intro; apply And.intro; (first | (focus (repeat (first | (with_reducible assumption) | (with_reducible exact AH.set_same _ _ _))); done))) | (apply Exists.intro; apply And.intro; first | (with_reducible assumption) | ((try simp only [List.getElem?_drop, Nat.mul_one, Nat.add_zero, Nat.zero_add]); first | (with_reducible assumption) | rfl)) | (apply And.intro; (first | rfl | (with_reducible assumption) | exact Nat.le_of_ble_eq_true rfl | omega)))) <;> (try (conv => whnf))
        refine ACall.mono (s2 _) ?_
        rintro y H3 ⟨⟨L, hLl, hL, rfl⟩, rfl⟩
        have hLg : ∀ (j : Nat) (i : Nat), L[j]? = some i → (iS .i64 (L.map fun i : Nat => (i : Int)))[(j : Int).toNat]? = some (.int .i64 (i : Int)) := fun j i h => by
          unfold iS
          rw [List.getElem?_map, List.getElem?_map, Int.toNat_natCast, h]; rfl
        have hLn : (iS .i64 (L.map fun i : Nat => (i : Int))).length = L.length := by simp
        have hLo := one_iS .i64 (L.map fun i : Nat => (i : Int))
        generalize iS .i64 (L.map fun i : Nat => (i : Int)) = RL at *
        (repeat' ((conv => whnf); first | refine Then.mk ?_ | left | refine OpsA.cons ?_ | refine OpsA.nil ?_ | refine AWq.seq ?_ | refine AWq.region ?_ | refine AWq.cond ?_ | refine AWq.block ?_ | refine AWq.skip ?_ | refine AWq.ret ?_ | refine AWq.exit ?_ | refine AWq.loop ?_ | refine DrawA.consD ?_ | refine DrawA.nil ?_ | refine AWq.draw (by decide +kernel) ?_ | (refine Both.mk ?_ ?_ <;> intro hc <;> (first | exact Bool.noConfusion hc | exact absurd (by with_reducible rfl) hc | exact absurd (by assumption) hc | exact absurd hc (by assumption) | (exfalso; omega) | skip)) | (intro c hc; (try (simp only [AH.none_iff] at hc; repeat (have hn := hc.1; replace hc := hc.2))); (first | (refine i64_k hc ?_ ?_ ?_ ; omega; omega; (clear hc; intro hc; subst hc)) | skip)) | (apply Exists.intro; apply And.intro; (first | (focus (repeat (first | (with_reducible assumption) | (with_reducible exact AH.set_same _ _ _))); done))) | (apply Exists.intro; apply And.intro; first | (with_reducible assumption) | ((try simp only [List.getElem?_drop, Nat.mul_one, Nat.add_zero, Nat.zero_add]); first | (with_reducible assumption) | rfl)) | (apply And.intro; (first | rfl | (with_reducible assumption) | exact Nat.le_of_ble_eq_true rfl | omega)))) <;> (try (conv => whnf))
        refine AWp_loop (σ := Nat) (8 :: 24 :: 127 :: 128 :: 129 :: 130 :: 131 :: 132 :: 133 :: 134 :: 135 :: 136 :: 137 :: 138 :: 139 :: 140 :: 141 :: 142 :: 143 :: 144 :: 145 :: []) (fun j => [(24, .int .i64 j)]) (fun j => H3) (fun j => j ≤ L.length ∧ (2 ≠ 0 → j = 0)) (fun j => L.length - j) 0 rfl ⟨Nat.zero_le _, fun _ => rfl⟩ ⟨rfl, trivial⟩ (HLe.refl _) ?_
        rintro j ⟨hj, hj0⟩
        dsimp only at hj hj0 ⊢
        refine AWp.of tt_ok (dok _) rfl ?_
        by_cases hjl : j < L.length
        · obtain ⟨i, hLi⟩ : ∃ i, L[j]? = some i := ⟨_, List.getElem?_eq_getElem hjl⟩
          have hLP := hL i (List.mem_of_getElem? hLi)
          have g1 := hLg j i hLi
          have g2 : OL[(i : Int).toNat]? = some (.int .i64 0) := by
            have := hog i hLP.1
            rw [hz i hLP] at this
            rw [Int.toNat_natCast]; exact this
          have hin := hLP.1
          (repeat' ((conv => whnf); first | refine Then.mk ?_ | left | refine OpsA.cons ?_ | refine OpsA.nil ?_ | refine AWq.seq ?_ | refine AWq.region ?_ | refine AWq.cond ?_ | refine AWq.block ?_ | refine AWq.skip ?_ | refine AWq.ret ?_ | refine AWq.exit ?_ | refine AWq.loop ?_ | refine DrawA.consD ?_ | refine DrawA.nil ?_ | refine AWq.draw (by decide +kernel) ?_ | (refine Both.mk ?_ ?_ <;> intro hc <;> (first | exact Bool.noConfusion hc | exact absurd (by with_reducible rfl) hc | exact absurd (by assumption) hc | exact absurd hc (by assumption) | (exfalso; omega) | skip)) | (intro c hc; (try (simp only [AH.none_iff] at hc; repeat (have hn := hc.1; replace hc := hc.2))); (first | (refine i64_k hc ?_ ?_ ?_ ; omega; omega; (clear hc; intro hc; subst hc)) | skip)) | (apply Exists.intro; apply And.intro; (first | (focus (repeat (first | (with_reducible assumption) | (with_reducible exact AH.set_same _ _ _))); done))) | (apply Exists.intro; apply And.intro; first | (with_reducible assumption) | ((try simp only [List.getElem?_drop, Nat.mul_one, Nat.add_zero, Nat.zero_add]); first | (with_reducible assumption) | rfl)) | (apply And.intro; (first | rfl | (with_reducible assumption) | exact Nat.le_of_ble_eq_true rfl | omega)))) <;> (try (conv => whnf))
          all_goals first | exact ⟨j + 1, ⟨hjl, fun h => absurd rfl h⟩, by omega, ⟨congrArg (AV.int .i64) (by omega), trivial⟩, HLe.refl _⟩ | exact ⟨2 + 1, by decide, by decide, ⟨rfl, trivial⟩, HLe.refl _⟩
        · (repeat' ((conv => whnf); first | refine Then.mk ?_ | left | refine OpsA.cons ?_ | refine OpsA.nil ?_ | refine AWq.seq ?_ | refine AWq.region ?_ | refine AWq.cond ?_ | refine AWq.block ?_ | refine AWq.skip ?_ | refine AWq.ret ?_ | refine AWq.exit ?_ | refine AWq.loop ?_ | refine DrawA.consD ?_ | refine DrawA.nil ?_ | refine AWq.draw (by decide +kernel) ?_ | (refine Both.mk ?_ ?_ <;> intro hc <;> (first | exact Bool.noConfusion hc | exact absurd (by with_reducible rfl) hc | exact absurd (by assumption) hc | exact absurd hc (by assumption) | (exfalso; omega) | skip)) | (intro c hc; (try (simp only [AH.none_iff] at hc; repeat (have hn := hc.1; replace hc := hc.2))); (first | (refine i64_k hc ?_ ?_ ?_ ; omega; omega; (clear hc; intro hc; subst hc)) | skip)) | (apply Exists.intro; apply And.intro; (first | (focus (repeat (first | (with_reducible assumption) | (with_reducible exact AH.set_same _ _ _))); done))) | (apply Exists.intro; apply And.intro; first | (with_reducible assumption) | ((try simp only [List.getElem?_drop, Nat.mul_one, Nat.add_zero, Nat.zero_add]); first | (with_reducible assumption) | rfl)) | (apply And.intro; (first | rfl | (with_reducible assumption) | exact Nat.le_of_ble_eq_true rfl | omega)))) <;> (try (conv => whnf))
          exact ⟨2 + 1, by decide, by decide, ⟨rfl, trivial⟩, HLe.refl _⟩
    · have s3 := r3 hvz
      clear r3
      (repeat' ((conv => whnf); first | refine Then.mk ?_ | left | refine OpsA.cons ?_ | refine OpsA.nil ?_ | refine AWq.seq ?_ | refine AWq.region ?_ | refine AWq.cond ?_ | refine AWq.block ?_ | refine AWq.skip ?_ | refine AWq.ret ?_ | refine AWq.exit ?_ | refine AWq.loop ?_ | refine DrawA.consD ?_ | refine DrawA.nil ?_ | refine AWq.draw (by decide +kernel) ?_ | (refine Both.mk ?_ ?_ <;> intro hc <;> (first | exact Bool.noConfusion hc | exact absurd (by with_reducible rfl) hc | exact absurd (by assumption) hc | exact absurd hc (by assumption) | (exfalso; omega) | skip)) | (intro c hc; (try (simp only [AH.none_iff] at hc; repeat (have hn := hc.1; replace hc := hc.2))); (first | (refine i64_k hc ?_ ?_ ?_ ; omega; omega; (clear hc; intro hc; subst hc)) | skip)) | (apply Exists.intro; apply And.intro; (first | (focus (repeat (first | (with_reducible assumption) | (with_reducible exact AH.set_same _ _ _))); done))) | (apply Exists.intro; apply And.intro; first | (with_reducible assumption) | ((try simp only [List.getElem?_drop, Nat.mul_one, Nat.add_zero, Nat.zero_add]); first | (with_reducible assumption) | rfl)) | (apply And.intro; (first | rfl | (with_reducible assumption) | exact Nat.le_of_ble_eq_true rfl | omega)) | (refine ACall.to (r1 _) ?_) | (refine ACall.to (r2 _) ?_) | (refine ACall.to (s3 _) ?_))) <;> (try (conv => whnf))
      all_goals
        refine ⟨2 + 1, by decide, by decide, ⟨rfl, trivial⟩, ?_⟩
        dsimp only
        (first | ((repeat' (first | (with_reducible exact HLe.refl _) | (with_reducible assumption) | refine HLe.set_of _ _ ?_ ?_)); done))
  · (repeat' ((conv => whnf); first | refine Then.mk ?_ | left | refine OpsA.cons ?_ | refine OpsA.nil ?_ | refine AWq.seq ?_ | refine AWq.region ?_ | refine AWq.cond ?_ | refine AWq.block ?_ | refine AWq.skip ?_ | refine AWq.ret ?_ | refine AWq.exit ?_ | refine AWq.loop ?_ | refine DrawA.consD ?_ | refine DrawA.nil ?_ | refine AWq.draw (by decide +kernel) ?_ | (refine Both.mk ?_ ?_ <;> intro hc <;> (first | exact Bool.noConfusion hc | exact absurd (by with_reducible rfl) hc | exact absurd (by assumption) hc | exact absurd hc (by assumption) | (exfalso; omega) | skip)) | (intro c hc; (try (simp only [AH.none_iff] at hc; repeat (have hn := hc.1; replace hc := hc.2))); (first | (refine i64_k hc ?_ ?_ ?_ ; omega; omega; (clear hc; intro hc; subst hc)) | skip)) | (apply Exists.intro; apply And.intro; (first | (focus (repeat (first | (with_reducible assumption) | (with_reducible exact AH.set_same _ _ _))); done))) | (apply Exists.intro; apply And.intro; first | (with_reducible assumption) | ((try simp only [List.getElem?_drop, Nat.mul_one, Nat.add_zero, Nat.zero_add]); first | (with_reducible assumption) | rfl)) | (apply And.intro; (first | rfl | (with_reducible assumption) | exact Nat.le_of_ble_eq_true rfl | omega)) | (refine ACall.to (lives17_c _) ?_))) <;> (try (conv => whnf))
end Go.Proofs.Ytebflkgpbbjhnaa
