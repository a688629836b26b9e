/- For the law BalanceBytes, part 4 of 6: the frame of the walk, the walks of the functions, the plain law, the row. No conditions. -/
import Derived.Test.YtebflkgpbbjhnaaBalanceBytesM3
/- The walks of balance: the connected parts. -/
namespace Go.Proofs.Ytebflkgpbbjhnaa
open Go.Fw Go
set_option linter.unusedVariables false
set_option linter.unusedSimpArgs false

@[simp] theorem wrA1_len (l : List AV) (k : Nat) (v : AV) : (wrA l k [v]).length = min k l.length + 1 + (l.length - (k + 1)) := by simp [wrA]; omega
/-- Labels of the connected parts, under way. -/
structure BI (n : Nat) (A : List Ac) (o : Nat → Int) : Prop where
  last : o n = -1
  lo : ∀ v, v ≤ n → -1 ≤ o v
  up : ∀ v, v ≤ n → o v ≤ v
  cl : ∀ S : Nat → Prop, ¬ S n → (∀ x ∈ A, S x.a ↔ S x.b) → ∀ v, v ≤ n → S v → ∃ u : Nat, o v = u ∧ S u
def bsP (o : Nat → Int) (x : Ac) : Nat → Int := putD (putD o x.a (min (o x.a) (o x.b))) x.b (min (o x.a) (o x.b))
def bsW (n : Nat) (o : Nat → Int) : Nat := sumN (fun v => (o v + 1).toNat) n
theorem bsP_at (o : Nat → Int) (x : Ac) (v : Nat) : bsP o x v = if v = x.b ∨ v = x.a then min (o x.a) (o x.b) else o v := by
  unfold bsP putD
  by_cases h1 : v = x.b
  · simp [h1]
  · by_cases h2 : v = x.a
    · simp [h2]
    · simp [h1, h2]
theorem BI.step {n : Nat} {A : List Ac} {o : Nat → Int} (h : BI n A o) {x : Ac} (hx : x ∈ A) (hok : AcOk n x) : BI n A (bsP o x) := by
  obtain ⟨xa, xb, _, _, _, _, _, _⟩ := hok
  have la := h.lo _ xa
  have lb := h.lo _ xb
  have ua := h.up _ xa
  have ub := h.up _ xb
  have hl := h.last
  refine ⟨?_, fun v hv => ?_, fun v hv => ?_, fun S hn hc v hv hS => ?_⟩
  · rw [bsP_at]
    split
    · rename_i e
      rcases e with e | e
      · rw [e] at hl; omega
      · rw [e] at hl; omega
    · exact hl
  · rw [bsP_at]; split
    · omega
    · exact h.lo v hv
  · rw [bsP_at]; split
    · rename_i e
      rcases e with e | e <;> rw [e] <;> omega
    · exact h.up v hv
  · rw [bsP_at]; split
    · rename_i e
      have hab : S x.a ∧ S x.b := by
        rcases e with e | e
        · rw [e] at hS; exact ⟨(hc x hx).2 hS, hS⟩
        · rw [e] at hS; exact ⟨hS, (hc x hx).1 hS⟩
      obtain ⟨u, hu, hSu⟩ := h.cl S hn hc _ xa hab.1
      obtain ⟨w, hw, hSw⟩ := h.cl S hn hc _ xb hab.2
      by_cases hle : o x.a ≤ o x.b
      · exact ⟨u, by omega, hSu⟩
      · exact ⟨w, by omega, hSw⟩
    · exact h.cl S hn hc v hv hS
theorem bsW_lt {n : Nat} {A : List Ac} {o : Nat → Int} (h : BI n A o) {x : Ac} (hok : AcOk n x) (hne : o x.a ≠ min (o x.a) (o x.b) ∨ o x.b ≠ min (o x.a) (o x.b)) : bsW n (bsP o x) < bsW n o := by
  obtain ⟨xa, xb, _, _, _, _, _, _⟩ := hok
  have la := h.lo _ xa
  have lb := h.lo _ xb
  have hmo : ∀ u, u ≤ n → (bsP o x u + 1).toNat ≤ (o u + 1).toNat := fun u hu => by
    rw [bsP_at]; split
    · rename_i e
      rcases e with e | e <;> rw [e] <;> omega
    · exact Nat.le_refl _
  rcases hne with e | e
  · refine sumN_lt xa hmo ?_
    show (bsP o x x.a + 1).toNat < (o x.a + 1).toNat
    rw [bsP_at, if_pos (.inr rfl)]; omega
  · refine sumN_lt xb hmo ?_
    show (bsP o x x.b + 1).toNat < (o x.b + 1).toNat
    rw [bsP_at, if_pos (.inl rfl)]; omega
def bs0 (n : Nat) : Nat → Int := fun v => if v = n then -1 else v
theorem bs0_ok (n : Nat) (A : List Ac) : BI n A (bs0 n) := by
  unfold bs0
  refine ⟨if_pos rfl, fun v hv => ?_, fun v hv => ?_, fun S hn hc v hv hS => ⟨v, ?_, hS⟩⟩
  · split <;> omega
  · split <;> omega
  · rw [if_neg (fun e => hn (by rw [← e]; exact hS))]
/-- The nodes whose offsets are 0. -/
def bsN (n : Nat) (o : Nat → Int) (v : Nat) : Int := if o v < 0 then n else o v
set_option maxHeartbeats 4000000 in
set_option maxRecDepth 8000 in
theorem bases_c (n : Nat) (hnn : n ≤ 100) (A : List Ac) (hA : ∀ x ∈ A, AcOk n x) (hl : A.length ≤ 100000) (H : AH) (g vg ra va : Nat) (lim : Option Nat) (hN : NetAt H n A g vg ra va lim) :
    ACall Try.prog 42 [.ptr g vg 0] H (fun y H' => ∃ o rs, BI n A o ∧ (∀ x ∈ A, o x.a = o x.b) ∧ H rs = none ∧ y = .sl rs 0 1 0 (n + 1) none ∧ H' = H.set rs (.row (dL (n + 1) (bsN n o)) 0)) := by
  obtain ⟨hg, ha, hne⟩ := hN
  refine ACall_of tt_ok (dok _) Try.func42 rfl (by decide) rfl ?_
  (repeat' ((conv => whnf); first | refine Then.mk ?_ | refine OpsA.cons ?_ | refine OpsA.nil ?_ | refine AWq.seq ?_ | refine AWq.region ?_ | refine AWq.cond ?_ | refine AWq.block ?_ | refine AWq.skip ?_ | refine AWq.ret ?_ | refine AWq.exit ?_ | refine AWq.loop ?_ | refine DrawA.consD ?_ | refine DrawA.nil ?_ | refine AWq.draw (by decide +kernel) ?_ | (refine Both.mk ?_ ?_ <;> intro hc <;> (first | exact Bool.noConfusion hc | exact absurd (by assumption) hc | exact absurd hc (by assumption) | (exfalso; omega) | skip)) | (intro c hc; (try (simp only [AH.none_iff] at hc; repeat (have hn := hc.1; replace hc := hc.2))); (first | (refine i64_k hc ?_ ?_ ?_ ; omega; omega; (clear hc; intro hc; subst hc)) | skip)) | (apply Exists.intro; apply And.intro; (first | (focus (repeat (first | (with_reducible assumption) | (with_reducible exact AH.set_same _ _ _) | ((first | refine AH.get_ne ?_ ?_); (first | (with_reducible assumption))))); done))) | (apply Exists.intro; apply And.intro; first | (with_reducible assumption) | ((try simp only [List.getElem?_drop, Nat.mul_one, Nat.add_zero, Nat.zero_add]); first | (with_reducible assumption) | rfl)) | (apply Exists.intro; apply And.intro; (focus ((conv => whnf); first | (intro c hc; subst hc; exact And.intro rfl rfl)))) | (apply And.intro; (first | rfl | (with_reducible assumption) | exact Nat.le_of_ble_eq_true rfl | omega | (simp <;> fail) | (simp <;> omega) | (focus (repeat' (first | (with_reducible assumption) | rfl | apply one_take | apply one_drop)); done))))) <;> (try (conv => whnf))
  (obtain ⟨r, hq_⟩ : ∃ r, r = c := ⟨_, rfl⟩); subst hq_
  have hr : H r = none := hc
  have ngr : g ≠ r := AH.none_ne' hr hg
  have nar : ra ≠ r := AH.none_ne' hr ha
  have hG : ∀ o, H.set r o g = some (.row [.int .i64 n, .sl ra va 5 0 A.length lim] vg) := fun o => by rw [AH.set_ne _ _ ngr]; exact hg
  have hGa : ∀ o, H.set r o ra = some (.row (acL A) va) := fun o => by rw [AH.set_ne _ _ nar]; exact ha
  have hcl := acL_len A
  have ho := acL_one A
  refine AWp_loop (σ := Nat) (4 :: 18 :: 19 :: 20 :: 21 :: 22 :: 23 :: 24 :: 25 :: []) (fun i => [(18, .int .i64 i)]) (fun i => H.set r (.row (dL (n + 1) fun v => if v < i then v else 0) 0)) (fun i => i ≤ n + 1) (fun i => n + 1 - i) 0 rfl (Nat.zero_le _) ⟨rfl, trivial⟩ ?_ ?_
  · refine HLe.of_eq (congrArg (fun l => H.set r (.row l 0)) ?_)
    rw [show ((n : Int) + 1).toNat = n + 1 by omega, dL_zero]
    exact dL_congr fun v hv => by simp
  rintro i hi
  refine AWp.of tt_ok (dok _) rfl ?_
  dsimp only at hi ⊢
  have hdl := dL_len (n + 1) fun v => if v < i then (v : Int) else 0
  by_cases hil : i < n + 1
  · have hw := dL_wrZ (n := n + 1) (fun v => if v < i then (v : Int) else 0) hil i
    (repeat' ((conv => whnf); first | refine Then.mk ?_ | refine OpsA.cons ?_ | refine OpsA.nil ?_ | refine AWq.seq ?_ | refine AWq.region ?_ | refine AWq.cond ?_ | refine AWq.block ?_ | refine AWq.skip ?_ | refine AWq.ret ?_ | refine AWq.exit ?_ | refine AWq.loop ?_ | refine DrawA.consD ?_ | refine DrawA.nil ?_ | refine AWq.draw (by decide +kernel) ?_ | (refine Both.mk ?_ ?_ <;> intro hc <;> (first | exact Bool.noConfusion hc | exact absurd (by assumption) hc | exact absurd hc (by assumption) | (exfalso; omega) | skip)) | (intro c hc; (try (simp only [AH.none_iff] at hc; repeat (have hn := hc.1; replace hc := hc.2))); (first | (refine i64_k hc ?_ ?_ ?_ ; omega; omega; (clear hc; intro hc; subst hc)) | skip)) | (apply Exists.intro; apply And.intro; (first | (focus (repeat (first | (with_reducible assumption) | (with_reducible exact AH.set_same _ _ _) | ((first | refine AH.get_ne ?_ ?_); (first | (with_reducible assumption))))); done))) | (apply Exists.intro; apply And.intro; first | (with_reducible assumption) | ((try simp only [List.getElem?_drop, Nat.mul_one, Nat.add_zero, Nat.zero_add]); first | (with_reducible assumption) | rfl)) | (apply Exists.intro; apply And.intro; (focus ((conv => whnf); first | (intro c hc; subst hc; exact And.intro rfl rfl)))) | (apply And.intro; (first | rfl | (with_reducible assumption) | exact Nat.le_of_ble_eq_true rfl | omega | (simp <;> fail) | (simp <;> omega) | (focus (repeat' (first | (with_reducible assumption) | rfl | apply one_take | apply one_drop)); done))))) <;> (try (conv => whnf))
    refine ⟨i + 1, hil, by omega, ⟨congrArg (AV.int .i64) (by omega), trivial⟩, HLe.of_eq ?_⟩
    have e : dL (n + 1) (fun v => if v < i + 1 then (v : Int) else 0) = wrA (dL (n + 1) fun v => if v < i then (v : Int) else 0) (0 + (i : Int).toNat * 1) [.int .i64 i] := by
      rw [hw]
      refine dL_congr fun v hv => ?_
      unfold putD
      by_cases h1 : v = i
      · rw [if_pos (by omega), if_pos h1, h1]
      · rw [if_neg h1]
        show (if v < i + 1 then (v : Int) else 0) = if v < i then (v : Int) else 0
        by_cases h2 : v < i
        · rw [if_pos h2, if_pos (by omega)]
        · rw [if_neg h2, if_neg (by omega)]
    rw [e]
    exact (AH.set_set _ _ _ _).symm
  · have hie : i = n + 1 := by omega
    have hdl2 : ((dL (n + 1) fun v => if v < i then (v : Int) else 0)).length = n + 1 := dL_len _ _
    (iterate 2 ((repeat' ((conv => whnf); first | refine OpsA.cons ?_ | refine OpsA.nil ?_ | refine AWq.seq ?_ | refine AWq.region ?_ | refine AWq.cond ?_ | refine AWq.block ?_ | refine AWq.skip ?_ | refine AWq.ret ?_ | refine AWq.exit ?_ | refine AWq.loop ?_ | refine DrawA.consD ?_ | refine DrawA.nil ?_ | refine AWq.draw (by decide +kernel) ?_ | (refine Both.mk ?_ ?_ <;> intro hc <;> (first | exact Bool.noConfusion hc | exact absurd (by assumption) hc | exact absurd hc (by assumption) | (exfalso; omega) | skip)) | (intro c hc; (try (simp only [AH.none_iff] at hc; repeat (have hn := hc.1; replace hc := hc.2))); (first | (refine i64_k hc ?_ ?_ ?_ ; omega; omega; (clear hc; intro hc; subst hc)) | skip)) | (apply Exists.intro; apply And.intro; (first | (focus (repeat (first | (with_reducible assumption) | (with_reducible exact AH.set_same _ _ _) | ((first | refine AH.get_ne ?_ ?_); (first | (with_reducible assumption))))); done))) | (apply Exists.intro; apply And.intro; first | (with_reducible assumption) | ((try simp only [List.getElem?_drop, Nat.mul_one, Nat.add_zero, Nat.zero_add]); first | (with_reducible assumption) | rfl)) | (apply Exists.intro; apply And.intro; (focus ((conv => whnf); first | (intro c hc; subst hc; exact And.intro rfl rfl)))) | (apply And.intro; (first | rfl | (with_reducible assumption) | exact Nat.le_of_ble_eq_true rfl | omega | (simp <;> fail) | (simp <;> omega) | (focus (repeat' (first | (with_reducible assumption) | rfl | apply one_take | apply one_drop)); done))))) <;> (try (conv => whnf)); refine Then.mk ?_))
    (repeat' ((conv => whnf); first | refine OpsA.cons ?_ | refine OpsA.nil ?_ | refine AWq.seq ?_ | refine AWq.region ?_ | refine AWq.cond ?_ | refine AWq.block ?_ | refine AWq.skip ?_ | refine AWq.ret ?_ | refine AWq.exit ?_ | refine AWq.loop ?_ | refine DrawA.consD ?_ | refine DrawA.nil ?_ | refine AWq.draw (by decide +kernel) ?_ | (refine Both.mk ?_ ?_ <;> intro hc <;> (first | exact Bool.noConfusion hc | exact absurd (by assumption) hc | exact absurd hc (by assumption) | (exfalso; omega) | skip)) | (intro c hc; (try (simp only [AH.none_iff] at hc; repeat (have hn := hc.1; replace hc := hc.2))); (first | (refine i64_k hc ?_ ?_ ?_ ; omega; omega; (clear hc; intro hc; subst hc)) | skip)) | (apply Exists.intro; apply And.intro; (first | (focus (repeat (first | (with_reducible assumption) | (with_reducible exact AH.set_same _ _ _) | ((first | refine AH.get_ne ?_ ?_); (first | (with_reducible assumption))))); done))) | (apply Exists.intro; apply And.intro; first | (with_reducible assumption) | ((try simp only [List.getElem?_drop, Nat.mul_one, Nat.add_zero, Nat.zero_add]); first | (with_reducible assumption) | rfl)) | (apply Exists.intro; apply And.intro; (focus ((conv => whnf); first | (intro c hc; subst hc; exact And.intro rfl rfl)))) | (apply And.intro; (first | rfl | (with_reducible assumption) | exact Nat.le_of_ble_eq_true rfl | omega | (simp <;> fail) | (simp <;> omega) | (focus (repeat' (first | (with_reducible assumption) | rfl | apply one_take | apply one_drop)); done))))) <;> (try (conv => whnf))
    refine Then.mk (AWq.in ?_)
    have hbz : wrA (dL (n + 1) fun v => if v < i then (v : Int) else 0) (0 + (n : Int).toNat * 1) [.int .i64 (-1)] = dL (n + 1) (bs0 n) := by
      refine (dL_wrZ (n := n + 1) (fun v => if v < i then (v : Int) else 0) (show n < n + 1 by omega) (-1)).trans (dL_congr fun v hv => ?_)
      unfold bs0 putD
      by_cases h1 : v = n
      · rw [if_pos h1, if_pos h1]
      · rw [if_neg h1, if_neg h1]; exact if_pos (by omega)
    refine AWp_less (H.set r (.row (dL (n + 1) (bs0 n)) 0)) (HLe.of_eq (by rw [← hbz]; exact (AH.set_set _ _ _ _).symm)) ?_
    refine AWp.of tt_ok (dok _) rfl ?_
    clear hbz hdl hdl2
    (repeat' ((conv => whnf); first | refine Then.mk ?_ | refine OpsA.cons ?_ | refine OpsA.nil ?_ | refine AWq.seq ?_ | refine AWq.region ?_ | refine AWq.cond ?_ | refine AWq.block ?_ | refine AWq.skip ?_ | refine AWq.ret ?_ | refine AWq.exit ?_ | refine AWq.loop ?_ | refine DrawA.consD ?_ | refine DrawA.nil ?_ | refine AWq.draw (by decide +kernel) ?_ | (refine Both.mk ?_ ?_ <;> intro hc <;> (first | exact Bool.noConfusion hc | exact absurd (by assumption) hc | exact absurd hc (by assumption) | (exfalso; omega) | skip)) | (intro c hc; (try (simp only [AH.none_iff] at hc; repeat (have hn := hc.1; replace hc := hc.2))); (first | (refine i64_k hc ?_ ?_ ?_ ; omega; omega; (clear hc; intro hc; subst hc)) | skip)) | (apply Exists.intro; apply And.intro; (first | (focus (repeat (first | (with_reducible assumption) | (with_reducible exact AH.set_same _ _ _) | ((first | refine AH.get_ne ?_ ?_); (first | (with_reducible assumption))))); done))) | (apply Exists.intro; apply And.intro; first | (with_reducible assumption) | ((try simp only [List.getElem?_drop, Nat.mul_one, Nat.add_zero, Nat.zero_add]); first | (with_reducible assumption) | rfl)) | (apply Exists.intro; apply And.intro; (focus ((conv => whnf); first | (intro c hc; subst hc; exact And.intro rfl rfl)))) | (apply And.intro; (first | rfl | (with_reducible assumption) | exact Nat.le_of_ble_eq_true rfl | omega | (simp <;> fail) | (simp <;> omega) | (focus (repeat' (first | (with_reducible assumption) | rfl | apply one_take | apply one_drop)); done))))) <;> (try (conv => whnf))
    refine AWp_loop (σ := (Nat → Int) × Bool) (5 :: 7 :: 8 :: 32 :: 33 :: 34 :: 35 :: 36 :: 37 :: 38 :: 39 :: 40 :: 41 :: 42 :: 43 :: 44 :: 45 :: 46 :: 47 :: 48 :: 49 :: 50 :: 51 :: 52 :: 53 :: 54 :: 55 :: 56 :: 57 :: 58 :: 59 :: 60 :: 61 :: 62 :: 63 :: 64 :: 65 :: 66 :: 67 :: 68 :: 69 :: 70 :: 71 :: 72 :: 73 :: 74 :: 75 :: 76 :: 77 :: 78 :: 79 :: []) (fun s => [(5, .bool s.2)]) (fun s => H.set r (.row (dL (n + 1) s.1) 0)) (fun s => BI n A s.1 ∧ (s.2 = false → ∀ x ∈ A, s.1 x.a = s.1 x.b)) (fun s => 2 * bsW n s.1 + cond s.2 1 0) (bs0 n, true) rfl ⟨bs0_ok n A, fun h => by cases h⟩ ⟨rfl, trivial⟩ (HLe.refl _) ?_
    clear hi hil hie
    rintro ⟨o, ch⟩ ⟨hq, hst⟩
    dsimp only at hq hst ⊢
    refine AWp.of tt_ok (dok _) rfl ?_
    cases ch with
    | false =>
      (repeat' ((conv => whnf); first | refine Then.mk ?_ | refine OpsA.cons ?_ | refine OpsA.nil ?_ | refine AWq.seq ?_ | refine AWq.region ?_ | refine AWq.cond ?_ | refine AWq.block ?_ | refine AWq.skip ?_ | refine AWq.ret ?_ | refine AWq.exit ?_ | refine AWq.loop ?_ | refine DrawA.consD ?_ | refine DrawA.nil ?_ | refine AWq.draw (by decide +kernel) ?_ | (refine Both.mk ?_ ?_ <;> intro hc <;> (first | exact Bool.noConfusion hc | exact absurd (by assumption) hc | exact absurd hc (by assumption) | (exfalso; omega) | skip)) | (intro c hc; (try (simp only [AH.none_iff] at hc; repeat (have hn := hc.1; replace hc := hc.2))); (first | (refine i64_k hc ?_ ?_ ?_ ; omega; omega; (clear hc; intro hc; subst hc)) | skip)) | (apply Exists.intro; apply And.intro; (first | (focus (repeat (first | (with_reducible assumption) | (with_reducible exact AH.set_same _ _ _) | ((first | refine AH.get_ne ?_ ?_); (first | (with_reducible assumption))))); done))) | (apply Exists.intro; apply And.intro; first | (with_reducible assumption) | ((try simp only [List.getElem?_drop, Nat.mul_one, Nat.add_zero, Nat.zero_add]); first | (with_reducible assumption) | rfl)) | (apply Exists.intro; apply And.intro; (focus ((conv => whnf); first | (intro c hc; subst hc; exact And.intro rfl rfl)))) | (apply And.intro; (first | rfl | (with_reducible assumption) | exact Nat.le_of_ble_eq_true rfl | omega | (simp <;> fail) | (simp <;> omega) | (focus (repeat' (first | (with_reducible assumption) | rfl | apply one_take | apply one_drop)); done))))) <;> (try (conv => whnf))
      refine AWp_loop (σ := Nat) (9 :: 82 :: 83 :: 84 :: 85 :: 86 :: 87 :: 88 :: 89 :: 90 :: 91 :: 92 :: 93 :: 94 :: 95 :: 96 :: 97 :: []) (fun i => [(82, .int .i64 i)]) (fun i => H.set r (.row (dL (n + 1) fun v => if v < i then bsN n o v else o v) 0)) (fun i => i ≤ n + 1) (fun i => n + 1 - i) 0 rfl (Nat.zero_le _) ⟨rfl, trivial⟩ (HLe.of_eq (congrArg (fun l => H.set r (.row l 0)) (dL_congr fun v hv => if_neg (Nat.not_lt_zero v)))) ?_
      intro i hi
      refine AWp.of tt_ok (dok _) rfl ?_
      have hdl := dL_len (n + 1) fun v => if v < i then bsN n o v else o v
      by_cases hil : i < n + 1
      · have hgi := dL_getZ (n := n + 1) (fun v => if v < i then bsN n o v else o v) hil
        have hoi : (if i < i then bsN n o i else o i) = o i := if_neg (Nat.lt_irrefl i)
        rw [hoi] at hgi
        have hstep : dL (n + 1) (fun v => if v < i + 1 then bsN n o v else o v) = wrA (dL (n + 1) fun v => if v < i then bsN n o v else o v) (0 + (i : Int).toNat * 1) [.int .i64 (bsN n o i)] := by
          refine ((dL_wrZ (n := n + 1) (fun v => if v < i then bsN n o v else o v) hil _).trans (dL_congr fun v hv => ?_)).symm
          unfold putD
          by_cases h1 : v = i
          · rw [if_pos h1, if_pos (by omega), h1]
          · rw [if_neg h1]
            by_cases h2 : v < i
            · rw [if_pos (show v < i + 1 by omega)]; exact if_pos h2
            · rw [if_neg (show ¬ v < i + 1 by omega)]; exact if_neg h2
        by_cases hneg : o i < 0
        · have hbe : bsN n o i = n := if_pos hneg
          (repeat' ((conv => whnf); first | refine Then.mk ?_ | refine OpsA.cons ?_ | refine OpsA.nil ?_ | refine AWq.seq ?_ | refine AWq.region ?_ | refine AWq.cond ?_ | refine AWq.block ?_ | refine AWq.skip ?_ | refine AWq.ret ?_ | refine AWq.exit ?_ | refine AWq.loop ?_ | refine DrawA.consD ?_ | refine DrawA.nil ?_ | refine AWq.draw (by decide +kernel) ?_ | (refine Both.mk ?_ ?_ <;> intro hc <;> (first | exact Bool.noConfusion hc | exact absurd (by assumption) hc | exact absurd hc (by assumption) | (exfalso; omega) | skip)) | (intro c hc; (try (simp only [AH.none_iff] at hc; repeat (have hn := hc.1; replace hc := hc.2))); (first | (refine i64_k hc ?_ ?_ ?_ ; omega; omega; (clear hc; intro hc; subst hc)) | skip)) | (apply Exists.intro; apply And.intro; (first | (focus (repeat (first | (with_reducible assumption) | (with_reducible exact AH.set_same _ _ _) | ((first | refine AH.get_ne ?_ ?_); (first | (with_reducible assumption))))); done))) | (apply Exists.intro; apply And.intro; first | (with_reducible assumption) | ((try simp only [List.getElem?_drop, Nat.mul_one, Nat.add_zero, Nat.zero_add]); first | (with_reducible assumption) | rfl)) | (apply Exists.intro; apply And.intro; (focus ((conv => whnf); first | (intro c hc; subst hc; exact And.intro rfl rfl)))) | (apply And.intro; (first | rfl | (with_reducible assumption) | exact Nat.le_of_ble_eq_true rfl | omega | (simp <;> fail) | (simp <;> omega) | (focus (repeat' (first | (with_reducible assumption) | rfl | apply one_take | apply one_drop)); done))))) <;> (try (conv => whnf))
          refine ⟨i + 1, hil, by omega, ⟨congrArg (AV.int .i64) (by omega), trivial⟩, HLe.of_eq ?_⟩
          rw [hstep, hbe]
          exact (AH.set_set _ _ _ _).symm
        · have hbe : bsN n o i = o i := if_neg hneg
          have hstep2 : dL (n + 1) (fun v => if v < i + 1 then bsN n o v else o v) = dL (n + 1) fun v => if v < i then bsN n o v else o v := by
            refine dL_congr fun v hv => ?_
            by_cases h1 : v = i
            · rw [h1, if_pos (by omega), if_neg (Nat.lt_irrefl i), hbe]
            · by_cases h2 : v < i
              · rw [if_pos (show v < i + 1 by omega), if_pos h2]
              · rw [if_neg (show ¬ v < i + 1 by omega), if_neg h2]
          (repeat' ((conv => whnf); first | refine Then.mk ?_ | refine OpsA.cons ?_ | refine OpsA.nil ?_ | refine AWq.seq ?_ | refine AWq.region ?_ | refine AWq.cond ?_ | refine AWq.block ?_ | refine AWq.skip ?_ | refine AWq.ret ?_ | refine AWq.exit ?_ | refine AWq.loop ?_ | refine DrawA.consD ?_ | refine DrawA.nil ?_ | refine AWq.draw (by decide +kernel) ?_ | (refine Both.mk ?_ ?_ <;> intro hc <;> (first | exact Bool.noConfusion hc | exact absurd (by assumption) hc | exact absurd hc (by assumption) | (exfalso; omega) | skip)) | (intro c hc; (try (simp only [AH.none_iff] at hc; repeat (have hn := hc.1; replace hc := hc.2))); (first | (refine i64_k hc ?_ ?_ ?_ ; omega; omega; (clear hc; intro hc; subst hc)) | skip)) | (apply Exists.intro; apply And.intro; (first | (focus (repeat (first | (with_reducible assumption) | (with_reducible exact AH.set_same _ _ _) | ((first | refine AH.get_ne ?_ ?_); (first | (with_reducible assumption))))); done))) | (apply Exists.intro; apply And.intro; first | (with_reducible assumption) | ((try simp only [List.getElem?_drop, Nat.mul_one, Nat.add_zero, Nat.zero_add]); first | (with_reducible assumption) | rfl)) | (apply Exists.intro; apply And.intro; (focus ((conv => whnf); first | (intro c hc; subst hc; exact And.intro rfl rfl)))) | (apply And.intro; (first | rfl | (with_reducible assumption) | exact Nat.le_of_ble_eq_true rfl | omega | (simp <;> fail) | (simp <;> omega) | (focus (repeat' (first | (with_reducible assumption) | rfl | apply one_take | apply one_drop)); done))))) <;> (try (conv => whnf))
          refine ⟨i + 1, hil, by omega, ⟨congrArg (AV.int .i64) (by omega), trivial⟩, HLe.of_eq ?_⟩
          rw [hstep2]
      · (repeat' ((conv => whnf); first | refine Then.mk ?_ | refine OpsA.cons ?_ | refine OpsA.nil ?_ | refine AWq.seq ?_ | refine AWq.region ?_ | refine AWq.cond ?_ | refine AWq.block ?_ | refine AWq.skip ?_ | refine AWq.ret ?_ | refine AWq.exit ?_ | refine AWq.loop ?_ | refine DrawA.consD ?_ | refine DrawA.nil ?_ | refine AWq.draw (by decide +kernel) ?_ | (refine Both.mk ?_ ?_ <;> intro hc <;> (first | exact Bool.noConfusion hc | exact absurd (by assumption) hc | exact absurd hc (by assumption) | (exfalso; omega) | skip)) | (intro c hc; (try (simp only [AH.none_iff] at hc; repeat (have hn := hc.1; replace hc := hc.2))); (first | (refine i64_k hc ?_ ?_ ?_ ; omega; omega; (clear hc; intro hc; subst hc)) | skip)) | (apply Exists.intro; apply And.intro; (first | (focus (repeat (first | (with_reducible assumption) | (with_reducible exact AH.set_same _ _ _) | ((first | refine AH.get_ne ?_ ?_); (first | (with_reducible assumption))))); done))) | (apply Exists.intro; apply And.intro; first | (with_reducible assumption) | ((try simp only [List.getElem?_drop, Nat.mul_one, Nat.add_zero, Nat.zero_add]); first | (with_reducible assumption) | rfl)) | (apply Exists.intro; apply And.intro; (focus ((conv => whnf); first | (intro c hc; subst hc; exact And.intro rfl rfl)))) | (apply And.intro; (first | rfl | (with_reducible assumption) | exact Nat.le_of_ble_eq_true rfl | omega | (simp <;> fail) | (simp <;> omega) | (focus (repeat' (first | (with_reducible assumption) | rfl | apply one_take | apply one_drop)); done))))) <;> (try (conv => whnf))
        refine ⟨o, r, hq, hst rfl, hr, rfl, congrArg (fun l => H.set r (.row l 0)) (dL_congr fun v hv => if_pos (by omega))⟩
    | true =>
      (repeat' ((conv => whnf); first | refine Then.mk ?_ | refine OpsA.cons ?_ | refine OpsA.nil ?_ | refine AWq.seq ?_ | refine AWq.region ?_ | refine AWq.cond ?_ | refine AWq.block ?_ | refine AWq.skip ?_ | refine AWq.ret ?_ | refine AWq.exit ?_ | refine AWq.loop ?_ | refine DrawA.consD ?_ | refine DrawA.nil ?_ | refine AWq.draw (by decide +kernel) ?_ | (refine Both.mk ?_ ?_ <;> intro hc <;> (first | exact Bool.noConfusion hc | exact absurd (by assumption) hc | exact absurd hc (by assumption) | (exfalso; omega) | skip)) | (intro c hc; (try (simp only [AH.none_iff] at hc; repeat (have hn := hc.1; replace hc := hc.2))); (first | (refine i64_k hc ?_ ?_ ?_ ; omega; omega; (clear hc; intro hc; subst hc)) | skip)) | (apply Exists.intro; apply And.intro; (first | (focus (repeat (first | (with_reducible assumption) | (with_reducible exact AH.set_same _ _ _) | ((first | refine AH.get_ne ?_ ?_); (first | (with_reducible assumption))))); done))) | (apply Exists.intro; apply And.intro; first | (with_reducible assumption) | ((try simp only [List.getElem?_drop, Nat.mul_one, Nat.add_zero, Nat.zero_add]); first | (with_reducible assumption) | rfl)) | (apply Exists.intro; apply And.intro; (focus ((conv => whnf); first | (intro c hc; subst hc; exact And.intro rfl rfl)))) | (apply And.intro; (first | rfl | (with_reducible assumption) | exact Nat.le_of_ble_eq_true rfl | omega | (simp <;> fail) | (simp <;> omega) | (focus (repeat' (first | (with_reducible assumption) | rfl | apply one_take | apply one_drop)); done))))) <;> (try (conv => whnf))
      refine AWp_loop (σ := (Nat → Int) × Bool × Nat) (5 :: 7 :: 8 :: 38 :: 39 :: 40 :: 41 :: 42 :: 43 :: 44 :: 45 :: 46 :: 47 :: 48 :: 49 :: 50 :: 51 :: 52 :: 53 :: 54 :: 55 :: 56 :: 57 :: 58 :: 59 :: 60 :: 61 :: 62 :: 63 :: 64 :: 65 :: 66 :: 67 :: 68 :: 69 :: 70 :: 71 :: 72 :: 73 :: 74 :: 75 :: 76 :: 77 :: 78 :: 79 :: []) (fun s => [(5, .bool s.2.1), (38, .int .i64 s.2.2)]) (fun s => H.set r (.row (dL (n + 1) s.1) 0))
        (fun s => s.2.2 ≤ A.length ∧ BI n A s.1 ∧ (s.2.1 = false → s.1 = o ∧ ∀ x ∈ A.take s.2.2, o x.a = o x.b) ∧ (s.2.1 = true → bsW n s.1 < bsW n o)) (fun s => A.length - s.2.2) (o, false, 0) rfl ⟨Nat.zero_le _, hq, fun _ => ⟨rfl, fun x hx => by simp at hx⟩, fun h => by cases h⟩ ⟨rfl, rfl, trivial⟩ (HLe.refl _) ?_
      rintro ⟨q, ch, i⟩ ⟨hi, hqt, hf, ht⟩
      dsimp only at hi hqt hf ht ⊢
      refine AWp.of tt_ok (dok _) rfl ?_
      by_cases hil : i < A.length
      · obtain ⟨x, hx⟩ : ∃ x, A[i]? = some x := ⟨_, List.getElem?_eq_getElem hil⟩
        have hxm := List.mem_of_getElem? hx
        have hok := hA x hxm
        have hok2 := hok
        obtain ⟨xa, xb, d1, d2, w1, w2, f1, f2⟩ := hok
        have hGa1 := hGa (.row (dL (n + 1) q) 0)
        have ga := dL_getZ (n := n + 1) q (show x.a < n + 1 by omega)
        have gb := dL_getZ (n := n + 1) q (show x.b < n + 1 by omega)
        have hdl := dL_len (n + 1) q
        obtain ⟨m, hm⟩ : ∃ m, m = min (q x.a) (q x.b) := ⟨_, rfl⟩
        (iterate 3 ((repeat' ((conv => whnf); first | refine OpsA.cons ?_ | refine OpsA.nil ?_ | refine AWq.seq ?_ | refine AWq.region ?_ | refine AWq.cond ?_ | refine AWq.block ?_ | refine AWq.skip ?_ | refine AWq.ret ?_ | refine AWq.exit ?_ | refine AWq.loop ?_ | refine DrawA.consD ?_ | refine DrawA.nil ?_ | refine AWq.draw (by decide +kernel) ?_ | (refine Both.mk ?_ ?_ <;> intro hc <;> (first | exact Bool.noConfusion hc | exact absurd (by assumption) hc | exact absurd hc (by assumption) | (exfalso; omega) | skip)) | (intro c hc; (try (simp only [AH.none_iff] at hc; repeat (have hn := hc.1; replace hc := hc.2))); (first | (refine i64_k hc ?_ ?_ ?_ ; omega; omega; (clear hc; intro hc; subst hc)) | skip)) | (apply Exists.intro; apply And.intro; (first | (focus (repeat (first | (with_reducible assumption) | (with_reducible exact AH.set_same _ _ _) | ((first | refine AH.get_ne ?_ ?_); (first | (with_reducible assumption))))); done))) | (apply Exists.intro; apply And.intro; first | (with_reducible assumption) | ((try simp only [List.getElem?_drop, Nat.mul_one, Nat.add_zero, Nat.zero_add]); first | (with_reducible assumption) | rfl)) | (apply Exists.intro; apply And.intro; (focus ((conv => whnf); first | (intro c hc; subst hc; exact And.intro rfl rfl)))) | (apply And.intro; (first | rfl | (with_reducible assumption) | exact Nat.le_of_ble_eq_true rfl | omega | (simp <;> fail) | (simp <;> omega) | (focus (repeat' (first | (with_reducible assumption) | rfl | apply one_take | apply one_drop)); done))))) <;> (try (conv => whnf)); refine Then.mk ?_))
        refine AWq.in ?_
        refine AWp_segP 7 (acA x) rfl rfl (by (first | assumption | (simp only [AH.none_iff]; (repeat' (first | assumption | (refine And.intro ?_ ?_)))))) (acL_segZ hx) rfl ?_
        refine AWp.of tt_ok (dok _) rfl ?_
        (repeat' ((conv => whnf); first | refine OpsA.cons ?_ | refine OpsA.nil ?_ | refine AWq.seq ?_ | refine AWq.region ?_ | refine AWq.cond ?_ | refine AWq.block ?_ | refine AWq.skip ?_ | refine AWq.ret ?_ | refine AWq.exit ?_ | refine AWq.loop ?_ | refine DrawA.consD ?_ | refine DrawA.nil ?_ | refine AWq.draw (by decide +kernel) ?_ | (refine Both.mk ?_ ?_ <;> intro hc <;> (first | exact Bool.noConfusion hc | exact absurd (by assumption) hc | exact absurd hc (by assumption) | (exfalso; omega) | skip)) | (intro c hc; (try (simp only [AH.none_iff] at hc; repeat (have hn := hc.1; replace hc := hc.2))); (first | (refine i64_k hc ?_ ?_ ?_ ; omega; omega; (clear hc; intro hc; subst hc)) | skip)) | (apply Exists.intro; apply And.intro; (first | (focus (repeat (first | (with_reducible assumption) | (with_reducible exact AH.set_same _ _ _) | ((first | refine AH.get_ne ?_ ?_); (first | (with_reducible assumption))))); done))) | (apply Exists.intro; apply And.intro; first | (with_reducible assumption) | ((try simp only [List.getElem?_drop, Nat.mul_one, Nat.add_zero, Nat.zero_add]); first | (with_reducible assumption) | rfl)) | (apply Exists.intro; apply And.intro; (focus ((conv => whnf); first | (intro c hc; subst hc; exact And.intro rfl rfl)))) | (apply And.intro; (first | rfl | (with_reducible assumption) | exact Nat.le_of_ble_eq_true rfl | omega | (simp <;> fail) | (simp <;> omega) | (focus (repeat' (first | (with_reducible assumption) | rfl | apply one_take | apply one_drop)); done))))) <;> (try (conv => whnf))
        refine Then.mk ?_
        rw [← hm]
        by_cases hne : q x.a ≠ m ∨ q x.b ≠ m
        · have hq1 := hqt.step hxm hok2
          have hlt := bsW_lt hqt hok2 (by rw [← hm]; exact hne)
          have hall : bsW n (bsP q x) < bsW n o := by
            cases ch with
            | false => obtain ⟨rfl, _⟩ := hf rfl; exact hlt
            | true => exact Nat.lt_trans hlt (ht rfl)
          have hw1 := dL_wrZ (n := n + 1) q (show x.a < n + 1 by omega) m
          have hw2 := dL_wrZ (n := n + 1) (putD q x.a m) (show x.b < n + 1 by omega) m
          have hdl2 : (wrA (dL (n + 1) q) (0 + (x.a : Int).toNat * 1) [.int .i64 m]).length = n + 1 := by rw [hw1]; simp
          have hbs : dL (n + 1) (bsP q x) = wrA (wrA (dL (n + 1) q) (0 + (x.a : Int).toNat * 1) [.int .i64 m]) (0 + (x.b : Int).toNat * 1) [.int .i64 m] := by
            rw [hw1, hw2]
            unfold bsP
            rw [← hm]
          (repeat' ((conv => whnf); first | refine OpsA.cons ?_ | refine OpsA.nil ?_ | refine AWq.seq ?_ | refine AWq.region ?_ | refine AWq.cond ?_ | refine AWq.block ?_ | refine AWq.skip ?_ | refine AWq.ret ?_ | refine AWq.exit ?_ | refine AWq.loop ?_ | refine DrawA.consD ?_ | refine DrawA.nil ?_ | refine AWq.draw (by decide +kernel) ?_ | (refine Both.mk ?_ ?_ <;> intro hc <;> (first | exact Bool.noConfusion hc | exact absurd (by assumption) hc | exact absurd hc (by assumption) | (exfalso; omega) | skip)) | (intro c hc; (try (simp only [AH.none_iff] at hc; repeat (have hn := hc.1; replace hc := hc.2))); (first | (refine i64_k hc ?_ ?_ ?_ ; omega; omega; (clear hc; intro hc; subst hc)) | skip)) | (apply Exists.intro; apply And.intro; (first | (focus (repeat (first | (with_reducible assumption) | (with_reducible exact AH.set_same _ _ _) | ((first | refine AH.get_ne ?_ ?_); (first | (with_reducible assumption))))); done))) | (apply Exists.intro; apply And.intro; first | (with_reducible assumption) | ((try simp only [List.getElem?_drop, Nat.mul_one, Nat.add_zero, Nat.zero_add]); first | (with_reducible assumption) | rfl)) | (apply Exists.intro; apply And.intro; (focus ((conv => whnf); first | (intro c hc; subst hc; exact And.intro rfl rfl)))) | (apply And.intro; (first | rfl | (with_reducible assumption) | exact Nat.le_of_ble_eq_true rfl | omega | (simp <;> fail) | (simp <;> omega) | (focus (repeat' (first | (with_reducible assumption) | rfl | apply one_take | apply one_drop)); done))))) <;> (try (conv => whnf))
          all_goals
            refine Then.mk ?_
            (repeat' ((conv => whnf); first | refine OpsA.cons ?_ | refine OpsA.nil ?_ | refine AWq.seq ?_ | refine AWq.region ?_ | refine AWq.cond ?_ | refine AWq.block ?_ | refine AWq.skip ?_ | refine AWq.ret ?_ | refine AWq.exit ?_ | refine AWq.loop ?_ | refine DrawA.consD ?_ | refine DrawA.nil ?_ | refine AWq.draw (by decide +kernel) ?_ | (refine Both.mk ?_ ?_ <;> intro hc <;> (first | exact Bool.noConfusion hc | exact absurd (by assumption) hc | exact absurd hc (by assumption) | (exfalso; omega) | skip)) | (intro c hc; (try (simp only [AH.none_iff] at hc; repeat (have hn := hc.1; replace hc := hc.2))); (first | (refine i64_k hc ?_ ?_ ?_ ; omega; omega; (clear hc; intro hc; subst hc)) | skip)) | (apply Exists.intro; apply And.intro; (first | (focus (repeat (first | (with_reducible assumption) | (with_reducible exact AH.set_same _ _ _) | ((first | refine AH.get_ne ?_ ?_); (first | (with_reducible assumption))))); done))) | (apply Exists.intro; apply And.intro; first | (with_reducible assumption) | ((try simp only [List.getElem?_drop, Nat.mul_one, Nat.add_zero, Nat.zero_add]); first | (with_reducible assumption) | rfl)) | (apply Exists.intro; apply And.intro; (focus ((conv => whnf); first | (intro c hc; subst hc; exact And.intro rfl rfl)))) | (apply And.intro; (first | rfl | (with_reducible assumption) | exact Nat.le_of_ble_eq_true rfl | omega | (simp <;> fail) | (simp <;> omega) | (focus (repeat' (first | (with_reducible assumption) | rfl | apply one_take | apply one_drop)); done))))) <;> (try (conv => whnf))
            refine AWq.drawM ([], [74]) (by decide +kernel) ?_
            (repeat' ((conv => whnf); first | refine OpsA.cons ?_ | refine OpsA.nil ?_ | refine AWq.seq ?_ | refine AWq.region ?_ | refine AWq.cond ?_ | refine AWq.block ?_ | refine AWq.skip ?_ | refine AWq.ret ?_ | refine AWq.exit ?_ | refine AWq.loop ?_ | refine DrawA.consD ?_ | refine DrawA.nil ?_ | refine AWq.draw (by decide +kernel) ?_ | (refine Both.mk ?_ ?_ <;> intro hc <;> (first | exact Bool.noConfusion hc | exact absurd (by assumption) hc | exact absurd hc (by assumption) | (exfalso; omega) | skip)) | (intro c hc; (try (simp only [AH.none_iff] at hc; repeat (have hn := hc.1; replace hc := hc.2))); (first | (refine i64_k hc ?_ ?_ ?_ ; omega; omega; (clear hc; intro hc; subst hc)) | skip)) | (apply Exists.intro; apply And.intro; (first | (focus (repeat (first | (with_reducible assumption) | (with_reducible exact AH.set_same _ _ _) | ((first | refine AH.get_ne ?_ ?_); (first | (with_reducible assumption))))); done))) | (apply Exists.intro; apply And.intro; first | (with_reducible assumption) | ((try simp only [List.getElem?_drop, Nat.mul_one, Nat.add_zero, Nat.zero_add]); first | (with_reducible assumption) | rfl)) | (apply Exists.intro; apply And.intro; (focus ((conv => whnf); first | (intro c hc; subst hc; exact And.intro rfl rfl)))) | (apply And.intro; (first | rfl | (with_reducible assumption) | exact Nat.le_of_ble_eq_true rfl | omega | (simp <;> fail) | (simp <;> omega) | (focus (repeat' (first | (with_reducible assumption) | rfl | apply one_take | apply one_drop)); done))))) <;> (try (conv => whnf))
            refine Then.mk (AWq.in ?_)
            refine AWp_less (H.set r (.row (dL (n + 1) (bsP q x)) 0)) (HLe.of_eq (by rw [hbs]; exact ((AH.set_set _ _ _ _).trans (AH.set_set _ _ _ _)).symm)) ?_
            refine AWp.of tt_ok (dok _) rfl ?_
            (repeat' ((conv => whnf); first | refine Then.mk ?_ | refine OpsA.cons ?_ | refine OpsA.nil ?_ | refine AWq.seq ?_ | refine AWq.region ?_ | refine AWq.cond ?_ | refine AWq.block ?_ | refine AWq.skip ?_ | refine AWq.ret ?_ | refine AWq.exit ?_ | refine AWq.loop ?_ | refine DrawA.consD ?_ | refine DrawA.nil ?_ | refine AWq.draw (by decide +kernel) ?_ | (refine Both.mk ?_ ?_ <;> intro hc <;> (first | exact Bool.noConfusion hc | exact absurd (by assumption) hc | exact absurd hc (by assumption) | (exfalso; omega) | skip)) | (intro c hc; (try (simp only [AH.none_iff] at hc; repeat (have hn := hc.1; replace hc := hc.2))); (first | (refine i64_k hc ?_ ?_ ?_ ; omega; omega; (clear hc; intro hc; subst hc)) | skip)) | (apply Exists.intro; apply And.intro; (first | (focus (repeat (first | (with_reducible assumption) | (with_reducible exact AH.set_same _ _ _) | ((first | refine AH.get_ne ?_ ?_); (first | (with_reducible assumption))))); done))) | (apply Exists.intro; apply And.intro; first | (with_reducible assumption) | ((try simp only [List.getElem?_drop, Nat.mul_one, Nat.add_zero, Nat.zero_add]); first | (with_reducible assumption) | rfl)) | (apply Exists.intro; apply And.intro; (focus ((conv => whnf); first | (intro c hc; subst hc; exact And.intro rfl rfl)))) | (apply And.intro; (first | rfl | (with_reducible assumption) | exact Nat.le_of_ble_eq_true rfl | omega | (simp <;> fail) | (simp <;> omega) | (focus (repeat' (first | (with_reducible assumption) | rfl | apply one_take | apply one_drop)); done))))) <;> (try (conv => whnf))
            exact ⟨(bsP q x, true, i + 1), ⟨hil, hq1, fun h => Bool.noConfusion h, fun _ => hall⟩, by dsimp only; omega, ⟨rfl, congrArg (AV.int .i64) (by dsimp only; omega), trivial⟩, HLe.refl _⟩
        · have hab : q x.a = q x.b := by omega
          have hfin : ch = false → q = o ∧ ∀ x ∈ A.take (i + 1), o x.a = o x.b := fun h => by
            obtain ⟨rfl, hno⟩ := hf h
            exact ⟨rfl, all_take hx hno hab⟩
          (repeat' ((conv => whnf); first | refine Then.mk ?_ | refine OpsA.cons ?_ | refine OpsA.nil ?_ | refine AWq.seq ?_ | refine AWq.region ?_ | refine AWq.cond ?_ | refine AWq.block ?_ | refine AWq.skip ?_ | refine AWq.ret ?_ | refine AWq.exit ?_ | refine AWq.loop ?_ | refine DrawA.consD ?_ | refine DrawA.nil ?_ | refine AWq.draw (by decide +kernel) ?_ | (refine Both.mk ?_ ?_ <;> intro hc <;> (first | exact Bool.noConfusion hc | exact absurd (by assumption) hc | exact absurd hc (by assumption) | (exfalso; omega) | skip)) | (intro c hc; (try (simp only [AH.none_iff] at hc; repeat (have hn := hc.1; replace hc := hc.2))); (first | (refine i64_k hc ?_ ?_ ?_ ; omega; omega; (clear hc; intro hc; subst hc)) | skip)) | (apply Exists.intro; apply And.intro; (first | (focus (repeat (first | (with_reducible assumption) | (with_reducible exact AH.set_same _ _ _) | ((first | refine AH.get_ne ?_ ?_); (first | (with_reducible assumption))))); done))) | (apply Exists.intro; apply And.intro; first | (with_reducible assumption) | ((try simp only [List.getElem?_drop, Nat.mul_one, Nat.add_zero, Nat.zero_add]); first | (with_reducible assumption) | rfl)) | (apply Exists.intro; apply And.intro; (focus ((conv => whnf); first | (intro c hc; subst hc; exact And.intro rfl rfl)))) | (apply And.intro; (first | rfl | (with_reducible assumption) | exact Nat.le_of_ble_eq_true rfl | omega | (simp <;> fail) | (simp <;> omega) | (focus (repeat' (first | (with_reducible assumption) | rfl | apply one_take | apply one_drop)); done))))) <;> (try (conv => whnf))
          all_goals exact ⟨(q, ch, i + 1), ⟨hil, hqt, hfin, ht⟩, by dsimp only; omega, ⟨rfl, congrArg (AV.int .i64) (by dsimp only; omega), trivial⟩, HLe.refl _⟩
      · have hie : i = A.length := by omega
        (repeat' ((conv => whnf); first | refine Then.mk ?_ | refine OpsA.cons ?_ | refine OpsA.nil ?_ | refine AWq.seq ?_ | refine AWq.region ?_ | refine AWq.cond ?_ | refine AWq.block ?_ | refine AWq.skip ?_ | refine AWq.ret ?_ | refine AWq.exit ?_ | refine AWq.loop ?_ | refine DrawA.consD ?_ | refine DrawA.nil ?_ | refine AWq.draw (by decide +kernel) ?_ | (refine Both.mk ?_ ?_ <;> intro hc <;> (first | exact Bool.noConfusion hc | exact absurd (by assumption) hc | exact absurd hc (by assumption) | (exfalso; omega) | skip)) | (intro c hc; (try (simp only [AH.none_iff] at hc; repeat (have hn := hc.1; replace hc := hc.2))); (first | (refine i64_k hc ?_ ?_ ?_ ; omega; omega; (clear hc; intro hc; subst hc)) | skip)) | (apply Exists.intro; apply And.intro; (first | (focus (repeat (first | (with_reducible assumption) | (with_reducible exact AH.set_same _ _ _) | ((first | refine AH.get_ne ?_ ?_); (first | (with_reducible assumption))))); done))) | (apply Exists.intro; apply And.intro; first | (with_reducible assumption) | ((try simp only [List.getElem?_drop, Nat.mul_one, Nat.add_zero, Nat.zero_add]); first | (with_reducible assumption) | rfl)) | (apply Exists.intro; apply And.intro; (focus ((conv => whnf); first | (intro c hc; subst hc; exact And.intro rfl rfl)))) | (apply And.intro; (first | rfl | (with_reducible assumption) | exact Nat.le_of_ble_eq_true rfl | omega | (simp <;> fail) | (simp <;> omega) | (focus (repeat' (first | (with_reducible assumption) | rfl | apply one_take | apply one_drop)); done))))) <;> (try (conv => whnf))
        refine ⟨(q, ch), ⟨hqt, fun h => ?_⟩, ?_, ⟨rfl, trivial⟩, HLe.refl _⟩
        · obtain ⟨rfl, hno⟩ := hf h
          rw [hie, List.take_of_length_le (Nat.le_refl _)] at hno
          exact hno
        · cases ch with
          | false => obtain ⟨rfl, _⟩ := hf rfl; show 2 * bsW n q + 0 < 2 * bsW n q + 1; omega
          | true => have := ht rfl; show 2 * bsW n q + 1 < 2 * bsW n o + 1; omega
end Go.Proofs.Ytebflkgpbbjhnaa
/- The walks of balance: the network at the start; costs. -/
namespace Go.Proofs.Ytebflkgpbbjhnaa
open Go.Fw Go
set_option linter.unusedVariables false
set_option linter.unusedSimpArgs false

set_option maxRecDepth 8000 in
theorem add_c (n : Nat) (A : List Ac) (hl : A.length ≤ 100000) (x : Ac) (hf : x.f = flow0 x.d x.w) (hw : 1 ≤ x.w ∧ x.w ≤ 65536) (H : AH) (c7 g ra v : Nat) (hc7 : H c7 = some (.row [.ptr g 0 0] 0)) (hg : H g = some (.row [.int .i64 n, .sl ra v 5 0 A.length none] 0)) (ha : H ra = some (.row (acL A) v)) (n1 : c7 ≠ g) (n2 : c7 ≠ ra) (n3 : g ≠ ra) :
    ACall Try.prog 67 [.int .i64 x.a, .int .i64 x.b, .int .i64 x.d, .int .i64 x.w, .ptr c7 0 0] H (fun y H' => y = .tup [] ∧ H' = (H.set ra (.row (acL (A ++ [x])) (v + 1))).set g (.row [.int .i64 n, .sl ra (v + 1) 5 0 (A.length + 1) none] 0)) := by
  have hcl := acL_len A
  have hsn : acL A ++ acA x = acL (A ++ [x]) := fL_snoc acA A x
  obtain ⟨a, b, d, w, f⟩ := x
  dsimp only at hf hw ⊢
  unfold flow0 at hf
  rw [← hsn]
  obtain ⟨nm, k0, k1⟩ : ∃ nm : Nat → Nat, nm 0 = ra ∧ nm 1 = g := ⟨fun k => if k = 0 then ra else g, rfl, rfl⟩
  subst k0 k1
  have hnm : ∀ c c', c ∈ [((31 : Nat), 0), (23, 1), (33, 1)].map (·.2) → c' ∈ [((31 : Nat), 0), (23, 1), (33, 1)].map (·.2) → nm c = nm c' → c = c' := by
    intro a b ha hb hab
    simp at ha hb
    rcases ha with rfl | rfl <;> rcases hb with rfl | rfl <;> first | rfl | exact absurd hab n3 | exact absurd hab (Ne.symm n3)
  subst hf
  by_cases h1 : 0 < d
  · rw [if_pos h1]
    refine ACall_of tt_ok (dok _) Try.func67 rfl (by decide) rfl ?_
    (repeat' ((conv => whnf); first | refine Then.mk ?_ | refine OpsA.cons ?_ | refine OpsA.nil ?_ | refine AWq.seq ?_ | refine AWq.region ?_ | refine AWq.cond ?_ | refine AWq.block ?_ | refine AWq.skip ?_ | (refine Both.mk ?_ ?_ <;> intro hc <;> (first | exact Bool.noConfusion hc | exact absurd (by assumption) hc | exact absurd hc (by assumption) | skip)) | (intro c hc; (try (simp only [AH.none_iff] at hc; repeat (have hn := hc.1; replace hc := hc.2))); (first | (refine i64_k hc ?_ ?_ ?_ ; omega; omega; (clear hc; intro hc; subst hc)) | skip)) | (apply Exists.intro; apply And.intro; (first | (focus (repeat (first | (with_reducible assumption) | (with_reducible exact AH.set_same _ _ _) | ((first | refine AH.get_ne ?_ ?_); (first | (with_reducible assumption) | exact Ne.symm (by with_reducible assumption))))); done))) | (apply Exists.intro; apply And.intro; first | (with_reducible assumption) | ((try simp only [List.getElem?_drop, Nat.mul_one, Nat.add_zero, Nat.zero_add]); first | (with_reducible assumption) | rfl)) | (apply Exists.intro; apply And.intro; (focus (intro G; ((conv => whnf); (try left); (conv => whnf); first | exact And.intro rfl rfl)))) | (apply And.intro; (first | rfl | (with_reducible assumption) | exact Nat.le_of_ble_eq_true rfl | omega)))) <;> (try (conv => whnf))
    refine AWq.drawK mo [(31, 0), (23, 1), (33, 1)] nm hnm (by decide +kernel) ?_
    (repeat' ((conv => whnf); first | refine DrawK.consD ?_ | refine DrawK.nil ?_ | (apply And.intro; (focus (repeat (first | exact trivial | (refine And.intro (a := _ ≠ _) (b := offR _ _ _) ?_ ?_; (first | omega | exact Ne.symm (by assumption))))); done)) | refine Then.mk ?_ | refine OpsA.cons ?_ | refine OpsA.nil ?_ | refine AWq.seq ?_ | refine AWq.region ?_ | refine AWq.cond ?_ | refine AWq.block ?_ | refine AWq.skip ?_ | (refine Both.mk ?_ ?_ <;> intro hc <;> (first | exact Bool.noConfusion hc | exact absurd (by assumption) hc | exact absurd hc (by assumption) | skip)) | (intro c hc; (try (simp only [AH.none_iff] at hc; repeat (have hn := hc.1; replace hc := hc.2))); (first | (refine i64_k hc ?_ ?_ ?_ ; omega; omega; (clear hc; intro hc; subst hc)) | skip)) | (apply Exists.intro; apply And.intro; (first | (focus (repeat (first | (with_reducible assumption) | (with_reducible exact AH.set_same _ _ _) | ((first | refine AH.get_ne ?_ ?_); (first | (with_reducible assumption) | exact Ne.symm (by with_reducible assumption))))); done))) | (apply Exists.intro; apply And.intro; first | (with_reducible assumption) | ((try simp only [List.getElem?_drop, Nat.mul_one, Nat.add_zero, Nat.zero_add]); first | (with_reducible assumption) | rfl)) | (apply Exists.intro; apply And.intro; (focus (intro G; ((conv => whnf); (try left); (conv => whnf); first | exact And.intro rfl rfl)))) | (apply And.intro; (first | rfl | (with_reducible assumption) | exact Nat.le_of_ble_eq_true rfl | omega)))) <;> (try (conv => whnf))
    rw [AH.set_id hg, AH.set_set]
    (try rw [Int.zero_sub])
    rfl
  · by_cases h2 : d < 0
    · rw [if_neg h1, if_pos h2]
      refine ACall_of tt_ok (dok _) Try.func67 rfl (by decide) rfl ?_
      (repeat' ((conv => whnf); first | refine Then.mk ?_ | refine OpsA.cons ?_ | refine OpsA.nil ?_ | refine AWq.seq ?_ | refine AWq.region ?_ | refine AWq.cond ?_ | refine AWq.block ?_ | refine AWq.skip ?_ | (refine Both.mk ?_ ?_ <;> intro hc <;> (first | exact Bool.noConfusion hc | exact absurd (by assumption) hc | exact absurd hc (by assumption) | skip)) | (intro c hc; (try (simp only [AH.none_iff] at hc; repeat (have hn := hc.1; replace hc := hc.2))); (first | (refine i64_k hc ?_ ?_ ?_ ; omega; omega; (clear hc; intro hc; subst hc)) | skip)) | (apply Exists.intro; apply And.intro; (first | (focus (repeat (first | (with_reducible assumption) | (with_reducible exact AH.set_same _ _ _) | ((first | refine AH.get_ne ?_ ?_); (first | (with_reducible assumption) | exact Ne.symm (by with_reducible assumption))))); done))) | (apply Exists.intro; apply And.intro; first | (with_reducible assumption) | ((try simp only [List.getElem?_drop, Nat.mul_one, Nat.add_zero, Nat.zero_add]); first | (with_reducible assumption) | rfl)) | (apply Exists.intro; apply And.intro; (focus (intro G; ((conv => whnf); (try left); (conv => whnf); first | exact And.intro rfl rfl)))) | (apply And.intro; (first | rfl | (with_reducible assumption) | exact Nat.le_of_ble_eq_true rfl | omega)))) <;> (try (conv => whnf))
      refine AWq.drawK mo [(31, 0), (23, 1), (33, 1)] nm hnm (by decide +kernel) ?_
      (repeat' ((conv => whnf); first | refine DrawK.consD ?_ | refine DrawK.nil ?_ | (apply And.intro; (focus (repeat (first | exact trivial | (refine And.intro (a := _ ≠ _) (b := offR _ _ _) ?_ ?_; (first | omega | exact Ne.symm (by assumption))))); done)) | refine Then.mk ?_ | refine OpsA.cons ?_ | refine OpsA.nil ?_ | refine AWq.seq ?_ | refine AWq.region ?_ | refine AWq.cond ?_ | refine AWq.block ?_ | refine AWq.skip ?_ | (refine Both.mk ?_ ?_ <;> intro hc <;> (first | exact Bool.noConfusion hc | exact absurd (by assumption) hc | exact absurd hc (by assumption) | skip)) | (intro c hc; (try (simp only [AH.none_iff] at hc; repeat (have hn := hc.1; replace hc := hc.2))); (first | (refine i64_k hc ?_ ?_ ?_ ; omega; omega; (clear hc; intro hc; subst hc)) | skip)) | (apply Exists.intro; apply And.intro; (first | (focus (repeat (first | (with_reducible assumption) | (with_reducible exact AH.set_same _ _ _) | ((first | refine AH.get_ne ?_ ?_); (first | (with_reducible assumption) | exact Ne.symm (by with_reducible assumption))))); done))) | (apply Exists.intro; apply And.intro; first | (with_reducible assumption) | ((try simp only [List.getElem?_drop, Nat.mul_one, Nat.add_zero, Nat.zero_add]); first | (with_reducible assumption) | rfl)) | (apply Exists.intro; apply And.intro; (focus (intro G; ((conv => whnf); (try left); (conv => whnf); first | exact And.intro rfl rfl)))) | (apply And.intro; (first | rfl | (with_reducible assumption) | exact Nat.le_of_ble_eq_true rfl | omega)))) <;> (try (conv => whnf))
      rw [AH.set_id hg, AH.set_set]
      (try rw [Int.zero_sub])
      rfl
    · rw [if_neg h1, if_neg h2]
      refine ACall_of tt_ok (dok _) Try.func67 rfl (by decide) rfl ?_
      (repeat' ((conv => whnf); first | refine Then.mk ?_ | refine OpsA.cons ?_ | refine OpsA.nil ?_ | refine AWq.seq ?_ | refine AWq.region ?_ | refine AWq.cond ?_ | refine AWq.block ?_ | refine AWq.skip ?_ | (refine Both.mk ?_ ?_ <;> intro hc <;> (first | exact Bool.noConfusion hc | exact absurd (by assumption) hc | exact absurd hc (by assumption) | skip)) | (intro c hc; (try (simp only [AH.none_iff] at hc; repeat (have hn := hc.1; replace hc := hc.2))); (first | (refine i64_k hc ?_ ?_ ?_ ; omega; omega; (clear hc; intro hc; subst hc)) | skip)) | (apply Exists.intro; apply And.intro; (first | (focus (repeat (first | (with_reducible assumption) | (with_reducible exact AH.set_same _ _ _) | ((first | refine AH.get_ne ?_ ?_); (first | (with_reducible assumption) | exact Ne.symm (by with_reducible assumption))))); done))) | (apply Exists.intro; apply And.intro; first | (with_reducible assumption) | ((try simp only [List.getElem?_drop, Nat.mul_one, Nat.add_zero, Nat.zero_add]); first | (with_reducible assumption) | rfl)) | (apply Exists.intro; apply And.intro; (focus (intro G; ((conv => whnf); (try left); (conv => whnf); first | exact And.intro rfl rfl)))) | (apply And.intro; (first | rfl | (with_reducible assumption) | exact Nat.le_of_ble_eq_true rfl | omega)))) <;> (try (conv => whnf))
      refine AWq.drawK mo [(31, 0), (23, 1), (33, 1)] nm hnm (by decide +kernel) ?_
      (repeat' ((conv => whnf); first | refine DrawK.consD ?_ | refine DrawK.nil ?_ | (apply And.intro; (focus (repeat (first | exact trivial | (refine And.intro (a := _ ≠ _) (b := offR _ _ _) ?_ ?_; (first | omega | exact Ne.symm (by assumption))))); done)) | refine Then.mk ?_ | refine OpsA.cons ?_ | refine OpsA.nil ?_ | refine AWq.seq ?_ | refine AWq.region ?_ | refine AWq.cond ?_ | refine AWq.block ?_ | refine AWq.skip ?_ | (refine Both.mk ?_ ?_ <;> intro hc <;> (first | exact Bool.noConfusion hc | exact absurd (by assumption) hc | exact absurd hc (by assumption) | skip)) | (intro c hc; (try (simp only [AH.none_iff] at hc; repeat (have hn := hc.1; replace hc := hc.2))); (first | (refine i64_k hc ?_ ?_ ?_ ; omega; omega; (clear hc; intro hc; subst hc)) | skip)) | (apply Exists.intro; apply And.intro; (first | (focus (repeat (first | (with_reducible assumption) | (with_reducible exact AH.set_same _ _ _) | ((first | refine AH.get_ne ?_ ?_); (first | (with_reducible assumption) | exact Ne.symm (by with_reducible assumption))))); done))) | (apply Exists.intro; apply And.intro; first | (with_reducible assumption) | ((try simp only [List.getElem?_drop, Nat.mul_one, Nat.add_zero, Nat.zero_add]); first | (with_reducible assumption) | rfl)) | (apply Exists.intro; apply And.intro; (focus (intro G; ((conv => whnf); (try left); (conv => whnf); first | exact And.intro rfl rfl)))) | (apply And.intro; (first | rfl | (with_reducible assumption) | exact Nat.le_of_ble_eq_true rfl | omega)))) <;> (try (conv => whnf))
      rw [AH.set_id hg, AH.set_set]
      (try rw [Int.zero_sub])
      rfl
def edAc (x : Ed) : Ac := ⟨x.a.toNat, x.b.toNat, x.d, x.w, flow0 x.d x.w⟩
def fxAc (n : Nat) (x : Fx) : Ac := ⟨x.a.toNat, n, x.v, x.w, flow0 x.v x.w⟩
def net0 (n : Nat) (es : List Ed) (fs : List Fx) : List Ac := es.map edAc ++ fs.map (fxAc n)
/-- A network in memory, under way. -/
def stH (H : AH) (n g ra : Nat) (A : List Ac) : AH := (H.set ra (.row (acL A) A.length)).set g (.row [.int .i64 n, .sl ra A.length 5 0 A.length none] 0)
theorem stH_add {H : AH} {n g ra : Nat} {A : List Ac} (hne : g ≠ ra) (x : Ac) : stH H n g ra (A ++ [x]) = ((stH H n g ra A).set ra (.row (acL (A ++ [x])) (A.length + 1))).set g (.row [.int .i64 n, .sl ra (A.length + 1) 5 0 (A.length + 1) none] 0) := by
  unfold stH
  rw [AH.set_comm (H.set ra _) _ _ hne, AH.set_set, AH.set_set]
  simp only [List.length_append, List.length_cons, List.length_nil, Nat.zero_add]
theorem stAdd_c (n : Nat) (A : List Ac) (hl : A.length ≤ 100000) (x : Ac) (hf : x.f = flow0 x.d x.w) (hw : 1 ≤ x.w ∧ x.w ≤ 65536) (H : AH) (c7 g ra : Nat) (hc7 : H c7 = some (.row [.ptr g 0 0] 0)) (n1 : c7 ≠ g) (n2 : c7 ≠ ra) (n3 : g ≠ ra) :
    ACall Try.prog 67 [.int .i64 x.a, .int .i64 x.b, .int .i64 x.d, .int .i64 x.w, .ptr c7 0 0] (stH H n g ra A) (fun y H' => y = .tup [] ∧ H' = stH H n g ra (A ++ [x])) := by
  rw [stH_add n3]
  exact add_c n A hl x hf hw _ c7 g ra A.length (by unfold stH; rw [AH.set_ne _ _ n1, AH.set_ne _ _ n2]; exact hc7) (by unfold stH; exact AH.set_same _ _ _) (by unfold stH; rw [AH.set_ne _ _ (Ne.symm n3)]; exact AH.set_same _ _ _) n1 n2 n3
set_option maxRecDepth 8000 in
theorem start_c (n : Nat) (hnn : n ≤ 64) (es : List Ed) (fs : List Fx) (he : es.length ≤ 8192) (hf : fs.length ≤ 8192) (hE : ∀ x ∈ es, vE n x) (hF : ∀ x ∈ fs, vF n x) (H : AH) :
    ACall Try.prog 36 [.int .i64 n, .cs (edL es) es.length, .cs (fxL fs) fs.length] H (fun y H' => ∃ g ra, H g = none ∧ H ra = none ∧ g ≠ ra ∧ y = .ptr g 0 0 ∧ H' = stH H n g ra (net0 n es fs)) := by
  refine ACall.told ?_
  have hel := edL_len es
  have hfl := fxL_len fs
  have heo := edL_one es
  have hfo := fxL_one fs
  refine ACall_of tt_ok (dok _) Try.func36 rfl (by decide) rfl ?_
  (iterate 1 ((repeat' ((conv => whnf); first | left | refine OpsA.cons ?_ | refine OpsA.nil ?_ | refine AWq.seq ?_ | refine AWq.region ?_ | refine AWq.cond ?_ | refine AWq.block ?_ | refine AWq.skip ?_ | refine AWq.ret ?_ | refine AWq.exit ?_ | refine AWq.loop ?_ | (refine Both.mk ?_ ?_ <;> intro hc <;> (first | exact Bool.noConfusion hc | (exfalso; omega) | skip)) | (intro c hc; (try (simp only [AH.none_iff] at hc; repeat (have hn := hc.1; replace hc := hc.2))); (first | (refine i64_k hc ?_ ?_ ?_ ; omega; omega; (clear hc; intro hc; subst hc)) | skip)) | (apply Exists.intro; apply And.intro; (first | (focus (repeat (first | (with_reducible assumption) | (with_reducible exact AH.set_same _ _ _))); done))) | (apply Exists.intro; apply And.intro; first | (with_reducible assumption) | ((try simp only [List.getElem?_drop, Nat.mul_one, Nat.add_zero, Nat.zero_add]); first | (with_reducible assumption) | rfl)) | (apply And.intro; (first | rfl | (with_reducible assumption) | exact Nat.le_of_ble_eq_true rfl | omega | (simp <;> omega) | (focus (repeat' (first | (with_reducible assumption) | rfl | apply one_take | apply one_drop)); done))))) <;> (try (conv => whnf)); refine Then.mk ?_))
  (repeat' ((conv => whnf); first | left | refine OpsA.cons ?_ | refine OpsA.nil ?_ | refine AWq.seq ?_ | refine AWq.region ?_ | refine AWq.cond ?_ | refine AWq.block ?_ | refine AWq.skip ?_ | refine AWq.ret ?_ | refine AWq.exit ?_ | refine AWq.loop ?_ | (refine Both.mk ?_ ?_ <;> intro hc <;> (first | exact Bool.noConfusion hc | (exfalso; omega) | skip)) | (intro c hc; (try (simp only [AH.none_iff] at hc; repeat (have hn := hc.1; replace hc := hc.2))); (first | (refine i64_k hc ?_ ?_ ?_ ; omega; omega; (clear hc; intro hc; subst hc)) | skip)) | (apply Exists.intro; apply And.intro; (first | (focus (repeat (first | (with_reducible assumption) | (with_reducible exact AH.set_same _ _ _))); done))) | (apply Exists.intro; apply And.intro; first | (with_reducible assumption) | ((try simp only [List.getElem?_drop, Nat.mul_one, Nat.add_zero, Nat.zero_add]); first | (with_reducible assumption) | rfl)) | (apply And.intro; (first | rfl | (with_reducible assumption) | exact Nat.le_of_ble_eq_true rfl | omega | (simp <;> omega) | (focus (repeat' (first | (with_reducible assumption) | rfl | apply one_take | apply one_drop)); done))))) <;> (try (conv => whnf))
  rename_i g hg
  (obtain ⟨c7, hq_⟩ : ∃ c7, c7 = c := ⟨_, rfl⟩); subst hq_
  have hcg : c7 ≠ g := hn
  have hc7 : H c7 = none := hc
  refine Then.mk (AWq.in ?_)
  refine AWp_less ((H.set c7 (.row [.ptr g 0 0] 0)).set g (.row [.int .i64 n, .nils] 0)) (HLe.of_eq (by rw [AH.set_set, AH.set_comm _ _ _ hcg]; rfl)) ?_
  refine AWp_nilC (p := g) 5 [.int .i64 n] [] (AH.set_same _ _ _) fun ra hra hrg => ?_
  obtain ⟨hrg, hra⟩ := AH.none_set hra
  obtain ⟨hr7, hra⟩ := AH.none_set hra
  have hgra := Ne.symm hrg
  have h7r := Ne.symm hr7
  refine AWp_less (stH (H.set c7 (.row [.ptr g 0 0] 0)) n g ra []) (HLe.of_eq (by unfold stH; rw [AH.set_comm _ _ _ hgra, AH.set_set]; rfl)) ?_
  obtain ⟨G, hG⟩ : ∃ G, G = H.set c7 (.row [.ptr g 0 0] 0) := ⟨_, rfl⟩
  rw [← hG]
  have hG7 : G c7 = some (.row [.ptr g 0 0] 0) := by rw [hG]; exact AH.set_same _ _ _
  have hs7 : ∀ A, stH G n g ra A c7 = some (.row [.ptr g 0 0] 0) := fun A => by unfold stH; rw [AH.set_ne _ _ hcg, AH.set_ne _ _ h7r]; exact hG7
  refine AWp.of tt_ok (dok _) rfl ?_
  (repeat' ((conv => whnf); first | refine Then.mk ?_ | left | refine OpsA.cons ?_ | refine OpsA.nil ?_ | refine AWq.seq ?_ | refine AWq.region ?_ | refine AWq.cond ?_ | refine AWq.block ?_ | refine AWq.skip ?_ | refine AWq.ret ?_ | refine AWq.exit ?_ | refine AWq.loop ?_ | (refine Both.mk ?_ ?_ <;> intro hc <;> (first | exact Bool.noConfusion hc | (exfalso; omega) | skip)) | (intro c hc; (try (simp only [AH.none_iff] at hc; repeat (have hn := hc.1; replace hc := hc.2))); (first | (refine i64_k hc ?_ ?_ ?_ ; omega; omega; (clear hc; intro hc; subst hc)) | skip)) | (apply Exists.intro; apply And.intro; (first | (focus (repeat (first | (with_reducible assumption) | (with_reducible exact AH.set_same _ _ _))); done))) | (apply Exists.intro; apply And.intro; first | (with_reducible assumption) | ((try simp only [List.getElem?_drop, Nat.mul_one, Nat.add_zero, Nat.zero_add]); first | (with_reducible assumption) | rfl)) | (apply And.intro; (first | rfl | (with_reducible assumption) | exact Nat.le_of_ble_eq_true rfl | omega | (simp <;> omega) | (focus (repeat' (first | (with_reducible assumption) | rfl | apply one_take | apply one_drop)); done))))) <;> (try (conv => whnf))
  refine AWp_loop (σ := Nat) (10 :: 19 :: 20 :: 21 :: 22 :: 23 :: 24 :: 25 :: 26 :: 27 :: 28 :: 29 :: 30 :: 31 :: 32 :: 33 :: []) (fun i => [(19, .int .i64 i)]) (fun i => stH G n g ra ((es.take i).map edAc)) (fun i => i ≤ es.length) (fun i => es.length - i) 0 rfl (Nat.zero_le _) ⟨rfl, trivial⟩ (HLe.refl _) ?_
  intro i hi
  refine AWp.of tt_ok (dok _) rfl ?_
  dsimp only at hi ⊢
  by_cases hil : i < es.length
  · obtain ⟨x, hx⟩ : ∃ x, es[i]? = some x := ⟨_, List.getElem?_eq_getElem hil⟩
    obtain ⟨v1, v2, v3, v4, v5⟩ := hE x (List.mem_of_getElem? hx)
    have hs := stAdd_c n ((es.take i).map edAc) (by rw [List.length_map, List.length_take]; omega) (edAc x) rfl v5 G c7 g ra hG7 hcg h7r hgra
    have htk : (es.take (i + 1)).map edAc = (es.take i).map edAc ++ [edAc x] := by rw [take_snoc hx]; simp
    rw [← htk] at hs
    have ea : ((edAc x).a : Int) = x.a := by show ((x.a.toNat : Nat) : Int) = x.a; omega
    have eb : ((edAc x).b : Int) = x.b := by show ((x.b.toNat : Nat) : Int) = x.b; omega
    rw [ea, eb] at hs
    have hs : ACall Try.prog 67 [.int .i64 x.a, .int .i64 x.b, .int .i64 x.d, .int .i64 x.w, .ptr c7 0 0] (stH G n g ra ((es.take i).map edAc)) (fun y H' => y = .tup [] ∧ H' = stH G n g ra ((es.take (i + 1)).map edAc)) := hs
    have hs1 := hs7 ((es.take i).map edAc)
    generalize stH G n g ra ((es.take i).map edAc) = G1 at *
    generalize hG2 : stH G n g ra ((es.take (i + 1)).map edAc) = G2 at *
    (iterate 3 ((repeat' ((conv => whnf); first | left | refine OpsA.cons ?_ | refine OpsA.nil ?_ | refine AWq.seq ?_ | refine AWq.region ?_ | refine AWq.cond ?_ | refine AWq.block ?_ | refine AWq.skip ?_ | refine AWq.ret ?_ | refine AWq.exit ?_ | refine AWq.loop ?_ | (refine Both.mk ?_ ?_ <;> intro hc <;> (first | exact Bool.noConfusion hc | (exfalso; omega) | skip)) | (intro c hc; (try (simp only [AH.none_iff] at hc; repeat (have hn := hc.1; replace hc := hc.2))); (first | (refine i64_k hc ?_ ?_ ?_ ; omega; omega; (clear hc; intro hc; subst hc)) | skip)) | (apply Exists.intro; apply And.intro; (first | (focus (repeat (first | (with_reducible assumption) | (with_reducible exact AH.set_same _ _ _))); done))) | (apply Exists.intro; apply And.intro; first | (with_reducible assumption) | ((try simp only [List.getElem?_drop, Nat.mul_one, Nat.add_zero, Nat.zero_add]); first | (with_reducible assumption) | rfl)) | (apply And.intro; (first | rfl | (with_reducible assumption) | exact Nat.le_of_ble_eq_true rfl | omega | (simp <;> omega) | (focus (repeat' (first | (with_reducible assumption) | rfl | apply one_take | apply one_drop)); done))))) <;> (try (conv => whnf)); refine Then.mk ?_))
    refine AWq.in ?_
    refine AWp_segP 10 (edA x) rfl rfl (by (first | assumption | (simp only [AH.none_iff]; (repeat' (first | assumption | (refine And.intro ?_ ?_)))))) (edL_seg hx) rfl ?_
    refine AWp.of tt_ok (dok _) rfl ?_
    (repeat' ((conv => whnf); first | refine Then.mk ?_ | left | refine OpsA.cons ?_ | refine OpsA.nil ?_ | refine AWq.seq ?_ | refine AWq.region ?_ | refine AWq.cond ?_ | refine AWq.block ?_ | refine AWq.skip ?_ | refine AWq.ret ?_ | refine AWq.exit ?_ | refine AWq.loop ?_ | (refine Both.mk ?_ ?_ <;> intro hc <;> (first | exact Bool.noConfusion hc | (exfalso; omega) | skip)) | (intro c hc; (try (simp only [AH.none_iff] at hc; repeat (have hn := hc.1; replace hc := hc.2))); (first | (refine i64_k hc ?_ ?_ ?_ ; omega; omega; (clear hc; intro hc; subst hc)) | skip)) | (apply Exists.intro; apply And.intro; (first | (focus (repeat (first | (with_reducible assumption) | (with_reducible exact AH.set_same _ _ _))); done))) | (apply Exists.intro; apply And.intro; first | (with_reducible assumption) | ((try simp only [List.getElem?_drop, Nat.mul_one, Nat.add_zero, Nat.zero_add]); first | (with_reducible assumption) | rfl)) | (apply And.intro; (first | rfl | (with_reducible assumption) | exact Nat.le_of_ble_eq_true rfl | omega | (simp <;> omega) | (focus (repeat' (first | (with_reducible assumption) | rfl | apply one_take | apply one_drop)); done))) | (refine ACall.to (hs) ?_))) <;> (try (conv => whnf))
    refine ⟨i + 1, hil, by omega, ⟨congrArg (AV.int .i64) (by omega), trivial⟩, HLe.of_eq hG2⟩
  · have hie : i = es.length := by omega
    have hte : (es.take i).map edAc = es.map edAc := by rw [List.take_of_length_le (by omega)]
    rw [hte]
    (repeat' ((conv => whnf); first | refine Then.mk ?_ | left | refine OpsA.cons ?_ | refine OpsA.nil ?_ | refine AWq.seq ?_ | refine AWq.region ?_ | refine AWq.cond ?_ | refine AWq.block ?_ | refine AWq.skip ?_ | refine AWq.ret ?_ | refine AWq.exit ?_ | refine AWq.loop ?_ | (refine Both.mk ?_ ?_ <;> intro hc <;> (first | exact Bool.noConfusion hc | (exfalso; omega) | skip)) | (intro c hc; (try (simp only [AH.none_iff] at hc; repeat (have hn := hc.1; replace hc := hc.2))); (first | (refine i64_k hc ?_ ?_ ?_ ; omega; omega; (clear hc; intro hc; subst hc)) | skip)) | (apply Exists.intro; apply And.intro; (first | (focus (repeat (first | (with_reducible assumption) | (with_reducible exact AH.set_same _ _ _))); done))) | (apply Exists.intro; apply And.intro; first | (with_reducible assumption) | ((try simp only [List.getElem?_drop, Nat.mul_one, Nat.add_zero, Nat.zero_add]); first | (with_reducible assumption) | rfl)) | (apply And.intro; (first | rfl | (with_reducible assumption) | exact Nat.le_of_ble_eq_true rfl | omega | (simp <;> omega) | (focus (repeat' (first | (with_reducible assumption) | rfl | apply one_take | apply one_drop)); done))))) <;> (try (conv => whnf))
    refine AWp_loop (σ := Nat) (12 :: 36 :: 37 :: 38 :: 39 :: 40 :: 41 :: 42 :: 43 :: 44 :: 45 :: 46 :: 47 :: 48 :: 49 :: []) (fun i => [(36, .int .i64 i)]) (fun i => stH G n g ra (es.map edAc ++ (fs.take i).map (fxAc n))) (fun i => i ≤ fs.length) (fun i => fs.length - i) 0 rfl (Nat.zero_le _) ⟨rfl, trivial⟩ (HLe.of_eq (by simp)) ?_
    intro j hj
    refine AWp.of tt_ok (dok _) rfl ?_
    dsimp only at hj ⊢
    by_cases hjl : j < fs.length
    · obtain ⟨x, hx⟩ : ∃ x, fs[j]? = some x := ⟨_, List.getElem?_eq_getElem hjl⟩
      obtain ⟨v1, v4, v5⟩ := hF x (List.mem_of_getElem? hx)
      have hs := stAdd_c n (es.map edAc ++ (fs.take j).map (fxAc n)) (by rw [List.length_append, List.length_map, List.length_map, List.length_take]; omega) (fxAc n x) rfl v5 G c7 g ra hG7 hcg h7r hgra
      have htk : es.map edAc ++ (fs.take (j + 1)).map (fxAc n) = es.map edAc ++ (fs.take j).map (fxAc n) ++ [fxAc n x] := by rw [take_snoc hx]; simp
      rw [← htk] at hs
      have ea : ((fxAc n x).a : Int) = x.a := by show ((x.a.toNat : Nat) : Int) = x.a; omega
      rw [ea] at hs
      have hs : ACall Try.prog 67 [.int .i64 x.a, .int .i64 n, .int .i64 x.v, .int .i64 x.w, .ptr c7 0 0] (stH G n g ra (es.map edAc ++ (fs.take j).map (fxAc n))) (fun y H' => y = .tup [] ∧ H' = stH G n g ra (es.map edAc ++ (fs.take (j + 1)).map (fxAc n))) := hs
      have hs1 := hs7 (es.map edAc ++ (fs.take j).map (fxAc n))
      generalize stH G n g ra (es.map edAc ++ (fs.take j).map (fxAc n)) = G1 at *
      generalize hG2 : stH G n g ra (es.map edAc ++ (fs.take (j + 1)).map (fxAc n)) = G2 at *
      (iterate 3 ((repeat' ((conv => whnf); first | left | refine OpsA.cons ?_ | refine OpsA.nil ?_ | refine AWq.seq ?_ | refine AWq.region ?_ | refine AWq.cond ?_ | refine AWq.block ?_ | refine AWq.skip ?_ | refine AWq.ret ?_ | refine AWq.exit ?_ | refine AWq.loop ?_ | (refine Both.mk ?_ ?_ <;> intro hc <;> (first | exact Bool.noConfusion hc | (exfalso; omega) | skip)) | (intro c hc; (try (simp only [AH.none_iff] at hc; repeat (have hn := hc.1; replace hc := hc.2))); (first | (refine i64_k hc ?_ ?_ ?_ ; omega; omega; (clear hc; intro hc; subst hc)) | skip)) | (apply Exists.intro; apply And.intro; (first | (focus (repeat (first | (with_reducible assumption) | (with_reducible exact AH.set_same _ _ _))); done))) | (apply Exists.intro; apply And.intro; first | (with_reducible assumption) | ((try simp only [List.getElem?_drop, Nat.mul_one, Nat.add_zero, Nat.zero_add]); first | (with_reducible assumption) | rfl)) | (apply And.intro; (first | rfl | (with_reducible assumption) | exact Nat.le_of_ble_eq_true rfl | omega | (simp <;> omega) | (focus (repeat' (first | (with_reducible assumption) | rfl | apply one_take | apply one_drop)); done))))) <;> (try (conv => whnf)); refine Then.mk ?_))
      refine AWq.in ?_
      refine AWp_segP 12 (fxA x) rfl rfl (by (first | assumption | (simp only [AH.none_iff]; (repeat' (first | assumption | (refine And.intro ?_ ?_)))))) (fxL_seg hx) rfl ?_
      refine AWp.of tt_ok (dok _) rfl ?_
      (repeat' ((conv => whnf); first | refine Then.mk ?_ | left | refine OpsA.cons ?_ | refine OpsA.nil ?_ | refine AWq.seq ?_ | refine AWq.region ?_ | refine AWq.cond ?_ | refine AWq.block ?_ | refine AWq.skip ?_ | refine AWq.ret ?_ | refine AWq.exit ?_ | refine AWq.loop ?_ | (refine Both.mk ?_ ?_ <;> intro hc <;> (first | exact Bool.noConfusion hc | (exfalso; omega) | skip)) | (intro c hc; (try (simp only [AH.none_iff] at hc; repeat (have hn := hc.1; replace hc := hc.2))); (first | (refine i64_k hc ?_ ?_ ?_ ; omega; omega; (clear hc; intro hc; subst hc)) | skip)) | (apply Exists.intro; apply And.intro; (first | (focus (repeat (first | (with_reducible assumption) | (with_reducible exact AH.set_same _ _ _))); done))) | (apply Exists.intro; apply And.intro; first | (with_reducible assumption) | ((try simp only [List.getElem?_drop, Nat.mul_one, Nat.add_zero, Nat.zero_add]); first | (with_reducible assumption) | rfl)) | (apply And.intro; (first | rfl | (with_reducible assumption) | exact Nat.le_of_ble_eq_true rfl | omega | (simp <;> omega) | (focus (repeat' (first | (with_reducible assumption) | rfl | apply one_take | apply one_drop)); done))) | (refine ACall.to (hs) ?_))) <;> (try (conv => whnf))
      refine ⟨j + 1, hjl, by omega, ⟨congrArg (AV.int .i64) (by omega), trivial⟩, HLe.of_eq hG2⟩
    · have hte2 : (fs.take j).map (fxAc n) = fs.map (fxAc n) := by rw [List.take_of_length_le (by omega)]
      rw [hte2]
      have hs1 := hs7 (es.map edAc ++ fs.map (fxAc n))
      (repeat' ((conv => whnf); first | refine Then.mk ?_ | left | refine OpsA.cons ?_ | refine OpsA.nil ?_ | refine AWq.seq ?_ | refine AWq.region ?_ | refine AWq.cond ?_ | refine AWq.block ?_ | refine AWq.skip ?_ | refine AWq.ret ?_ | refine AWq.exit ?_ | refine AWq.loop ?_ | (refine Both.mk ?_ ?_ <;> intro hc <;> (first | exact Bool.noConfusion hc | (exfalso; omega) | skip)) | (intro c hc; (try (simp only [AH.none_iff] at hc; repeat (have hn := hc.1; replace hc := hc.2))); (first | (refine i64_k hc ?_ ?_ ?_ ; omega; omega; (clear hc; intro hc; subst hc)) | skip)) | (apply Exists.intro; apply And.intro; (first | (focus (repeat (first | (with_reducible assumption) | (with_reducible exact AH.set_same _ _ _))); done))) | (apply Exists.intro; apply And.intro; first | (with_reducible assumption) | ((try simp only [List.getElem?_drop, Nat.mul_one, Nat.add_zero, Nat.zero_add]); first | (with_reducible assumption) | rfl)) | (apply And.intro; (first | rfl | (with_reducible assumption) | exact Nat.le_of_ble_eq_true rfl | omega | (simp <;> omega) | (focus (repeat' (first | (with_reducible assumption) | rfl | apply one_take | apply one_drop)); done))))) <;> (try (conv => whnf))
      refine ⟨_, stH H n g ra (net0 n es fs), AVle.refl _, ?_, g, ra, hg, hra, hgra, rfl, rfl⟩
      rw [hG]
      unfold net0 stH
      exact HLe.set (HLe.set (HLe.fresh _ hc7) _ _) _ _
end Go.Proofs.Ytebflkgpbbjhnaa
/- The walks of balance: costs. -/
namespace Go.Proofs.Ytebflkgpbbjhnaa
open Go.Fw Go
set_option linter.unusedVariables false
set_option linter.unusedSimpArgs false

def costE (o : Nat → Int) (x : Ed) : Int := x.w * absI (o x.a.toNat - o x.b.toNat - x.d)
def costF (o : Nat → Int) (x : Fx) : Int := x.w * absI (o x.a.toNat - x.v)
def costP (es : List Ed) (fs : List Fx) (o : Nat → Int) : Int := (es.map (costE o)).sum + (fs.map (costF o)).sum
def ofL (l : List Int) : Nat → Int := fun i => l.getD i 0
def costR (es : List Ed) (fs : List Fx) (l : List Int) : Int × Int :=
  if validV l.length es fs ≠ 0 then (0, validV l.length es fs) else if (∀ x ∈ l, -1073741824 ≤ x ∧ x ≤ 1073741824) then (costP es fs (ofL l), 0) else (0, 5)
theorem absI_bd {z b : Int} (h : -b ≤ z ∧ z ≤ b) : 0 ≤ absI z ∧ absI z ≤ b := by unfold absI; split <;> omega
theorem mul_bd {w z : Int} (hw : 1 ≤ w ∧ w ≤ 65536) (hz : 0 ≤ z ∧ z ≤ 2147549183) : 0 ≤ w * z ∧ w * z ≤ 140741783257088 := by
  refine ⟨Int.mul_nonneg (by omega) hz.1, ?_⟩
  have h1 : w * z ≤ 65536 * z := Int.mul_le_mul_of_nonneg_right hw.2 hz.1
  omega
theorem sum_bd {l : List Int} {b : Int} (h : ∀ x ∈ l, 0 ≤ x ∧ x ≤ b) : 0 ≤ l.sum ∧ l.sum ≤ b * l.length := by
  induction l with
  | nil => simp
  | cons x l ih =>
    have h1 := h x (by simp)
    have h2 := ih (fun y hy => h y (by simp [hy]))
    rw [List.sum_cons, List.length_cons]
    have : b * ((l.length + 1 : Nat) : Int) = b * (l.length : Int) + b := by rw [Int.natCast_add, Int.mul_add]; omega
    omega
theorem getD_mem {l : List Int} {i : Nat} (h : i < l.length) : l.getD i 0 ∈ l := by
  rw [List.getD_eq_getElem?_getD, List.getElem?_eq_getElem h]; exact List.getElem_mem h
theorem costE_bd {o : List Int} {x : Ed} (ho : ∀ x ∈ o, -1073741824 ≤ x ∧ x ≤ 1073741824) (h : vE o.length x) : 0 ≤ costE (ofL o) x ∧ costE (ofL o) x ≤ 140741783257088 := by
  obtain ⟨v1, v2, v3, v4, v5⟩ := h
  have h1 := ho _ (getD_mem (i := x.a.toNat) (l := o) (by omega))
  have h2 := ho _ (getD_mem (i := x.b.toNat) (l := o) (by omega))
  exact mul_bd v5 (absI_bd (by unfold ofL; omega))
theorem costF_bd {o : List Int} {x : Fx} (ho : ∀ x ∈ o, -1073741824 ≤ x ∧ x ≤ 1073741824) (h : vF o.length x) : 0 ≤ costF (ofL o) x ∧ costF (ofL o) x ≤ 140741783257088 := by
  obtain ⟨v1, v4, v5⟩ := h
  have h1 := ho _ (getD_mem (i := x.a.toNat) (l := o) (by omega))
  exact mul_bd v5 (absI_bd (by unfold ofL; omega))
theorem validV_ok {n : Int} {es : List Ed} {fs : List Fx} (h : validV n es fs = 0) : (0 ≤ n ∧ n ≤ 64) ∧ (es.length ≤ 8192 ∧ fs.length ≤ 8192) ∧ (∀ x ∈ es, vE n x) ∧ (∀ x ∈ fs, vF n x) := by
  unfold validV at h
  split at h
  · omega
  · split at h
    · omega
    · split at h
      · rename_i h1 h2 h3
        exact ⟨by omega, by omega, h3.1, h3.2⟩
      · omega
set_option maxHeartbeats 4000000 in
set_option maxRecDepth 8000 in
theorem cost_c (es : List Ed) (fs : List Fx) (o : List Int) (he : es.length ≤ 1000000000) (hf : fs.length ≤ 1000000000) (hol : o.length ≤ 1000000000) (H : AH) :
    ACall Try.prog 26 [.cs (edL es) es.length, .cs (fxL fs) fs.length, .cs (iS .i64 o) o.length] H (fun y H' => y = .tup [.int .i64 (costR es fs o).1, .int .i64 (costR es fs o).2] ∧ H' = H) := by
  have hv := fun H => valid_c o.length es fs he hf H
  have hw := fun H => within_c 1073741824 (by decide) o hol H
  unfold costR
  by_cases h0 : validV o.length es fs = 0
  · rw [if_neg (by simpa using h0)]
    rw [h0] at hv
    obtain ⟨⟨hn0, hn1⟩, ⟨he1, hf1⟩, hE, hF⟩ := validV_ok h0
    by_cases hb : ∀ x ∈ o, -1073741824 ≤ x ∧ x ≤ 1073741824
    · rw [if_pos hb]
      rw [show (o.all fun x => decide (-1073741824 ≤ x ∧ x ≤ 1073741824)) = true from List.all_eq_true.2 fun x hx => decide_eq_true (hb x hx)] at hw
      have hel := edL_len es
      have hfl := fxL_len fs
      have heo := edL_one es
      have hfo := fxL_one fs
      have hil := iS_length .i64 o
      refine ACall.back ?_
      refine ACall_of tt_ok (dok _) Try.func26 rfl (by decide) rfl ?_
      (repeat' ((conv => whnf); first | refine Then.mk ?_ | refine OpsA.cons ?_ | refine OpsA.nil ?_ | refine AWq.seq ?_ | refine AWq.region ?_ | refine AWq.cond ?_ | refine AWq.block ?_ | refine AWq.skip ?_ | refine AWq.ret ?_ | refine AWq.exit ?_ | refine AWq.loop ?_ | refine DrawA.consD ?_ | refine DrawA.nil ?_ | refine AWq.draw (by decide +kernel) ?_ | (refine Both.mk ?_ ?_ <;> intro hc <;> (first | exact Bool.noConfusion hc | exact absurd (by with_reducible rfl) hc | exact absurd (by assumption) hc | (exfalso; omega) | skip)) | (intro c hc; (try (simp only [AH.none_iff] at hc; repeat (have hn := hc.1; replace hc := hc.2))); (first | (refine i64_k hc ?_ ?_ ?_ ; omega; omega; (clear hc; intro hc; subst hc)) | skip)) | (apply Exists.intro; apply And.intro; (first | (focus (repeat (first | (with_reducible assumption) | (with_reducible exact AH.set_same _ _ _))); done))) | (apply Exists.intro; apply And.intro; first | (with_reducible assumption) | ((try simp only [List.getElem?_drop, Nat.mul_one, Nat.add_zero, Nat.zero_add]); first | (with_reducible assumption) | rfl)) | (apply And.intro; (first | rfl | (with_reducible assumption) | exact Nat.le_of_ble_eq_true rfl | omega | (simp <;> omega) | (focus (repeat' (first | (with_reducible assumption) | rfl | apply one_take | apply one_drop)); done))) | (refine ACall.to (hv _) ?_) | (refine ACall.to (hw _) ?_))) <;> (try (conv => whnf))
      refine AWp_loop (σ := Nat) (9 :: 11 :: 27 :: 28 :: 29 :: 30 :: 31 :: 32 :: 33 :: 34 :: 35 :: 36 :: 37 :: 38 :: 39 :: 40 :: 41 :: 42 :: 43 :: 44 :: 45 :: 46 :: 47 :: 48 :: 49 :: 50 :: 51 :: []) (fun i => [(27, .int .i64 i), (9, .int .i64 ((es.take i).map (costE (ofL o))).sum)]) (fun i => H) (fun i => i ≤ es.length) (fun i => es.length - i) 0 rfl (Nat.zero_le _) ⟨rfl, rfl, trivial⟩ (HLe.refl _) ?_
      intro i hi
      refine AWp.of tt_ok (dok _) rfl ?_
      dsimp only at hi ⊢
      by_cases hilt : i < es.length
      · obtain ⟨x, hx⟩ : ∃ x, es[i]? = some x := ⟨_, List.getElem?_eq_getElem hilt⟩
        have hvx := hE x (List.mem_of_getElem? hx)
        have hcb := costE_bd hb hvx
        obtain ⟨v1, v2, v3, v4, v5⟩ := hvx
        have hsb := sum_bd (l := (es.take i).map (costE (ofL o))) (b := 140741783257088) (fun z hz => by
          obtain ⟨y, hy, rfl⟩ := List.mem_map.1 hz
          exact costE_bd hb (hE y (List.mem_of_mem_take hy)))
        have hlt : (((es.take i).map (costE (ofL o))).length : Int) ≤ 8192 := by rw [List.length_map, List.length_take]; omega
        have htk : ((es.take (i + 1)).map (costE (ofL o))).sum = ((es.take i).map (costE (ofL o))).sum + costE (ofL o) x := by rw [take_snoc hx]; simp
        generalize ((es.take i).map (costE (ofL o))).sum = s at *
        have ga : (iS .i64 o)[x.a.toNat]? = some (.int .i64 (ofL o x.a.toNat)) := iS_get (by omega)
        have gb : (iS .i64 o)[x.b.toNat]? = some (.int .i64 (ofL o x.b.toNat)) := iS_get (by omega)
        have hca := hb _ (getD_mem (i := x.a.toNat) (l := o) (by omega))
        have hcb2 := hb _ (getD_mem (i := x.b.toNat) (l := o) (by omega))
        have hab := fun H => babs_c (ofL o x.a.toNat - ofL o x.b.toNat - x.d) (by unfold ofL; omega) H
        have hzb := absI_bd (z := ofL o x.a.toNat - ofL o x.b.toNat - x.d) (b := 2147549183) (by unfold ofL; omega)
        have hme : costE (ofL o) x = x.w * absI (ofL o x.a.toNat - ofL o x.b.toNat - x.d) := rfl
        rw [hme] at hcb htk
        have hca : -1073741824 ≤ ofL o x.a.toNat ∧ ofL o x.a.toNat ≤ 1073741824 := hca
        have hcb2 : -1073741824 ≤ ofL o x.b.toNat ∧ ofL o x.b.toNat ≤ 1073741824 := hcb2
        generalize ofL o x.a.toNat = oa at *
        generalize ofL o x.b.toNat = ob at *
        generalize absI (oa - ob - x.d) = z at *
        (iterate 3 ((repeat' ((conv => whnf); first | refine OpsA.cons ?_ | refine OpsA.nil ?_ | refine AWq.seq ?_ | refine AWq.region ?_ | refine AWq.cond ?_ | refine AWq.block ?_ | refine AWq.skip ?_ | refine AWq.ret ?_ | refine AWq.exit ?_ | refine AWq.loop ?_ | refine DrawA.consD ?_ | refine DrawA.nil ?_ | refine AWq.draw (by decide +kernel) ?_ | (refine Both.mk ?_ ?_ <;> intro hc <;> (first | exact Bool.noConfusion hc | exact absurd (by with_reducible rfl) hc | exact absurd (by assumption) hc | (exfalso; omega) | skip)) | (intro c hc; (try (simp only [AH.none_iff] at hc; repeat (have hn := hc.1; replace hc := hc.2))); (first | (refine i64_k hc ?_ ?_ ?_ ; omega; omega; (clear hc; intro hc; subst hc)) | skip)) | (apply Exists.intro; apply And.intro; (first | (focus (repeat (first | (with_reducible assumption) | (with_reducible exact AH.set_same _ _ _))); done))) | (apply Exists.intro; apply And.intro; first | (with_reducible assumption) | ((try simp only [List.getElem?_drop, Nat.mul_one, Nat.add_zero, Nat.zero_add]); first | (with_reducible assumption) | rfl)) | (apply And.intro; (first | rfl | (with_reducible assumption) | exact Nat.le_of_ble_eq_true rfl | omega | (simp <;> omega) | (focus (repeat' (first | (with_reducible assumption) | rfl | apply one_take | apply one_drop)); done))))) <;> (try (conv => whnf)); refine Then.mk ?_))
        refine AWq.in ?_
        refine AWp_segP 11 (edA x) rfl rfl (by (first | assumption | (simp only [AH.none_iff]; (repeat' (first | assumption | (refine And.intro ?_ ?_)))))) (edL_seg hx) rfl ?_
        refine AWp.of tt_ok (dok _) rfl ?_
        (repeat' ((conv => whnf); first | refine Then.mk ?_ | refine OpsA.cons ?_ | refine OpsA.nil ?_ | refine AWq.seq ?_ | refine AWq.region ?_ | refine AWq.cond ?_ | refine AWq.block ?_ | refine AWq.skip ?_ | refine AWq.ret ?_ | refine AWq.exit ?_ | refine AWq.loop ?_ | refine DrawA.consD ?_ | refine DrawA.nil ?_ | refine AWq.draw (by decide +kernel) ?_ | (apply Exists.intro; apply And.intro; exact hab _) | (refine Both.mk ?_ ?_ <;> intro hc <;> (first | exact Bool.noConfusion hc | exact absurd (by with_reducible rfl) hc | exact absurd (by assumption) hc | (exfalso; omega) | skip)) | (intro c hc; (try (simp only [AH.none_iff] at hc; repeat (have hn := hc.1; replace hc := hc.2))); (first | (refine i64_k hc ?_ ?_ ?_ ; omega; omega; (clear hc; intro hc; subst hc)) | skip)) | (apply Exists.intro; apply And.intro; (first | (focus (repeat (first | (with_reducible assumption) | (with_reducible exact AH.set_same _ _ _))); done))) | (apply Exists.intro; apply And.intro; first | (with_reducible assumption) | ((try simp only [List.getElem?_drop, Nat.mul_one, Nat.add_zero, Nat.zero_add]); first | (with_reducible assumption) | rfl)) | (apply And.intro; (first | rfl | (with_reducible assumption) | exact Nat.le_of_ble_eq_true rfl | omega | (simp <;> omega) | (focus (repeat' (first | (with_reducible assumption) | rfl | apply one_take | apply one_drop)); done))))) <;> (try (conv => whnf))
        exact ⟨i + 1, hilt, by omega, ⟨congrArg (AV.int .i64) (by omega), congrArg (AV.int .i64) htk.symm, trivial⟩, HLe.refl _⟩
      · have hte : (es.take i).map (costE (ofL o)) = es.map (costE (ofL o)) := by rw [List.take_of_length_le (by omega)]
        have hsE := sum_bd (l := es.map (costE (ofL o))) (b := 140741783257088) (fun z hz => by
          obtain ⟨y, hy, rfl⟩ := List.mem_map.1 hz
          exact costE_bd hb (hE y hy))
        rw [List.length_map] at hsE
        rw [hte]
        unfold costP
        generalize hSE : (es.map (costE (ofL o))).sum = S at *
        (repeat' ((conv => whnf); first | refine Then.mk ?_ | refine OpsA.cons ?_ | refine OpsA.nil ?_ | refine AWq.seq ?_ | refine AWq.region ?_ | refine AWq.cond ?_ | refine AWq.block ?_ | refine AWq.skip ?_ | refine AWq.ret ?_ | refine AWq.exit ?_ | refine AWq.loop ?_ | refine DrawA.consD ?_ | refine DrawA.nil ?_ | refine AWq.draw (by decide +kernel) ?_ | (refine Both.mk ?_ ?_ <;> intro hc <;> (first | exact Bool.noConfusion hc | exact absurd (by with_reducible rfl) hc | exact absurd (by assumption) hc | (exfalso; omega) | skip)) | (intro c hc; (try (simp only [AH.none_iff] at hc; repeat (have hn := hc.1; replace hc := hc.2))); (first | (refine i64_k hc ?_ ?_ ?_ ; omega; omega; (clear hc; intro hc; subst hc)) | skip)) | (apply Exists.intro; apply And.intro; (first | (focus (repeat (first | (with_reducible assumption) | (with_reducible exact AH.set_same _ _ _))); done))) | (apply Exists.intro; apply And.intro; first | (with_reducible assumption) | ((try simp only [List.getElem?_drop, Nat.mul_one, Nat.add_zero, Nat.zero_add]); first | (with_reducible assumption) | rfl)) | (apply And.intro; (first | rfl | (with_reducible assumption) | exact Nat.le_of_ble_eq_true rfl | omega | (simp <;> omega) | (focus (repeat' (first | (with_reducible assumption) | rfl | apply one_take | apply one_drop)); done))))) <;> (try (conv => whnf))
        refine AWp_loop (σ := Nat) (9 :: 13 :: 54 :: 55 :: 56 :: 57 :: 58 :: 59 :: 60 :: 61 :: 62 :: 63 :: 64 :: 65 :: 66 :: 67 :: 68 :: 69 :: 70 :: 71 :: 72 :: []) (fun j => [(54, .int .i64 j), (9, .int .i64 (S + ((fs.take j).map (costF (ofL o))).sum))]) (fun j => H) (fun j => j ≤ fs.length) (fun j => fs.length - j) 0 rfl (Nat.zero_le _) ⟨rfl, congrArg (AV.int .i64) (by simp), trivial⟩ (HLe.refl _) ?_
        intro j hj
        refine AWp.of tt_ok (dok _) rfl ?_
        dsimp only at hj ⊢
        by_cases hjlt : j < fs.length
        · obtain ⟨x, hx⟩ : ∃ x, fs[j]? = some x := ⟨_, List.getElem?_eq_getElem hjlt⟩
          have hvx := hF x (List.mem_of_getElem? hx)
          have hcb := costF_bd hb hvx
          obtain ⟨v1, v4, v5⟩ := hvx
          have hsb := sum_bd (l := (fs.take j).map (costF (ofL o))) (b := 140741783257088) (fun z hz => by
            obtain ⟨y, hy, rfl⟩ := List.mem_map.1 hz
            exact costF_bd hb (hF y (List.mem_of_mem_take hy)))
          have hlt : (((fs.take j).map (costF (ofL o))).length : Int) ≤ 8192 := by rw [List.length_map, List.length_take]; omega
          have htk : ((fs.take (j + 1)).map (costF (ofL o))).sum = ((fs.take j).map (costF (ofL o))).sum + costF (ofL o) x := by rw [take_snoc hx]; simp
          generalize ((fs.take j).map (costF (ofL o))).sum = s at *
          have ga : (iS .i64 o)[x.a.toNat]? = some (.int .i64 (ofL o x.a.toNat)) := iS_get (by omega)
          have hca := hb _ (getD_mem (i := x.a.toNat) (l := o) (by omega))
          have hab := fun H => babs_c (ofL o x.a.toNat - x.v) (by unfold ofL; omega) H
          have hzb := absI_bd (z := ofL o x.a.toNat - x.v) (b := 2147549183) (by unfold ofL; omega)
          have hme : costF (ofL o) x = x.w * absI (ofL o x.a.toNat - x.v) := rfl
          rw [hme] at hcb htk
          have hca : -1073741824 ≤ ofL o x.a.toNat ∧ ofL o x.a.toNat ≤ 1073741824 := hca
          generalize ofL o x.a.toNat = oa at *
          generalize absI (oa - x.v) = z at *
          (iterate 3 ((repeat' ((conv => whnf); first | refine OpsA.cons ?_ | refine OpsA.nil ?_ | refine AWq.seq ?_ | refine AWq.region ?_ | refine AWq.cond ?_ | refine AWq.block ?_ | refine AWq.skip ?_ | refine AWq.ret ?_ | refine AWq.exit ?_ | refine AWq.loop ?_ | refine DrawA.consD ?_ | refine DrawA.nil ?_ | refine AWq.draw (by decide +kernel) ?_ | (refine Both.mk ?_ ?_ <;> intro hc <;> (first | exact Bool.noConfusion hc | exact absurd (by with_reducible rfl) hc | exact absurd (by assumption) hc | (exfalso; omega) | skip)) | (intro c hc; (try (simp only [AH.none_iff] at hc; repeat (have hn := hc.1; replace hc := hc.2))); (first | (refine i64_k hc ?_ ?_ ?_ ; omega; omega; (clear hc; intro hc; subst hc)) | skip)) | (apply Exists.intro; apply And.intro; (first | (focus (repeat (first | (with_reducible assumption) | (with_reducible exact AH.set_same _ _ _))); done))) | (apply Exists.intro; apply And.intro; first | (with_reducible assumption) | ((try simp only [List.getElem?_drop, Nat.mul_one, Nat.add_zero, Nat.zero_add]); first | (with_reducible assumption) | rfl)) | (apply And.intro; (first | rfl | (with_reducible assumption) | exact Nat.le_of_ble_eq_true rfl | omega | (simp <;> omega) | (focus (repeat' (first | (with_reducible assumption) | rfl | apply one_take | apply one_drop)); done))))) <;> (try (conv => whnf)); refine Then.mk ?_))
          refine AWq.in ?_
          refine AWp_segP 13 (fxA x) rfl rfl (by (first | assumption | (simp only [AH.none_iff]; (repeat' (first | assumption | (refine And.intro ?_ ?_)))))) (fxL_seg hx) rfl ?_
          refine AWp.of tt_ok (dok _) rfl ?_
          (repeat' ((conv => whnf); first | refine Then.mk ?_ | refine OpsA.cons ?_ | refine OpsA.nil ?_ | refine AWq.seq ?_ | refine AWq.region ?_ | refine AWq.cond ?_ | refine AWq.block ?_ | refine AWq.skip ?_ | refine AWq.ret ?_ | refine AWq.exit ?_ | refine AWq.loop ?_ | refine DrawA.consD ?_ | refine DrawA.nil ?_ | refine AWq.draw (by decide +kernel) ?_ | (apply Exists.intro; apply And.intro; exact hab _) | (refine Both.mk ?_ ?_ <;> intro hc <;> (first | exact Bool.noConfusion hc | exact absurd (by with_reducible rfl) hc | exact absurd (by assumption) hc | (exfalso; omega) | skip)) | (intro c hc; (try (simp only [AH.none_iff] at hc; repeat (have hn := hc.1; replace hc := hc.2))); (first | (refine i64_k hc ?_ ?_ ?_ ; omega; omega; (clear hc; intro hc; subst hc)) | skip)) | (apply Exists.intro; apply And.intro; (first | (focus (repeat (first | (with_reducible assumption) | (with_reducible exact AH.set_same _ _ _))); done))) | (apply Exists.intro; apply And.intro; first | (with_reducible assumption) | ((try simp only [List.getElem?_drop, Nat.mul_one, Nat.add_zero, Nat.zero_add]); first | (with_reducible assumption) | rfl)) | (apply And.intro; (first | rfl | (with_reducible assumption) | exact Nat.le_of_ble_eq_true rfl | omega | (simp <;> omega) | (focus (repeat' (first | (with_reducible assumption) | rfl | apply one_take | apply one_drop)); done))))) <;> (try (conv => whnf))
          exact ⟨j + 1, hjlt, by omega, ⟨congrArg (AV.int .i64) (by omega), congrArg (AV.int .i64) (by rw [htk]; omega), trivial⟩, HLe.refl _⟩
        · have hte2 : (fs.take j).map (costF (ofL o)) = fs.map (costF (ofL o)) := by rw [List.take_of_length_le (by omega)]
          rw [hte2]
          (repeat' ((conv => whnf); first | refine Then.mk ?_ | refine OpsA.cons ?_ | refine OpsA.nil ?_ | refine AWq.seq ?_ | refine AWq.region ?_ | refine AWq.cond ?_ | refine AWq.block ?_ | refine AWq.skip ?_ | refine AWq.ret ?_ | refine AWq.exit ?_ | refine AWq.loop ?_ | refine DrawA.consD ?_ | refine DrawA.nil ?_ | refine AWq.draw (by decide +kernel) ?_ | (refine Both.mk ?_ ?_ <;> intro hc <;> (first | exact Bool.noConfusion hc | exact absurd (by with_reducible rfl) hc | exact absurd (by assumption) hc | (exfalso; omega) | skip)) | (intro c hc; (try (simp only [AH.none_iff] at hc; repeat (have hn := hc.1; replace hc := hc.2))); (first | (refine i64_k hc ?_ ?_ ?_ ; omega; omega; (clear hc; intro hc; subst hc)) | skip)) | (apply Exists.intro; apply And.intro; (first | (focus (repeat (first | (with_reducible assumption) | (with_reducible exact AH.set_same _ _ _))); done))) | (apply Exists.intro; apply And.intro; first | (with_reducible assumption) | ((try simp only [List.getElem?_drop, Nat.mul_one, Nat.add_zero, Nat.zero_add]); first | (with_reducible assumption) | rfl)) | (apply And.intro; (first | rfl | (with_reducible assumption) | exact Nat.le_of_ble_eq_true rfl | omega | (simp <;> omega) | (focus (repeat' (first | (with_reducible assumption) | rfl | apply one_take | apply one_drop)); done))))) <;> (try (conv => whnf))
          exact HLe.refl _
    · rw [if_neg hb]
      have hex : (o.all fun x => decide (-1073741824 ≤ x ∧ x ≤ 1073741824)) = false := by
        cases hx : o.all fun x => decide (-1073741824 ≤ x ∧ x ≤ 1073741824) with
        | false => rfl
        | true => exact absurd (fun x hm => of_decide_eq_true (List.all_eq_true.1 hx x hm)) hb
      rw [hex] at hw
      refine ACall_of tt_ok (dok _) Try.func26 rfl (by decide) rfl ?_
      (repeat' ((conv => whnf); first | refine Then.mk ?_ | refine OpsA.cons ?_ | refine OpsA.nil ?_ | refine AWq.seq ?_ | refine AWq.region ?_ | refine AWq.cond ?_ | refine AWq.block ?_ | refine AWq.skip ?_ | refine AWq.ret ?_ | refine AWq.exit ?_ | refine AWq.loop ?_ | refine DrawA.consD ?_ | refine DrawA.nil ?_ | refine AWq.draw (by decide +kernel) ?_ | (refine Both.mk ?_ ?_ <;> intro hc <;> (first | exact Bool.noConfusion hc | exact absurd (by with_reducible rfl) hc | exact absurd (by assumption) hc | (exfalso; omega) | skip)) | (intro c hc; (try (simp only [AH.none_iff] at hc; repeat (have hn := hc.1; replace hc := hc.2))); (first | (refine i64_k hc ?_ ?_ ?_ ; omega; omega; (clear hc; intro hc; subst hc)) | skip)) | (apply Exists.intro; apply And.intro; (first | (focus (repeat (first | (with_reducible assumption) | (with_reducible exact AH.set_same _ _ _))); done))) | (apply Exists.intro; apply And.intro; first | (with_reducible assumption) | ((try simp only [List.getElem?_drop, Nat.mul_one, Nat.add_zero, Nat.zero_add]); first | (with_reducible assumption) | rfl)) | (apply And.intro; (first | rfl | (with_reducible assumption) | exact Nat.le_of_ble_eq_true rfl | omega | (simp <;> omega) | (focus (repeat' (first | (with_reducible assumption) | rfl | apply one_take | apply one_drop)); done))) | (refine ACall.to (hv _) ?_) | (refine ACall.to (hw _) ?_))) <;> (try (conv => whnf))
  · rw [if_pos (by simpa using h0)]
    generalize validV o.length es fs = e at *
    refine ACall_of tt_ok (dok _) Try.func26 rfl (by decide) rfl ?_
    (repeat' ((conv => whnf); first | refine Then.mk ?_ | refine OpsA.cons ?_ | refine OpsA.nil ?_ | refine AWq.seq ?_ | refine AWq.region ?_ | refine AWq.cond ?_ | refine AWq.block ?_ | refine AWq.skip ?_ | refine AWq.ret ?_ | refine AWq.exit ?_ | refine AWq.loop ?_ | refine DrawA.consD ?_ | refine DrawA.nil ?_ | refine AWq.draw (by decide +kernel) ?_ | (refine Both.mk ?_ ?_ <;> intro hc <;> (first | exact Bool.noConfusion hc | exact absurd (by with_reducible rfl) hc | exact absurd (by assumption) hc | (exfalso; omega) | skip)) | (intro c hc; (try (simp only [AH.none_iff] at hc; repeat (have hn := hc.1; replace hc := hc.2))); (first | (refine i64_k hc ?_ ?_ ?_ ; omega; omega; (clear hc; intro hc; subst hc)) | skip)) | (apply Exists.intro; apply And.intro; (first | (focus (repeat (first | (with_reducible assumption) | (with_reducible exact AH.set_same _ _ _))); done))) | (apply Exists.intro; apply And.intro; first | (with_reducible assumption) | ((try simp only [List.getElem?_drop, Nat.mul_one, Nat.add_zero, Nat.zero_add]); first | (with_reducible assumption) | rfl)) | (apply And.intro; (first | rfl | (with_reducible assumption) | exact Nat.le_of_ble_eq_true rfl | omega | (simp <;> omega) | (focus (repeat' (first | (with_reducible assumption) | rfl | apply one_take | apply one_drop)); done))) | (refine ACall.to (hv _) ?_) | (refine ACall.to (hw _) ?_))) <;> (try (conv => whnf))
end Go.Proofs.Ytebflkgpbbjhnaa
/- The frame of the abstract walk, part 33: a call that is told of constants alone may be made with rows that are written later; it leaves them as they were. -/
set_option linter.unusedVariables false
set_option linter.unusedSimpArgs false
namespace Go.Fw
open Go.RowKit

variable {κ : KM} {F : FM} {B : Nat} {w0 w : World} {H : AH} {P : Program} {T : TT}

theorem heap_lt {w : World} {b : Nat} {o : Obj} (h : w.heap[b]? = some o) : b < w.heap.size := (Array.getElem?_eq_some_iff.1 h).1
/-- What is new in memory does not touch what is known. -/
theorem Inv.stay (I : Inv κ F B w0 H w) {w' : World} (h : Below w.heap.size w w') : Inv κ F B w0 H w' := by
  have hb : ∀ {b : Nat} {o : Obj}, w.heap[b]? = some o → w'.heap[b]? = some o := fun {b o} hk => by rw [h.block b (heap_lt hk)]; exact hk
  refine ⟨I.below.trans (h.mono I.base), Nat.le_trans I.base h.size, fun b arr hF => ?_, I.names, fun r o hr => ?_, I.apart⟩
  · obtain ⟨e, fr, hh⟩ := I.fz b arr hF
    exact ⟨e, fr, hb hh⟩
  · have ho := I.objs r o hr
    cases o with
    | row cells v =>
      obtain ⟨i, hi, hrow, hn⟩ := ho
      refine ⟨i, hi, ?_, hn⟩
      cases hblk : i.blk with
      | none => simp only [RowOk, hblk] at hrow ⊢; exact hrow
      | some b =>
        simp only [RowOk, hblk] at hrow ⊢
        obtain ⟨hB, hFb, arr, e, fr, hh, hl, hsz, hlen, hc⟩ := hrow
        exact ⟨hB, hFb, arr, e, fr, hb hh, hl, hsz, hlen, hc⟩
    | map es =>
      obtain ⟨b, i, ents, clock, h1, h2, h3, h4, h5, h6⟩ := ho
      exact ⟨b, i, ents, clock, h1, h2, h3, h4, hb h5, h6⟩
    | obj b o =>
      obtain ⟨i, h1, h2, h3, h4, h5, h6⟩ := ho
      exact ⟨i, h1, h2, h3, h4, hb h5, h6⟩
    | loop b N e L =>
      obtain ⟨i, tmps, h1, h2, h3, h4, h5, h6⟩ := ho
      exact ⟨i, tmps, h1, h2, h3, h4, hb h5, h6⟩

/-- Values without names of rows. -/
inductive Flat : AV → Prop where
  | junk : Flat .junk
  | int (k : IntKind) (n : Int) : Flat (.int k n)
  | bool (b : Bool) : Flat (.bool b)
  | str (s : List UInt8) : Flat (.str s)
  | nilp : Flat .nilp
  | nils : Flat .nils
  | cs (l : List AV) (n : Nat) (h : ∀ x, x ∈ l → Flat x) : Flat (.cs l n)
  | cp (l : List AV) (h : ∀ x, x ∈ l → Flat x) : Flat (.cp l)
  | agg (l : List AV) (h : ∀ x, x ∈ l → Flat x) : Flat (.agg l)
  | tup (l : List AV) (h : ∀ x, x ∈ l → Flat x) : Flat (.tup l)
theorem Flat.vr {κ' : KM} {F' : FM} (hF : FLe F F') {a : AV} {v : Value} (hf : Flat a) (h : VR κ F a v) : VR κ' F' a v := by
  induction h with
  | junk v => exact .junk v
  | int k n => exact .int k n
  | bool b => exact .bool b
  | str s => exact .str s
  | nilp => exact .nilp
  | ptr h => cases hf
  | cp hFb hle _ ih => cases hf with | cp _ hf => exact .cp (hF _ _ hFb) hle fun i hi => ih i hi (hf _ (List.getElem_mem hi))
  | nils a => exact .nils a
  | cs0 a c => exact .cs0 a c
  | cs hFb hle hc _ ih => cases hf with | cs _ _ hf => exact .cs (hF _ _ hFb) hle hc fun i hi => ih i hi (hf _ (List.getElem_mem hi))
  | sl h hoff hlo hc hlen ha => cases hf
  | mapNil => exact .mapNil
  | map h => cases hf
  | fn hA hC _ _ ih1 ih2 => cases hf
  | nilf => exact .nilf
  | agg hA _ ih => cases hf with | agg _ hf => exact .agg hA fun i hi => ih i hi (hf _ (List.getElem_mem hi))
  | tup hA _ ih => cases hf with | tup _ hf => exact .tup hA fun i hi => ih i hi (hf _ (List.getElem_mem hi))
/-- Values without constants in memory. -/
inductive NoF : AV → Prop where
  | junk : NoF .junk
  | int (k : IntKind) (n : Int) : NoF (.int k n)
  | bool (b : Bool) : NoF (.bool b)
  | str (s : List UInt8) : NoF (.str s)
  | nilp : NoF .nilp
  | nils : NoF .nils
  | agg (l : List AV) (h : ∀ x, x ∈ l → NoF x) : NoF (.agg l)
  | tup (l : List AV) (h : ∀ x, x ∈ l → NoF x) : NoF (.tup l)
theorem NoF.vr {κ' : KM} {F' : FM} {a : AV} {v : Value} (hf : NoF a) (h : VR κ F a v) : VR κ' F' a v := by
  induction h with
  | junk v => exact .junk v
  | int k n => exact .int k n
  | bool b => exact .bool b
  | str s => exact .str s
  | nilp => exact .nilp
  | ptr h => cases hf
  | cp hFb hle _ ih => cases hf
  | nils a => exact .nils a
  | cs0 a c => exact .cs0 a c
  | cs hFb hle hc _ ih => cases hf
  | sl h hoff hlo hc hlen ha => cases hf
  | mapNil => exact .mapNil
  | map h => cases hf
  | fn hA hC _ _ ih1 ih2 => cases hf
  | nilf => exact .nilf
  | agg hA _ ih => cases hf with | agg _ hf => exact .agg hA fun i hi => ih i hi (hf _ (List.getElem_mem hi))
  | tup hA _ ih => cases hf with | tup _ hf => exact .tup hA fun i hi => ih i hi (hf _ (List.getElem_mem hi))
/-- An argument, told as a constant. -/
inductive Frz (H : AH) : AV → AV → Prop where
  | flat (a : AV) (h : Flat a) : Frz H a a
  | sl {r v es n : Nat} {lim : Option Nat} {cells : List AV} (hr : H r = some (.row cells v)) (hl : cells.length = n * es) (h : ∀ x, x ∈ cells → Flat x) : Frz H (.sl r v es 0 n lim) (.cs cells n)
inductive Frzs (H : AH) : List AV → List AV → Prop where
  | nil : Frzs H [] []
  | cons {a b : AV} {l m : List AV} (h : Frz H a b) (k : Frzs H l m) : Frzs H (a :: l) (b :: m)
theorem Frz.vr (I : Inv κ F B w0 H w) {a b : AV} (h : Frz H a b) {x : Value} (hv : VR κ F a x) : VR (fun _ _ => none) (startF w) b x := by
  have hF : FLe F (startF w) := fun c arr hc => by
    obtain ⟨e, fr, hh⟩ := I.fz c arr hc
    unfold startF
    rw [hh]
  cases h with
  | flat _ hf => exact hf.vr hF hv
  | sl hr hl hf =>
    rename_i r v es n lim cells
    obtain ⟨i, adr, c, rfl, hi, hie, hlc, hrow, hnx, hadr, lo, hlo0, hlo, hlim⟩ := VR.slOf I hv hr
    rcases hadr with hc | ⟨b', hb', rfl⟩
    · have hn : n = 0 := by omega
      subst hn
      have : cells = [] := List.eq_nil_of_length_eq_zero (by simpa using hl)
      rw [this]; exact .cs0 _ _
    · obtain ⟨i2, hi2, hrow2, _⟩ := I.objs _ _ hr
      have hi2 : κ r v = some i2 := hi2
      rw [hi] at hi2; cases hi2
      simp only [RowOk, hb'] at hrow2
      obtain ⟨hB, hFb, arr, e, fr, hh, hlo2, hsz, hlen, hcell⟩ := hrow2
      refine .cs (arr := arr) (by unfold startF; rw [hh]) (by omega) hlc fun j hj => ?_
      have := hcell j hj
      rw [Nat.zero_add]
      exact (hf _ (List.getElem_mem hj)).vr hF this
theorem Frzs.vrs (I : Inv κ F B w0 H w) : ∀ {l m : List AV}, Frzs H l m → m.length = l.length ∧ ∀ i (hi : i < l.length) (hj : i < m.length), Frz H l[i] m[i]
  | _, _, .nil => ⟨rfl, fun i hi => by simp at hi⟩
  | _, _, .cons h k => by
    obtain ⟨k1, k2⟩ := Frzs.vrs I k
    refine ⟨by simp [k1], fun i hi hj => ?_⟩
    cases i with
    | zero => exact h
    | succ i => exact k2 i (by simpa using hi) (by simpa using hj)
theorem Frzs.cargs (I : Inv κ F B w0 H w) {args args' : List AV} {cargs : Array Value} (ha : Frzs H args args') (hA : VRs κ F args cargs) : VRs (fun _ _ => none) (startF w) args' cargs := by
  obtain ⟨k1, k2⟩ := ha.vrs I
  exact ⟨by rw [hA.1, k1], fun i hi => (k2 i (by rw [← k1]; exact hi) hi).vr I (hA.2 i (by rw [← k1]; exact hi))⟩
/-- The call leaves all that is known as it was. -/
theorem ACall.apart {g : FuncId} {args args' : List AV} {K0 : AV → Prop} (ha : Frzs H args args') (h : ACall P g args' (fun _ => none) fun y _ => ∃ y0, NoF y0 ∧ AVle y y0 ∧ K0 y0) : ACall P g args H fun y H' => K0 y ∧ H' = H := by
  refine ⟨h.ent, fun κ F B w0 w cargs I hA => ?_⟩
  refine (h.run _ _ _ w w cargs (start_inv w) (ha.cargs I hA)).mono ?_
  rintro e w' ⟨v, rfl, y, H', κ', F', hk, hf, I', hv, y0, hy, hle, hK⟩
  exact ⟨v, rfl, y0, H, κ, F, KLe.refl _, FLe.refl _, I.stay I'.below, hy.vr (hle _ _ _ hv), hK, rfl⟩
/-- The same, for a known value. -/
theorem ACall.apart1 {g : FuncId} {args args' : List AV} {y0 : AV} (hy : NoF y0) (ha : Frzs H args args') (h : ∀ H, ACall P g args' H fun y H' => y = y0 ∧ H' = H) : ACall P g args H fun y H' => y = y0 ∧ H' = H :=
  ACall.apart (K0 := fun y => y = y0) ha ((h _).mono fun y H' e => ⟨y0, hy, e.1 ▸ AVle.refl _, rfl⟩)

theorem flat_iS (k : IntKind) (l : List Int) : ∀ x, x ∈ iS k l → Flat x := fun x hx => by
  obtain ⟨n, _, rfl⟩ := List.mem_map.1 hx
  exact .int _ _
end Go.Fw
/- The walks of balance: Solve. -/
namespace Go.Proofs.Ytebflkgpbbjhnaa
open Go.Fw Go
set_option linter.unusedVariables false
set_option linter.unusedSimpArgs false

/-- The greatest offsets that are at most 0. -/
def MaxP (n : Nat) (A : List Ac) (d : Nat → Int) : Prop := ∀ q, Feas A q → (∀ v, v ≤ n → q v ≤ 0) → ∀ v, v ≤ n → q v ≤ d v
/-- What Solve has at its end. -/
structure Sv (n : Nat) (es : List Ed) (fs : List Fx) (A : List Ac) (d o : Nat → Int) : Prop where
  alk : Alk (net0 n es fs) A
  ok : ∀ x ∈ A, AcOk n x
  net : ∀ v, v ≤ n → netN A v = 0
  fe : Feas A d
  lo : ∀ v, v ≤ n → -(65536 * ((n : Int) + 1)) ≤ d v
  up : ∀ v, v ≤ n → d v ≤ 0
  max : MaxP n A d
  bi : BI n A o
  eq : ∀ x ∈ A, o x.a = o x.b
def offS (n : Nat) (d o : Nat → Int) (i : Nat) : Int := d i - d (bsN n o i).toNat
def flE (es : List Ed) (A : List Ac) : List Int := (A.take es.length).map (·.f)
def flF (es : List Ed) (A : List Ac) : List Int := (A.drop es.length).map (·.f)
def solV (n : Nat) (es : List Ed) (fs : List Fx) (A : List Ac) (d o : Nat → Int) : AV :=
  .tup [.agg [.cs (iS .i64 (fnL n (offS n d o))) n, .cs (iS .i64 (flE es A)) es.length, .cs (iS .i64 (flF es A)) fs.length, .int .i64 (costR es fs (fnL n (offS n d o))).1], .int .i64 0]
theorem max_rlx {n : Nat} {A : List Ac} (hA : ∀ x ∈ A, AcOk n x) {σ : Ds} (h : MaxP n A σ.d) {i : Nat} {x : Ac} {up : Bool} (hi : A[i]? = some x) (hr : Rlx σ x up) : MaxP n A (rlx σ i x up).d := by
  intro q hq h0 v hv
  show q v ≤ if v = hd x up then σ.d (tl x up) + cs x up else σ.d v
  split
  · rename_i e
    have hx := List.mem_of_getElem? hi
    have h1 := feas_iff.1 hq x hx up hr.1
    have h2 := h q hq h0 _ (tl_le (hA x hx) up)
    rw [e]; omega
  · exact h q hq h0 v hv
theorem net0_ok {n : Nat} {es : List Ed} {fs : List Fx} (hE : ∀ x ∈ es, vE n x) (hF : ∀ x ∈ fs, vF n x) : J n (net0 n es fs) := by
  refine start_J fun x hx => ?_
  rcases List.mem_append.1 hx with h | h
  · obtain ⟨y, hy, rfl⟩ := List.mem_map.1 h
    obtain ⟨v1, v2, v3, v4, v5⟩ := hE y hy
    exact ⟨by show y.a.toNat ≤ n; omega, by show y.b.toNat ≤ n; omega, v4.1, v4.2, v5.1, v5.2, rfl⟩
  · obtain ⟨y, hy, rfl⟩ := List.mem_map.1 h
    obtain ⟨v1, v4, v5⟩ := hF y hy
    exact ⟨by show y.a.toNat ≤ n; omega, Nat.le_refl _, v4.1, v4.2, v5.1, v5.2, rfl⟩
theorem feas_end {n : Nat} {A : List Ac} {p : Nat → Int} {mu : Int} {σ : Ds} (hA : ∀ x ∈ A, AcOk n x) (h : DI A n p (fun _ => 0) mu σ) (hs : Stab A σ) : Feas A σ.d := by
  refine feas_iff.2 fun x hx up hr => stab_reach hs hx hr ?_
  have := h.dec _ (tl_le (hA x hx) up)
  have hfar : far = 1125899906842624 := rfl
  have : σ.d (tl x up) ≤ 0 := this
  omega
theorem dist0_c (n : Nat) (hnn : n ≤ 100) (A : List Ac) (hJ : J n A) (hl : A.length ≤ 100000) (H : AH) (g vg ra va : Nat) (lim : Option Nat) (hN : NetAt H n A g vg ra va lim) (rd : Nat) (hd : H rd = some (.row (dL (n + 1) fun _ => 0) 0)) (hdg : rd ≠ g) (hda : rd ≠ ra) :
    ACall Try.prog 41 [.ptr g vg 0, .sl rd 0 1 0 (n + 1) none] H (fun y H' => ∃ σ rs, (Feas A σ.d ∧ MaxP n A σ.d ∧ (∀ v, v ≤ n → -(65536 * ((n : Int) + 1)) ≤ σ.d v ∧ σ.d v ≤ 0)) ∧ H rs = none ∧ y = .sl rs 0 2 0 (n + 1) none ∧ H' = dsH H n rd 0 rs σ) := by
  obtain ⟨hA, p, hp, hpb⟩ := hJ
  have hfar : far = 1125899906842624 := rfl
  refine (distances_c n hnn A hA hl (fun σ => DI A n p (fun _ => 0) (-(65536 * ((n : Int) + 1))) σ ∧ MaxP n A σ.d) (fun σ => wgt p (-(65536 * ((n : Int) + 1))) σ.d n)
    (fun σ i x up hq hx hR => ⟨⟨hq.1.rlx hA hp hnn hx hR, max_rlx hA hq.2 hx hR⟩, hq.1.less hA hp hx hR⟩)
    (fun σ hq v hv => by
      have h1 := hq.1.low v hv
      have h2 := hq.1.dec v hv
      have h3 := hpb v hv
      have h2 : σ.d v ≤ 0 := h2
      omega)
    (fun _ => 0) ⟨⟨fun v hv => by
      have := hpb v hv
      show _ ≤ (0 : Int) - p v
      omega, fun v hv => Int.le_refl _, fun v hv hl => by
      show (0 : Int) ≤ _
      omega, fun v hv => .inl rfl⟩, fun q _ h0 v hv => h0 v hv⟩ H g vg ra va lim none hN rd 0 hd hdg hda).mono ?_
  rintro y H' ⟨σ, rs, ⟨hDI, hmx⟩, hst, hrs, rfl, rfl⟩
  refine ⟨σ, rs, ⟨feas_end hA hDI hst, hmx, fun v hv => ⟨?_, hDI.dec v hv⟩⟩, hrs, rfl, rfl⟩
  have h1 := hDI.low v hv
  have h3 := hpb v hv
  omega
structure AnD (r1 r2 r3 c : Nat) : Prop where
  b : r1 ≠ r2
  a : r1 ≠ r3
  x : r2 ≠ r3
  c1 : r1 ≠ c
  c2 : r2 ≠ c
  c3 : r3 ≠ c
/-- An answer under way. -/
def anH (F : AH) (r1 r2 r3 c : Nat) (l1 l2 l3 : List Int) : AH :=
  (((F.set r1 (.row (iS .i64 l1) l1.length)).set r2 (.row (iS .i64 l2) l2.length)).set r3 (.row (iS .i64 l3) l3.length)).set c (.row [.sl r1 l1.length 1 0 l1.length none, .sl r2 l2.length 1 0 l2.length none, .sl r3 l3.length 1 0 l3.length none, .int .i64 0] 0)
theorem set_in {G : AH} {r s : Nat} {o o' : AO} (h : r ≠ s) : (G.set r o).set s o' = (G.set s o').set r o := AH.set_comm _ _ _ h
theorem anH_1 {F : AH} {r1 r2 r3 c : Nat} (D : AnD r1 r2 r3 c) (l1 l2 l3 : List Int) (x : Int) :
    anH F r1 r2 r3 c (l1 ++ [x]) l2 l3 = ((anH F r1 r2 r3 c l1 l2 l3).set r1 (.row (iS .i64 l1 ++ [.int .i64 x]) (l1.length + 1))).set c (.row [.sl r1 (l1.length + 1) 1 0 (l1.length + 1) none, .sl r2 l2.length 1 0 l2.length none, .sl r3 l3.length 1 0 l3.length none, .int .i64 0] 0) := by
  obtain ⟨b, a, x, c1, c2, c3⟩ := D
  unfold anH
  rw [set_in (Ne.symm c1), AH.set_set, set_in (Ne.symm a), set_in (Ne.symm b), AH.set_set, iS_snoc]
  simp only [List.length_append, List.length_cons, List.length_nil, Nat.zero_add]
theorem anH_2 {F : AH} {r1 r2 r3 c : Nat} (D : AnD r1 r2 r3 c) (l1 l2 l3 : List Int) (x : Int) :
    anH F r1 r2 r3 c l1 (l2 ++ [x]) l3 = ((anH F r1 r2 r3 c l1 l2 l3).set r2 (.row (iS .i64 l2 ++ [.int .i64 x]) (l2.length + 1))).set c (.row [.sl r1 l1.length 1 0 l1.length none, .sl r2 (l2.length + 1) 1 0 (l2.length + 1) none, .sl r3 l3.length 1 0 l3.length none, .int .i64 0] 0) := by
  obtain ⟨b, a, x, c1, c2, c3⟩ := D
  unfold anH
  rw [set_in (Ne.symm c2), AH.set_set, set_in (Ne.symm x), AH.set_set, iS_snoc]
  simp only [List.length_append, List.length_cons, List.length_nil, Nat.zero_add]
theorem anH_3 {F : AH} {r1 r2 r3 c : Nat} (D : AnD r1 r2 r3 c) (l1 l2 l3 : List Int) (x : Int) :
    anH F r1 r2 r3 c l1 l2 (l3 ++ [x]) = ((anH F r1 r2 r3 c l1 l2 l3).set r3 (.row (iS .i64 l3 ++ [.int .i64 x]) (l3.length + 1))).set c (.row [.sl r1 l1.length 1 0 l1.length none, .sl r2 l2.length 1 0 l2.length none, .sl r3 (l3.length + 1) 1 0 (l3.length + 1) none, .int .i64 0] 0) := by
  obtain ⟨b, a, x, c1, c2, c3⟩ := D
  unfold anH
  rw [set_in (Ne.symm c3), AH.set_set, AH.set_set, iS_snoc]
  simp only [List.length_append, List.length_cons, List.length_nil, Nat.zero_add]
theorem anH_0 {F : AH} {r1 r2 r3 c : Nat} {o : AO} (D : AnD r1 r2 r3 c) :
    anH F r1 r2 r3 c [] [] [] = (((((((F.set c o).set r1 (.row [] 0)).set c (.row ([] ++ .sl r1 0 1 0 0 none :: [.nils, .nils, .int .i64 0]) 0)).set r2 (.row [] 0)).set c (.row ([.sl r1 0 1 0 0 none] ++ .sl r2 0 1 0 0 none :: [.nils, .int .i64 0]) 0)).set r3 (.row [] 0)).set c (.row ([.sl r1 0 1 0 0 none, .sl r2 0 1 0 0 none] ++ .sl r3 0 1 0 0 none :: [.int .i64 0]) 0)) := by
  obtain ⟨b, a, x, c1, c2, c3⟩ := D
  unfold anH
  rw [set_in (Ne.symm c1), AH.set_set, set_in (Ne.symm c2), AH.set_set, set_in (Ne.symm c3), AH.set_set]
  rfl
set_option maxHeartbeats 4000000 in
theorem flat_ed (l : List Ed) : ∀ x, x ∈ edL l → Flat x := fun x hx => by
  obtain ⟨e, _, he⟩ := List.mem_flatMap.1 hx
  simp only [edA, List.mem_cons, List.not_mem_nil, or_false] at he
  rcases he with rfl | rfl | rfl | rfl <;> exact .int _ _
theorem flat_fx (l : List Fx) : ∀ x, x ∈ fxL l → Flat x := fun x hx => by
  obtain ⟨e, _, he⟩ := List.mem_flatMap.1 hx
  simp only [fxA, List.mem_cons, List.not_mem_nil, or_false] at he
  rcases he with rfl | rfl | rfl <;> exact .int _ _
set_option maxHeartbeats 4000000 in
set_option maxRecDepth 8000 in
theorem solve_s (n : Nat) (es : List Ed) (fs : List Fx) (hv : validV n es fs = 0) (H : AH) :
    ACall Try.prog 14 [.int .i64 n, .cs (edL es) es.length, .cs (fxL fs) fs.length] H (fun y H' => ∃ A d o r1 r2 r3 v1 v2 v3, Sv n es fs A d o ∧ H r1 = none ∧ H r2 = none ∧ H r3 = none ∧ r1 ≠ r2 ∧ r1 ≠ r3 ∧ r2 ≠ r3 ∧
      y = .tup [.agg [.sl r1 v1 1 0 n none, .sl r2 v2 1 0 es.length none, .sl r3 v3 1 0 fs.length none, .int .i64 (costR es fs (fnL n (offS n d o))).1], .int .i64 0] ∧
      H' = ((H.set r1 (.row (iS .i64 (fnL n (offS n d o))) v1)).set r2 (.row (iS .i64 (flE es A)) v2)).set r3 (.row (iS .i64 (flF es A)) v3)) := by
  obtain ⟨⟨_, hn64⟩, ⟨he, hf⟩, hE, hF⟩ := validV_ok hv
  have hv1 := fun H => valid_c n es fs (by omega) (by omega) H
  rw [hv] at hv1
  refine ACall.told ?_
  have hJ0 := net0_ok hE hF
  have hlen0 : (net0 n es fs).length = es.length + fs.length := by unfold net0; simp
  refine ACall_of tt_ok (dok _) Try.func14 rfl (by decide) rfl ?_
  (repeat' ((conv => whnf); first | left | refine OpsA.cons ?_ | refine OpsA.nil ?_ | refine AWq.seq ?_ | refine AWq.region ?_ | refine AWq.cond ?_ | refine AWq.block ?_ | refine AWq.skip ?_ | refine AWq.ret ?_ | refine AWq.exit ?_ | refine AWq.loop ?_ | refine DrawA.consD ?_ | refine DrawA.nil ?_ | refine AWq.draw (by decide +kernel) ?_ | (refine Both.mk ?_ ?_ <;> intro hc <;> (first | exact Bool.noConfusion hc | exact absurd (by with_reducible rfl) hc | (exfalso; omega) | skip)) | (intro c hc; (try (simp only [AH.none_iff] at hc; repeat (have hn := hc.1; replace hc := hc.2))); (first | (refine i64_k hc ?_ ?_ ?_ ; omega; omega; (clear hc; intro hc; subst hc)) | skip)) | (apply Exists.intro; apply And.intro; (first | (focus (repeat (first | (with_reducible assumption) | (with_reducible exact AH.set_same _ _ _) | ((first | refine AH.get_ne ?_ ?_); (first | (with_reducible assumption) | exact Ne.symm (by with_reducible assumption))))); done))) | (apply Exists.intro; apply And.intro; first | (with_reducible assumption) | ((try simp only [List.getElem?_drop, Nat.mul_one, Nat.add_zero, Nat.zero_add]); first | (with_reducible assumption) | rfl)) | (apply And.intro; (first | rfl | (with_reducible assumption) | exact Nat.le_of_ble_eq_true rfl | omega | (simp <;> omega) | (focus (repeat' (first | (with_reducible assumption) | rfl | apply one_take | apply one_drop)); done))))) <;> (try (conv => whnf))
  (obtain ⟨c6, hq_⟩ : ∃ c6, c6 = c := ⟨_, rfl⟩); subst hq_
  have hc6 : H c6 = none := hc
  refine Then.mk ?_
  (repeat' ((conv => whnf); first | refine Then.mk ?_ | left | refine OpsA.cons ?_ | refine OpsA.nil ?_ | refine AWq.seq ?_ | refine AWq.region ?_ | refine AWq.cond ?_ | refine AWq.block ?_ | refine AWq.skip ?_ | refine AWq.ret ?_ | refine AWq.exit ?_ | refine AWq.loop ?_ | refine DrawA.consD ?_ | refine DrawA.nil ?_ | refine AWq.draw (by decide +kernel) ?_ | (refine Both.mk ?_ ?_ <;> intro hc <;> (first | exact Bool.noConfusion hc | exact absurd (by with_reducible rfl) hc | (exfalso; omega) | skip)) | (intro c hc; (try (simp only [AH.none_iff] at hc; repeat (have hn := hc.1; replace hc := hc.2))); (first | (refine i64_k hc ?_ ?_ ?_ ; omega; omega; (clear hc; intro hc; subst hc)) | skip)) | (apply Exists.intro; apply And.intro; (first | (focus (repeat (first | (with_reducible assumption) | (with_reducible exact AH.set_same _ _ _) | ((first | refine AH.get_ne ?_ ?_); (first | (with_reducible assumption) | exact Ne.symm (by with_reducible assumption))))); done))) | (apply Exists.intro; apply And.intro; first | (with_reducible assumption) | ((try simp only [List.getElem?_drop, Nat.mul_one, Nat.add_zero, Nat.zero_add]); first | (with_reducible assumption) | rfl)) | (apply And.intro; (first | rfl | (with_reducible assumption) | exact Nat.le_of_ble_eq_true rfl | omega | (simp <;> omega) | (focus (repeat' (first | (with_reducible assumption) | rfl | apply one_take | apply one_drop)); done))) | (refine ACall.to (hv1 _) ?_))) <;> (try (conv => whnf))
  refine (start_c n (by omega) es fs he hf hE hF _).mono ?_
  rintro y H' ⟨g, ra, hg, hra, hgra, rfl, rfl⟩
  obtain ⟨A0, hA0⟩ : ∃ A0, A0 = net0 n es fs := ⟨_, rfl⟩
  rw [← hA0] at hJ0 hlen0 ⊢
  obtain ⟨S, hS⟩ : ∃ S, S = stH (H.set c6 (.row [.nils, .nils, .nils, .int .i64 0] 0)) n g ra A0 := ⟨_, rfl⟩
  have hSra : S ra = some (.row (acL A0) A0.length) := by rw [hS]; unfold stH; rw [AH.set_ne _ _ (Ne.symm hgra), AH.set_same]
  have hSg : S g = some (.row [.int .i64 n, .sl ra A0.length 5 0 A0.length none] 0) := by rw [hS]; unfold stH; rw [AH.set_same]
  (repeat' ((conv => whnf); first | left | refine OpsA.cons ?_ | refine OpsA.nil ?_ | refine AWq.seq ?_ | refine AWq.region ?_ | refine AWq.cond ?_ | refine AWq.block ?_ | refine AWq.skip ?_ | refine AWq.ret ?_ | refine AWq.exit ?_ | refine AWq.loop ?_ | refine DrawA.consD ?_ | refine DrawA.nil ?_ | refine AWq.draw (by decide +kernel) ?_ | (refine Both.mk ?_ ?_ <;> intro hc <;> (first | exact Bool.noConfusion hc | exact absurd (by with_reducible rfl) hc | (exfalso; omega) | skip)) | (intro c hc; (try (simp only [AH.none_iff] at hc; repeat (have hn := hc.1; replace hc := hc.2))); (first | (refine i64_k hc ?_ ?_ ?_ ; omega; omega; (clear hc; intro hc; subst hc)) | skip)) | (apply Exists.intro; apply And.intro; (first | (focus (repeat (first | (with_reducible assumption) | (with_reducible exact AH.set_same _ _ _) | ((first | refine AH.get_ne ?_ ?_); (first | (with_reducible assumption) | exact Ne.symm (by with_reducible assumption))))); done))) | (apply Exists.intro; apply And.intro; first | (with_reducible assumption) | ((try simp only [List.getElem?_drop, Nat.mul_one, Nat.add_zero, Nat.zero_add]); first | (with_reducible assumption) | rfl)) | (apply And.intro; (first | rfl | (with_reducible assumption) | exact Nat.le_of_ble_eq_true rfl | omega | (simp <;> omega) | (focus (repeat' (first | (with_reducible assumption) | rfl | apply one_take | apply one_drop)); done))))) <;> (try (conv => whnf))
  refine Then.mk (AWq.in ?_)
  refine AWp_less S (HLe.of_eq hS) ?_
  refine AWp.of tt_ok (dok _) rfl ?_
  (repeat' ((conv => whnf); first | refine Then.mk ?_ | left | refine OpsA.cons ?_ | refine OpsA.nil ?_ | refine AWq.seq ?_ | refine AWq.region ?_ | refine AWq.cond ?_ | refine AWq.block ?_ | refine AWq.skip ?_ | refine AWq.ret ?_ | refine AWq.exit ?_ | refine AWq.loop ?_ | refine DrawA.consD ?_ | refine DrawA.nil ?_ | refine AWq.draw (by decide +kernel) ?_ | (refine Both.mk ?_ ?_ <;> intro hc <;> (first | exact Bool.noConfusion hc | exact absurd (by with_reducible rfl) hc | (exfalso; omega) | skip)) | (intro c hc; (try (simp only [AH.none_iff] at hc; repeat (have hn := hc.1; replace hc := hc.2))); (first | (refine i64_k hc ?_ ?_ ?_ ; omega; omega; (clear hc; intro hc; subst hc)) | skip)) | (apply Exists.intro; apply And.intro; (first | (focus (repeat (first | (with_reducible assumption) | (with_reducible exact AH.set_same _ _ _) | ((first | refine AH.get_ne ?_ ?_); (first | (with_reducible assumption) | exact Ne.symm (by with_reducible assumption))))); done))) | (apply Exists.intro; apply And.intro; first | (with_reducible assumption) | ((try simp only [List.getElem?_drop, Nat.mul_one, Nat.add_zero, Nat.zero_add]); first | (with_reducible assumption) | rfl)) | (apply And.intro; (first | rfl | (with_reducible assumption) | exact Nat.le_of_ble_eq_true rfl | omega | (simp <;> omega) | (focus (repeat' (first | (with_reducible assumption) | rfl | apply one_take | apply one_drop)); done))))) <;> (try (conv => whnf))
  refine AWp_loop (σ := List Ac) (10 :: 11 :: 30 :: 31 :: 32 :: 33 :: 34 :: 35 :: 36 :: 37 :: 38 :: 39 :: []) (fun A => []) (fun A => S.set ra (.row (acL A) A0.length)) (fun A => J n A ∧ Alk A0 A) (fun A => posN A n) A0 rfl ⟨hJ0, Alk.refl _⟩ trivial (HLe.of_eq (AH.set_id hSra)) ?_
  rintro A ⟨hJ, hal⟩
  refine AWp.of tt_ok (dok _) rfl ?_
  dsimp only
  have hlA := hal.len
  have hNet : NetAt (S.set ra (.row (acL A) A0.length)) n A g 0 ra A0.length none := ⟨by rw [AH.set_ne _ _ hgra, hlA]; exact hSg, AH.set_same _ _ _, hgra⟩
  have hnet := net_c n (by omega) A hJ.ok (by omega) _ g 0 ra A0.length none hNet
  have hix := index0_c (fun x => decide (0 < x)) 39 (fnL (n + 1) (netN A)) (by simp; omega) (S.set ra (.row (acL A) A0.length)) (fun x _ => sol1_c x _)
  rw [fnL_len] at hix
  (repeat' ((conv => whnf); first | refine Then.mk ?_ | left | refine OpsA.cons ?_ | refine OpsA.nil ?_ | refine AWq.seq ?_ | refine AWq.region ?_ | refine AWq.cond ?_ | refine AWq.block ?_ | refine AWq.skip ?_ | refine AWq.ret ?_ | refine AWq.exit ?_ | refine AWq.loop ?_ | refine DrawA.consD ?_ | refine DrawA.nil ?_ | refine AWq.draw (by decide +kernel) ?_ | (refine Both.mk ?_ ?_ <;> intro hc <;> (first | exact Bool.noConfusion hc | exact absurd (by with_reducible rfl) hc | (exfalso; omega) | skip)) | (intro c hc; (try (simp only [AH.none_iff] at hc; repeat (have hn := hc.1; replace hc := hc.2))); (first | (refine i64_k hc ?_ ?_ ?_ ; omega; omega; (clear hc; intro hc; subst hc)) | skip)) | (apply Exists.intro; apply And.intro; (first | (focus (repeat (first | (with_reducible assumption) | (with_reducible exact AH.set_same _ _ _) | ((first | refine AH.get_ne ?_ ?_); (first | (with_reducible assumption) | exact Ne.symm (by with_reducible assumption))))); done))) | (apply Exists.intro; apply And.intro; first | (with_reducible assumption) | ((try simp only [List.getElem?_drop, Nat.mul_one, Nat.add_zero, Nat.zero_add]); first | (with_reducible assumption) | rfl)) | (apply And.intro; (first | rfl | (with_reducible assumption) | exact Nat.le_of_ble_eq_true rfl | omega | (simp <;> omega) | (focus (repeat' (first | (with_reducible assumption) | rfl | apply one_take | apply one_drop)); done))) | (refine ACall.to (hnet) ?_))) <;> (try (conv => whnf))
  refine ACall.mono hix ?_
  rintro y H' ⟨k, hk, rfl, rfl⟩
  clear hnet hix
  rcases hk with ⟨rfl, hno⟩ | ⟨i, hi, rfl, hpos⟩
  · have hnp : ∀ v, v ≤ n → netN A v ≤ 0 := fun v hv => by
      have := hno (netN A v) (List.mem_map.2 ⟨v, by simp; omega, rfl⟩)
      have := of_decide_eq_false this
      omega
    have hnz := net_zero hJ.ok hnp
    obtain ⟨F, hF0⟩ : ∃ F, F = S.set ra (.row (acL A) A0.length) := ⟨_, rfl⟩
    rw [← hF0] at hNet ⊢
    obtain ⟨hFg, hFa, _⟩ := id hNet
    have hF6 : F c6 = some (.row [.nils, .nils, .nils, .int .i64 0] 0) := by
      have h1 := AH.none_set hg
      have h2 := AH.none_set hra
      rw [hF0, hS]; unfold stH
      rw [AH.set_ne _ _ (Ne.symm h2.1), AH.set_ne _ _ (Ne.symm h1.1), AH.set_ne _ _ (Ne.symm h2.1), AH.set_same]
    have hHF : HLe (H.set c6 (.row [.nils, .nils, .nils, .int .i64 0] 0)) F := by
      rw [hF0, hS]; unfold stH
      exact HLe.set_of _ _ (HLe.set_of _ _ (HLe.set_of _ _ (HLe.refl _) hra) hg) hra
    (repeat' ((conv => whnf); first | refine Then.mk ?_ | left | refine OpsA.cons ?_ | refine OpsA.nil ?_ | refine AWq.seq ?_ | refine AWq.region ?_ | refine AWq.cond ?_ | refine AWq.block ?_ | refine AWq.skip ?_ | refine AWq.ret ?_ | refine AWq.exit ?_ | refine AWq.loop ?_ | refine DrawA.consD ?_ | refine DrawA.nil ?_ | refine AWq.draw (by decide +kernel) ?_ | (refine Both.mk ?_ ?_ <;> intro hc <;> (first | exact Bool.noConfusion hc | exact absurd (by with_reducible rfl) hc | (exfalso; omega) | skip)) | (intro c hc; (try (simp only [AH.none_iff] at hc; repeat (have hn := hc.1; replace hc := hc.2))); (first | (refine i64_k hc ?_ ?_ ?_ ; omega; omega; (clear hc; intro hc; subst hc)) | skip)) | (apply Exists.intro; apply And.intro; (first | (focus (repeat (first | (with_reducible assumption) | (with_reducible exact AH.set_same _ _ _) | ((first | refine AH.get_ne ?_ ?_); (first | (with_reducible assumption) | exact Ne.symm (by with_reducible assumption))))); done))) | (apply Exists.intro; apply And.intro; first | (with_reducible assumption) | ((try simp only [List.getElem?_drop, Nat.mul_one, Nat.add_zero, Nat.zero_add]); first | (with_reducible assumption) | rfl)) | (apply And.intro; (first | rfl | (with_reducible assumption) | exact Nat.le_of_ble_eq_true rfl | omega | (simp <;> omega) | (focus (repeat' (first | (with_reducible assumption) | rfl | apply one_take | apply one_drop)); done))))) <;> (try (conv => whnf))
    (obtain ⟨r12, hq_⟩ : ∃ r12, r12 = c := ⟨_, rfl⟩); subst hq_
    have h12 : F r12 = none := hc
    have n12g : g ≠ r12 := AH.none_ne' h12 hFg
    have n12a : ra ≠ r12 := AH.none_ne' h12 hFa
    refine ACall.less (H' := F.set r12 (.row (dL (n + 1) fun _ => 0) 0)) (HLe.of_eq (by rw [← dL_zero, show n + 1 = ((n : Int) + 1).toNat by omega])) ?_
    have hdist := dist0_c n (by omega) A hJ (by omega) (F.set r12 (.row (dL (n + 1) fun _ => 0) 0)) g 0 ra A0.length none ⟨by (first | (focus (repeat (first | (with_reducible assumption) | (with_reducible exact AH.set_same _ _ _) | ((first | refine AH.get_ne ?_ ?_); (first | (with_reducible assumption) | exact Ne.symm (by with_reducible assumption))))); done)), by (first | (focus (repeat (first | (with_reducible assumption) | (with_reducible exact AH.set_same _ _ _) | ((first | refine AH.get_ne ?_ ?_); (first | (with_reducible assumption) | exact Ne.symm (by with_reducible assumption))))); done)), hgra⟩ r12 (AH.set_same _ _ _) (Ne.symm n12g) (Ne.symm n12a)
    refine ACall.mono hdist ?_
    clear hdist
    rintro y H' ⟨σ, rs, ⟨hfe, hmx, hbd⟩, hrs, rfl, rfl⟩
    obtain ⟨hrs12, hFrs⟩ := AH.none_set hrs
    unfold dsH
    rw [AH.set_set]
    generalize hd : σ.d = d at *
    (repeat' ((conv => whnf); first | left | refine OpsA.cons ?_ | refine OpsA.nil ?_ | refine AWq.seq ?_ | refine AWq.region ?_ | refine AWq.cond ?_ | refine AWq.block ?_ | refine AWq.skip ?_ | refine AWq.ret ?_ | refine AWq.exit ?_ | refine AWq.loop ?_ | refine DrawA.consD ?_ | refine DrawA.nil ?_ | refine AWq.draw (by decide +kernel) ?_ | (refine Both.mk ?_ ?_ <;> intro hc <;> (first | exact Bool.noConfusion hc | exact absurd (by with_reducible rfl) hc | (exfalso; omega) | skip)) | (intro c hc; (try (simp only [AH.none_iff] at hc; repeat (have hn := hc.1; replace hc := hc.2))); (first | (refine i64_k hc ?_ ?_ ?_ ; omega; omega; (clear hc; intro hc; subst hc)) | skip)) | (apply Exists.intro; apply And.intro; (first | (focus (repeat (first | (with_reducible assumption) | (with_reducible exact AH.set_same _ _ _) | ((first | refine AH.get_ne ?_ ?_); (first | (with_reducible assumption) | exact Ne.symm (by with_reducible assumption))))); done))) | (apply Exists.intro; apply And.intro; first | (with_reducible assumption) | ((try simp only [List.getElem?_drop, Nat.mul_one, Nat.add_zero, Nat.zero_add]); first | (with_reducible assumption) | rfl)) | (apply And.intro; (first | rfl | (with_reducible assumption) | exact Nat.le_of_ble_eq_true rfl | omega | (simp <;> omega) | (focus (repeat' (first | (with_reducible assumption) | rfl | apply one_take | apply one_drop)); done))))) <;> (try (conv => whnf))
    refine Then.mk (AWq.in ?_)
    refine AWp_freeze1 12 (r := r12) (v := 0) (es := 1) (n := n + 1) (lim := none) (cells := dL (n + 1) d) rfl rfl (by (first | (focus (repeat (first | (with_reducible assumption) | (with_reducible exact AH.set_same _ _ _) | ((first | refine AH.get_ne ?_ ?_); (first | (with_reducible assumption) | exact Ne.symm (by with_reducible assumption))))); done))) (by simp) ?_
    refine AWp_less F ?_ ?_
    · refine HLe.del _ (HLe.set_of _ _ (HLe.fresh _ h12) hFrs) h12
    refine AWp.of tt_ok (dok _) rfl ?_
    (repeat' ((conv => whnf); first | refine Then.mk ?_ | left | refine OpsA.cons ?_ | refine OpsA.nil ?_ | refine AWq.seq ?_ | refine AWq.region ?_ | refine AWq.cond ?_ | refine AWq.block ?_ | refine AWq.skip ?_ | refine AWq.ret ?_ | refine AWq.exit ?_ | refine AWq.loop ?_ | refine DrawA.consD ?_ | refine DrawA.nil ?_ | refine AWq.draw (by decide +kernel) ?_ | (refine Both.mk ?_ ?_ <;> intro hc <;> (first | exact Bool.noConfusion hc | exact absurd (by with_reducible rfl) hc | (exfalso; omega) | skip)) | (intro c hc; (try (simp only [AH.none_iff] at hc; repeat (have hn := hc.1; replace hc := hc.2))); (first | (refine i64_k hc ?_ ?_ ?_ ; omega; omega; (clear hc; intro hc; subst hc)) | skip)) | (apply Exists.intro; apply And.intro; (first | (focus (repeat (first | (with_reducible assumption) | (with_reducible exact AH.set_same _ _ _) | ((first | refine AH.get_ne ?_ ?_); (first | (with_reducible assumption) | exact Ne.symm (by with_reducible assumption))))); done))) | (apply Exists.intro; apply And.intro; first | (with_reducible assumption) | ((try simp only [List.getElem?_drop, Nat.mul_one, Nat.add_zero, Nat.zero_add]); first | (with_reducible assumption) | rfl)) | (apply And.intro; (first | rfl | (with_reducible assumption) | exact Nat.le_of_ble_eq_true rfl | omega | (simp <;> omega) | (focus (repeat' (first | (with_reducible assumption) | rfl | apply one_take | apply one_drop)); done))))) <;> (try (conv => whnf))
    refine ACall.mono (bases_c n (by omega) A hJ.ok (by omega) F g 0 ra A0.length none hNet) ?_
    rintro y H' ⟨o, r13, hBI, hoe, h13, rfl, rfl⟩
    have hSv : Sv n es fs A d o := ⟨by rw [← hA0]; exact hal, hJ.ok, hnz, hfe, fun v hv => (hbd v hv).1, fun v hv => (hbd v hv).2, hmx, hBI, hoe⟩
    (repeat' ((conv => whnf); first | left | refine OpsA.cons ?_ | refine OpsA.nil ?_ | refine AWq.seq ?_ | refine AWq.region ?_ | refine AWq.cond ?_ | refine AWq.block ?_ | refine AWq.skip ?_ | refine AWq.ret ?_ | refine AWq.exit ?_ | refine AWq.loop ?_ | refine DrawA.consD ?_ | refine DrawA.nil ?_ | refine AWq.draw (by decide +kernel) ?_ | (refine Both.mk ?_ ?_ <;> intro hc <;> (first | exact Bool.noConfusion hc | exact absurd (by with_reducible rfl) hc | (exfalso; omega) | skip)) | (intro c hc; (try (simp only [AH.none_iff] at hc; repeat (have hn := hc.1; replace hc := hc.2))); (first | (refine i64_k hc ?_ ?_ ?_ ; omega; omega; (clear hc; intro hc; subst hc)) | skip)) | (apply Exists.intro; apply And.intro; (first | (focus (repeat (first | (with_reducible assumption) | (with_reducible exact AH.set_same _ _ _) | ((first | refine AH.get_ne ?_ ?_); (first | (with_reducible assumption) | exact Ne.symm (by with_reducible assumption))))); done))) | (apply Exists.intro; apply And.intro; first | (with_reducible assumption) | ((try simp only [List.getElem?_drop, Nat.mul_one, Nat.add_zero, Nat.zero_add]); first | (with_reducible assumption) | rfl)) | (apply And.intro; (first | rfl | (with_reducible assumption) | exact Nat.le_of_ble_eq_true rfl | omega | (simp <;> omega) | (focus (repeat' (first | (with_reducible assumption) | rfl | apply one_take | apply one_drop)); done))))) <;> (try (conv => whnf))
    refine Then.mk (AWq.in ?_)
    refine AWp_freeze1 13 (r := r13) (v := 0) (es := 1) (n := n + 1) (lim := none) (cells := dL (n + 1) (bsN n o)) rfl rfl (by (first | (focus (repeat (first | (with_reducible assumption) | (with_reducible exact AH.set_same _ _ _) | ((first | refine AH.get_ne ?_ ?_); (first | (with_reducible assumption) | exact Ne.symm (by with_reducible assumption))))); done))) (by simp) ?_
    rw [AH.del_set _ _ _ h13]
    refine AWp.of tt_ok (dok _) rfl ?_
    (repeat' ((conv => whnf); first | left | refine OpsA.cons ?_ | refine OpsA.nil ?_ | refine AWq.seq ?_ | refine AWq.region ?_ | refine AWq.cond ?_ | refine AWq.block ?_ | refine AWq.skip ?_ | refine AWq.ret ?_ | refine AWq.exit ?_ | refine AWq.loop ?_ | refine DrawA.consD ?_ | refine DrawA.nil ?_ | refine AWq.draw (by decide +kernel) ?_ | (refine Both.mk ?_ ?_ <;> intro hc <;> (first | exact Bool.noConfusion hc | exact absurd (by with_reducible rfl) hc | (exfalso; omega) | skip)) | (intro c hc; (try (simp only [AH.none_iff] at hc; repeat (have hn := hc.1; replace hc := hc.2))); (first | (refine i64_k hc ?_ ?_ ?_ ; omega; omega; (clear hc; intro hc; subst hc)) | skip)) | (apply Exists.intro; apply And.intro; (first | (focus (repeat (first | (with_reducible assumption) | (with_reducible exact AH.set_same _ _ _) | ((first | refine AH.get_ne ?_ ?_); (first | (with_reducible assumption) | exact Ne.symm (by with_reducible assumption))))); done))) | (apply Exists.intro; apply And.intro; first | (with_reducible assumption) | ((try simp only [List.getElem?_drop, Nat.mul_one, Nat.add_zero, Nat.zero_add]); first | (with_reducible assumption) | rfl)) | (apply And.intro; (first | rfl | (with_reducible assumption) | exact Nat.le_of_ble_eq_true rfl | omega | (simp <;> omega) | (focus (repeat' (first | (with_reducible assumption) | rfl | apply one_take | apply one_drop)); done))))) <;> (try (conv => whnf))
    (obtain ⟨c14, hq_⟩ : ∃ c14, c14 = c := ⟨_, rfl⟩); subst hq_
    have h14 : F c14 = none := hc
    have n146 : c6 ≠ c14 := AH.none_ne' h14 hF6
    have n14g : g ≠ c14 := AH.none_ne' h14 hFg
    have n14a : ra ≠ c14 := AH.none_ne' h14 hFa
    refine Then.mk (AWq.in ?_)
    refine AWp_nilC (p := c14) 1 [] [.nils, .nils, .int .i64 0] (AH.set_same _ _ _) fun r1 hr1 n1 => ?_
    obtain ⟨_, hr1⟩ := AH.none_set hr1
    refine AWp_nilC (p := c14) 1 [.sl r1 0 1 0 0 none] [.nils, .int .i64 0] (AH.set_same _ _ _) fun r2 hr2 n2 => ?_
    obtain ⟨_, hr2⟩ := AH.none_set hr2
    obtain ⟨n21, hr2⟩ := AH.none_set hr2
    obtain ⟨_, hr2⟩ := AH.none_set hr2
    refine AWp_nilC (p := c14) 1 [.sl r1 0 1 0 0 none, .sl r2 0 1 0 0 none] [.int .i64 0] (AH.set_same _ _ _) fun r3 hr3 n3 => ?_
    obtain ⟨_, hr3⟩ := AH.none_set hr3
    obtain ⟨n32, hr3⟩ := AH.none_set hr3
    obtain ⟨_, hr3⟩ := AH.none_set hr3
    obtain ⟨n31, hr3⟩ := AH.none_set hr3
    obtain ⟨_, hr3⟩ := AH.none_set hr3
    have hD : AnD r1 r2 r3 c14 := ⟨Ne.symm n21, Ne.symm n31, Ne.symm n32, n1, n2, n3⟩
    refine AWp_less (anH F r1 r2 r3 c14 [] [] []) (HLe.of_eq (anH_0 hD)) ?_
    refine AWp.of tt_ok (dok _) rfl ?_
    have k6 : ∀ l1 l2 l3, anH F r1 r2 r3 c14 l1 l2 l3 c6 = some (.row [.nils, .nils, .nils, .int .i64 0] 0) := fun l1 l2 l3 => by
      unfold anH; rw [AH.set_ne _ _ n146, AH.set_ne _ _ (AH.none_ne' hr3 hF6), AH.set_ne _ _ (AH.none_ne' hr2 hF6), AH.set_ne _ _ (AH.none_ne' hr1 hF6)]; exact hF6
    have kg : ∀ l1 l2 l3, anH F r1 r2 r3 c14 l1 l2 l3 g = some (.row [.int .i64 n, .sl ra A0.length 5 0 A.length none] 0) := fun l1 l2 l3 => by
      unfold anH; rw [AH.set_ne _ _ n14g, AH.set_ne _ _ (AH.none_ne' hr3 hFg), AH.set_ne _ _ (AH.none_ne' hr2 hFg), AH.set_ne _ _ (AH.none_ne' hr1 hFg)]; exact hFg
    have ka : ∀ l1 l2 l3, anH F r1 r2 r3 c14 l1 l2 l3 ra = some (.row (acL A) A0.length) := fun l1 l2 l3 => by
      unfold anH; rw [AH.set_ne _ _ n14a, AH.set_ne _ _ (AH.none_ne' hr3 hFa), AH.set_ne _ _ (AH.none_ne' hr2 hFa), AH.set_ne _ _ (AH.none_ne' hr1 hFa)]; exact hFa
    have k14 : ∀ l1 l2 l3, anH F r1 r2 r3 c14 l1 l2 l3 c14 = some (.row [.sl r1 l1.length 1 0 l1.length none, .sl r2 l2.length 1 0 l2.length none, .sl r3 l3.length 1 0 l3.length none, .int .i64 0] 0) := fun l1 l2 l3 => AH.set_same _ _ _
    have k1 : ∀ l1 l2 l3, anH F r1 r2 r3 c14 l1 l2 l3 r1 = some (.row (iS .i64 l1) l1.length) := fun l1 l2 l3 => by
      unfold anH; rw [AH.set_ne _ _ n1, AH.set_ne _ _ hD.a, AH.set_ne _ _ hD.b, AH.set_same]
    have k2 : ∀ l1 l2 l3, anH F r1 r2 r3 c14 l1 l2 l3 r2 = some (.row (iS .i64 l2) l2.length) := fun l1 l2 l3 => by
      unfold anH; rw [AH.set_ne _ _ n2, AH.set_ne _ _ (Ne.symm n32), AH.set_same]
    have k3 : ∀ l1 l2 l3, anH F r1 r2 r3 c14 l1 l2 l3 r3 = some (.row (iS .i64 l3) l3.length) := fun l1 l2 l3 => by
      unfold anH; rw [AH.set_ne _ _ n3, AH.set_same]
    have hil := fun l : List Int => iS_length .i64 l
    (repeat' ((conv => whnf); first | refine Then.mk ?_ | left | refine OpsA.cons ?_ | refine OpsA.nil ?_ | refine AWq.seq ?_ | refine AWq.region ?_ | refine AWq.cond ?_ | refine AWq.block ?_ | refine AWq.skip ?_ | refine AWq.ret ?_ | refine AWq.exit ?_ | refine AWq.loop ?_ | refine DrawA.consD ?_ | refine DrawA.nil ?_ | refine AWq.draw (by decide +kernel) ?_ | (refine Both.mk ?_ ?_ <;> intro hc <;> (first | exact Bool.noConfusion hc | exact absurd (by with_reducible rfl) hc | (exfalso; omega) | skip)) | (intro c hc; (try (simp only [AH.none_iff] at hc; repeat (have hn := hc.1; replace hc := hc.2))); (first | (refine i64_k hc ?_ ?_ ?_ ; omega; omega; (clear hc; intro hc; subst hc)) | skip)) | (apply Exists.intro; apply And.intro; (first | (focus (repeat (first | (with_reducible assumption) | (with_reducible exact AH.set_same _ _ _) | ((first | refine AH.get_ne ?_ ?_); (first | (with_reducible assumption) | exact Ne.symm (by with_reducible assumption))))); done))) | (apply Exists.intro; apply And.intro; first | (with_reducible assumption) | ((try simp only [List.getElem?_drop, Nat.mul_one, Nat.add_zero, Nat.zero_add]); first | (with_reducible assumption) | rfl)) | (apply And.intro; (first | rfl | (with_reducible assumption) | exact Nat.le_of_ble_eq_true rfl | omega | (simp <;> omega) | (focus (repeat' (first | (with_reducible assumption) | rfl | apply one_take | apply one_drop)); done))))) <;> (try (conv => whnf))
    refine AWp_loop (σ := Nat) (15 :: 49 :: 50 :: 51 :: 52 :: 53 :: 54 :: 55 :: 56 :: 57 :: 58 :: 59 :: 60 :: 61 :: 62 :: 63 :: 64 :: 65 :: 66 :: 67 :: 68 :: 69 :: []) (fun i => [(49, .int .i64 i)]) (fun i => anH F r1 r2 r3 c14 (fnL i (offS n d o)) [] []) (fun i => i ≤ n) (fun i => n - i) 0 rfl (Nat.zero_le _) ⟨rfl, trivial⟩ (HLe.refl _) ?_
    intro i hi
    refine AWp.of tt_ok (dok _) rfl ?_
    dsimp only at hi ⊢
    by_cases hilt : i < n
    · have hb1 := hbd i (by omega)
      have hlo := hBI.lo i (by omega)
      have hup := hBI.up i (by omega)
      have hbn : 0 ≤ bsN n o i ∧ bsN n o i ≤ n := by unfold bsN; split <;> omega
      have hb2 := hbd (bsN n o i).toNat (by omega)
      have gi := dL_getZ (n := n + 1) d (show i < n + 1 by omega)
      have gb := dL_getZ (n := n + 1) (bsN n o) (show i < n + 1 by omega)
      have gd : (dL (n + 1) d)[(bsN n o i).toNat]? = some (.int .i64 (d (bsN n o i).toNat)) := dL_get d (by omega)
      have hl1 := dL_len (n + 1) d
      have hl2 := dL_len (n + 1) (bsN n o)
      have hK14 := k14 (fnL i (offS n d o)) [] []
      have hK1 := k1 (fnL i (offS n d o)) [] []
      have hll := hil (fnL i (offS n d o))
      have hfl : (fnL i (offS n d o)).length = i := by simp
      have hst := anH_1 (F := F) hD (fnL i (offS n d o)) [] [] (offS n d o i)
      rw [← fnL_snoc] at hst
      have hoff : offS n d o i = d i - d (bsN n o i).toNat := rfl
      rw [hoff] at hst
      generalize bsN n o i = bi at *
      generalize d bi.toNat = db at *
      generalize d i = di at *
      generalize hG1 : anH F r1 r2 r3 c14 (fnL i (offS n d o)) [] [] = G1 at *
      generalize hG2 : anH F r1 r2 r3 c14 (fnL (i + 1) (offS n d o)) [] [] = G2 at *
      (repeat' ((conv => whnf); first | refine Then.mk ?_ | left | refine OpsA.cons ?_ | refine OpsA.nil ?_ | refine AWq.seq ?_ | refine AWq.region ?_ | refine AWq.cond ?_ | refine AWq.block ?_ | refine AWq.skip ?_ | refine AWq.ret ?_ | refine AWq.exit ?_ | refine AWq.loop ?_ | refine DrawA.consD ?_ | refine DrawA.nil ?_ | refine AWq.draw (by decide +kernel) ?_ | (refine Both.mk ?_ ?_ <;> intro hc <;> (first | exact Bool.noConfusion hc | exact absurd (by with_reducible rfl) hc | (exfalso; omega) | skip)) | (intro c hc; (try (simp only [AH.none_iff] at hc; repeat (have hn := hc.1; replace hc := hc.2))); (first | (refine i64_k hc ?_ ?_ ?_ ; omega; omega; (clear hc; intro hc; subst hc)) | skip)) | (apply Exists.intro; apply And.intro; (first | (focus (repeat (first | (with_reducible assumption) | (with_reducible exact AH.set_same _ _ _) | ((first | refine AH.get_ne ?_ ?_); (first | (with_reducible assumption) | exact Ne.symm (by with_reducible assumption))))); done))) | (apply Exists.intro; apply And.intro; first | (with_reducible assumption) | ((try simp only [List.getElem?_drop, Nat.mul_one, Nat.add_zero, Nat.zero_add]); first | (with_reducible assumption) | rfl)) | (apply And.intro; (first | rfl | (with_reducible assumption) | exact Nat.le_of_ble_eq_true rfl | omega | (simp <;> omega) | (focus (repeat' (first | (with_reducible assumption) | rfl | apply one_take | apply one_drop)); done))))) <;> (try (conv => whnf))
      exact ⟨i + 1, hilt, by omega, ⟨congrArg (AV.int .i64) (by omega), trivial⟩, HLe.of_eq (hG2.trans hst)⟩
    · have hie : i = n := by omega
      rw [hie]
      clear hi hie
      obtain ⟨offs, hoffs⟩ : ∃ offs, offs = fnL n (offS n d o) := ⟨_, rfl⟩
      have hofl : offs.length = n := by rw [hoffs]; simp
      rw [← hoffs]
      have hcl := acL_len A
      have ho := acL_one A
      have kg1 := kg offs [] []
      (repeat' ((conv => whnf); first | refine Then.mk ?_ | left | refine OpsA.cons ?_ | refine OpsA.nil ?_ | refine AWq.seq ?_ | refine AWq.region ?_ | refine AWq.cond ?_ | refine AWq.block ?_ | refine AWq.skip ?_ | refine AWq.ret ?_ | refine AWq.exit ?_ | refine AWq.loop ?_ | refine DrawA.consD ?_ | refine DrawA.nil ?_ | refine AWq.draw (by decide +kernel) ?_ | (refine Both.mk ?_ ?_ <;> intro hc <;> (first | exact Bool.noConfusion hc | exact absurd (by with_reducible rfl) hc | (exfalso; omega) | skip)) | (intro c hc; (try (simp only [AH.none_iff] at hc; repeat (have hn := hc.1; replace hc := hc.2))); (first | (refine i64_k hc ?_ ?_ ?_ ; omega; omega; (clear hc; intro hc; subst hc)) | skip)) | (apply Exists.intro; apply And.intro; (first | (focus (repeat (first | (with_reducible assumption) | (with_reducible exact AH.set_same _ _ _) | ((first | refine AH.get_ne ?_ ?_); (first | (with_reducible assumption) | exact Ne.symm (by with_reducible assumption))))); done))) | (apply Exists.intro; apply And.intro; first | (with_reducible assumption) | ((try simp only [List.getElem?_drop, Nat.mul_one, Nat.add_zero, Nat.zero_add]); first | (with_reducible assumption) | rfl)) | (apply And.intro; (first | rfl | (with_reducible assumption) | exact Nat.le_of_ble_eq_true rfl | omega | (simp <;> omega) | (focus (repeat' (first | (with_reducible assumption) | rfl | apply one_take | apply one_drop)); done))))) <;> (try (conv => whnf))
      refine AWp_loop (σ := Nat) (16 :: 17 :: 75 :: 76 :: 77 :: 78 :: 79 :: 80 :: 81 :: 82 :: 83 :: 84 :: 85 :: 86 :: 87 :: 88 :: 89 :: 90 :: 91 :: 92 :: 93 :: 94 :: 95 :: 96 :: 97 :: 98 :: []) (fun i => [(75, .int .i64 i)]) (fun i => anH F r1 r2 r3 c14 offs (flE es (A.take i)) (flF es (A.take i))) (fun i => i ≤ A.length) (fun i => A.length - i) 0 rfl (Nat.zero_le _) ⟨rfl, trivial⟩ (HLe.of_eq (by simp [flE, flF])) ?_
      intro j hj
      refine AWp.of tt_ok (dok _) rfl ?_
      dsimp only at hj ⊢
      by_cases hjlt : j < A.length
      · obtain ⟨x, hx⟩ : ∃ x, A[j]? = some x := ⟨_, List.getElem?_eq_getElem hjlt⟩
        have ka1 := ka offs (flE es (A.take j)) (flF es (A.take j))
        have kc1 := k14 offs (flE es (A.take j)) (flF es (A.take j))
        have kr2 := k2 offs (flE es (A.take j)) (flF es (A.take j))
        have kr3 := k3 offs (flE es (A.take j)) (flF es (A.take j))
        have hl2 := hil (flE es (A.take j))
        have hl3 := hil (flF es (A.take j))
        have hlE : (flE es (A.take j)).length ≤ 100000 := by unfold flE; rw [List.length_map, List.length_take, List.length_take]; omega
        have hlF : (flF es (A.take j)).length ≤ 100000 := by unfold flF; rw [List.length_map, List.length_drop, List.length_take]; omega
        have hst2 := anH_2 (F := F) hD offs (flE es (A.take j)) (flF es (A.take j)) x.f
        have hst3 := anH_3 (F := F) hD offs (flE es (A.take j)) (flF es (A.take j)) x.f
        by_cases hje : j < es.length
        · have e2 : flE es (A.take (j + 1)) = flE es (A.take j) ++ [x.f] := by
            unfold flE; rw [List.take_take, List.take_take, Nat.min_eq_right (by omega), Nat.min_eq_right (by omega), take_snoc hx]; simp
          have e3 : flF es (A.take (j + 1)) = flF es (A.take j) := by
            unfold flF; rw [List.drop_of_length_le (by rw [List.length_take]; omega), List.drop_of_length_le (by rw [List.length_take]; omega)]
          rw [← e2] at hst2
          have hst : anH F r1 r2 r3 c14 offs (flE es (A.take (j + 1))) (flF es (A.take (j + 1))) = _ := (congrArg (anH F r1 r2 r3 c14 offs (flE es (A.take (j + 1)))) e3).trans hst2
          clear hst3 hst2
          generalize hG1 : anH F r1 r2 r3 c14 offs (flE es (A.take j)) (flF es (A.take j)) = G1 at *
          generalize hG2 : anH F r1 r2 r3 c14 offs (flE es (A.take (j + 1))) (flF es (A.take (j + 1))) = G2 at *
          (iterate 3 ((repeat' ((conv => whnf); first | left | refine OpsA.cons ?_ | refine OpsA.nil ?_ | refine AWq.seq ?_ | refine AWq.region ?_ | refine AWq.cond ?_ | refine AWq.block ?_ | refine AWq.skip ?_ | refine AWq.ret ?_ | refine AWq.exit ?_ | refine AWq.loop ?_ | refine DrawA.consD ?_ | refine DrawA.nil ?_ | refine AWq.draw (by decide +kernel) ?_ | (refine Both.mk ?_ ?_ <;> intro hc <;> (first | exact Bool.noConfusion hc | exact absurd (by with_reducible rfl) hc | (exfalso; omega) | skip)) | (intro c hc; (try (simp only [AH.none_iff] at hc; repeat (have hn := hc.1; replace hc := hc.2))); (first | (refine i64_k hc ?_ ?_ ?_ ; omega; omega; (clear hc; intro hc; subst hc)) | skip)) | (apply Exists.intro; apply And.intro; (first | (focus (repeat (first | (with_reducible assumption) | (with_reducible exact AH.set_same _ _ _) | ((first | refine AH.get_ne ?_ ?_); (first | (with_reducible assumption) | exact Ne.symm (by with_reducible assumption))))); done))) | (apply Exists.intro; apply And.intro; first | (with_reducible assumption) | ((try simp only [List.getElem?_drop, Nat.mul_one, Nat.add_zero, Nat.zero_add]); first | (with_reducible assumption) | rfl)) | (apply And.intro; (first | rfl | (with_reducible assumption) | exact Nat.le_of_ble_eq_true rfl | omega | (simp <;> omega) | (focus (repeat' (first | (with_reducible assumption) | rfl | apply one_take | apply one_drop)); done))))) <;> (try (conv => whnf)); refine Then.mk ?_))
          refine AWq.in ?_
          refine AWp_segP 17 (acA x) rfl rfl (by (first | assumption | (simp only [AH.none_iff]; (repeat' (first | assumption | (refine And.intro ?_ ?_)))))) (acL_segZ hx) rfl ?_
          refine AWp.of tt_ok (dok _) rfl ?_
          (repeat' ((conv => whnf); first | refine Then.mk ?_ | left | refine OpsA.cons ?_ | refine OpsA.nil ?_ | refine AWq.seq ?_ | refine AWq.region ?_ | refine AWq.cond ?_ | refine AWq.block ?_ | refine AWq.skip ?_ | refine AWq.ret ?_ | refine AWq.exit ?_ | refine AWq.loop ?_ | refine DrawA.consD ?_ | refine DrawA.nil ?_ | refine AWq.draw (by decide +kernel) ?_ | (refine Both.mk ?_ ?_ <;> intro hc <;> (first | exact Bool.noConfusion hc | exact absurd (by with_reducible rfl) hc | (exfalso; omega) | skip)) | (intro c hc; (try (simp only [AH.none_iff] at hc; repeat (have hn := hc.1; replace hc := hc.2))); (first | (refine i64_k hc ?_ ?_ ?_ ; omega; omega; (clear hc; intro hc; subst hc)) | skip)) | (apply Exists.intro; apply And.intro; (first | (focus (repeat (first | (with_reducible assumption) | (with_reducible exact AH.set_same _ _ _) | ((first | refine AH.get_ne ?_ ?_); (first | (with_reducible assumption) | exact Ne.symm (by with_reducible assumption))))); done))) | (apply Exists.intro; apply And.intro; first | (with_reducible assumption) | ((try simp only [List.getElem?_drop, Nat.mul_one, Nat.add_zero, Nat.zero_add]); first | (with_reducible assumption) | rfl)) | (apply And.intro; (first | rfl | (with_reducible assumption) | exact Nat.le_of_ble_eq_true rfl | omega | (simp <;> omega) | (focus (repeat' (first | (with_reducible assumption) | rfl | apply one_take | apply one_drop)); done))))) <;> (try (conv => whnf))
          exact ⟨j + 1, hjlt, by omega, ⟨congrArg (AV.int .i64) (by omega), trivial⟩, HLe.of_eq (hG2.trans hst)⟩
        · have e2 : flE es (A.take (j + 1)) = flE es (A.take j) := by
            unfold flE; rw [List.take_take, List.take_take, Nat.min_eq_left (by omega), Nat.min_eq_left (by omega)]
          have e3 : flF es (A.take (j + 1)) = flF es (A.take j) ++ [x.f] := by
            unfold flF; rw [take_snoc hx, List.drop_append_of_le_length (by rw [List.length_take]; omega)]; simp
          rw [← e3] at hst3
          have hst : anH F r1 r2 r3 c14 offs (flE es (A.take (j + 1))) (flF es (A.take (j + 1))) = _ := (congrArg (fun l => anH F r1 r2 r3 c14 offs l (flF es (A.take (j + 1)))) e2).trans hst3
          clear hst3 hst2
          generalize hG1 : anH F r1 r2 r3 c14 offs (flE es (A.take j)) (flF es (A.take j)) = G1 at *
          generalize hG2 : anH F r1 r2 r3 c14 offs (flE es (A.take (j + 1))) (flF es (A.take (j + 1))) = G2 at *
          (iterate 3 ((repeat' ((conv => whnf); first | left | refine OpsA.cons ?_ | refine OpsA.nil ?_ | refine AWq.seq ?_ | refine AWq.region ?_ | refine AWq.cond ?_ | refine AWq.block ?_ | refine AWq.skip ?_ | refine AWq.ret ?_ | refine AWq.exit ?_ | refine AWq.loop ?_ | refine DrawA.consD ?_ | refine DrawA.nil ?_ | refine AWq.draw (by decide +kernel) ?_ | (refine Both.mk ?_ ?_ <;> intro hc <;> (first | exact Bool.noConfusion hc | exact absurd (by with_reducible rfl) hc | (exfalso; omega) | skip)) | (intro c hc; (try (simp only [AH.none_iff] at hc; repeat (have hn := hc.1; replace hc := hc.2))); (first | (refine i64_k hc ?_ ?_ ?_ ; omega; omega; (clear hc; intro hc; subst hc)) | skip)) | (apply Exists.intro; apply And.intro; (first | (focus (repeat (first | (with_reducible assumption) | (with_reducible exact AH.set_same _ _ _) | ((first | refine AH.get_ne ?_ ?_); (first | (with_reducible assumption) | exact Ne.symm (by with_reducible assumption))))); done))) | (apply Exists.intro; apply And.intro; first | (with_reducible assumption) | ((try simp only [List.getElem?_drop, Nat.mul_one, Nat.add_zero, Nat.zero_add]); first | (with_reducible assumption) | rfl)) | (apply And.intro; (first | rfl | (with_reducible assumption) | exact Nat.le_of_ble_eq_true rfl | omega | (simp <;> omega) | (focus (repeat' (first | (with_reducible assumption) | rfl | apply one_take | apply one_drop)); done))))) <;> (try (conv => whnf)); refine Then.mk ?_))
          refine AWq.in ?_
          refine AWp_segP 17 (acA x) rfl rfl (by (first | assumption | (simp only [AH.none_iff]; (repeat' (first | assumption | (refine And.intro ?_ ?_)))))) (acL_segZ hx) rfl ?_
          refine AWp.of tt_ok (dok _) rfl ?_
          (repeat' ((conv => whnf); first | refine Then.mk ?_ | left | refine OpsA.cons ?_ | refine OpsA.nil ?_ | refine AWq.seq ?_ | refine AWq.region ?_ | refine AWq.cond ?_ | refine AWq.block ?_ | refine AWq.skip ?_ | refine AWq.ret ?_ | refine AWq.exit ?_ | refine AWq.loop ?_ | refine DrawA.consD ?_ | refine DrawA.nil ?_ | refine AWq.draw (by decide +kernel) ?_ | (refine Both.mk ?_ ?_ <;> intro hc <;> (first | exact Bool.noConfusion hc | exact absurd (by with_reducible rfl) hc | (exfalso; omega) | skip)) | (intro c hc; (try (simp only [AH.none_iff] at hc; repeat (have hn := hc.1; replace hc := hc.2))); (first | (refine i64_k hc ?_ ?_ ?_ ; omega; omega; (clear hc; intro hc; subst hc)) | skip)) | (apply Exists.intro; apply And.intro; (first | (focus (repeat (first | (with_reducible assumption) | (with_reducible exact AH.set_same _ _ _) | ((first | refine AH.get_ne ?_ ?_); (first | (with_reducible assumption) | exact Ne.symm (by with_reducible assumption))))); done))) | (apply Exists.intro; apply And.intro; first | (with_reducible assumption) | ((try simp only [List.getElem?_drop, Nat.mul_one, Nat.add_zero, Nat.zero_add]); first | (with_reducible assumption) | rfl)) | (apply And.intro; (first | rfl | (with_reducible assumption) | exact Nat.le_of_ble_eq_true rfl | omega | (simp <;> omega) | (focus (repeat' (first | (with_reducible assumption) | rfl | apply one_take | apply one_drop)); done))))) <;> (try (conv => whnf))
          exact ⟨j + 1, hjlt, by omega, ⟨congrArg (AV.int .i64) (by omega), trivial⟩, HLe.of_eq (hG2.trans hst)⟩
      · have hje : j = A.length := by omega
        have htA : A.take j = A := List.take_of_length_le (by omega)
        rw [htA]
        have hlE : (flE es A).length = es.length := by unfold flE; rw [List.length_map, List.length_take]; omega
        have hlF : (flF es A).length = fs.length := by unfold flF; rw [List.length_map, List.length_drop]; omega
        have kc1 := k14 offs (flE es A) (flF es A)
        have kr1 := k1 offs (flE es A) (flF es A)
        have kr2 := k2 offs (flE es A) (flF es A)
        have kr3 := k3 offs (flE es A) (flF es A)
        obtain ⟨G1, hG1⟩ : ∃ G1, G1 = anH F r1 r2 r3 c14 offs (flE es A) (flF es A) := ⟨_, rfl⟩
        rw [← hG1] at kc1 kr1 kr2 kr3 ⊢
        have hll1 := hil offs
        have hll2 := hil (flE es A)
        have hll3 := hil (flF es A)
        (iterate 2 ((repeat' ((conv => whnf); first | left | refine OpsA.cons ?_ | refine OpsA.nil ?_ | refine AWq.seq ?_ | refine AWq.region ?_ | refine AWq.cond ?_ | refine AWq.block ?_ | refine AWq.skip ?_ | refine AWq.ret ?_ | refine AWq.exit ?_ | refine AWq.loop ?_ | refine DrawA.consD ?_ | refine DrawA.nil ?_ | refine AWq.draw (by decide +kernel) ?_ | (refine Both.mk ?_ ?_ <;> intro hc <;> (first | exact Bool.noConfusion hc | exact absurd (by with_reducible rfl) hc | (exfalso; omega) | skip)) | (intro c hc; (try (simp only [AH.none_iff] at hc; repeat (have hn := hc.1; replace hc := hc.2))); (first | (refine i64_k hc ?_ ?_ ?_ ; omega; omega; (clear hc; intro hc; subst hc)) | skip)) | (apply Exists.intro; apply And.intro; (first | (focus (repeat (first | (with_reducible assumption) | (with_reducible exact AH.set_same _ _ _) | ((first | refine AH.get_ne ?_ ?_); (first | (with_reducible assumption) | exact Ne.symm (by with_reducible assumption))))); done))) | (apply Exists.intro; apply And.intro; first | (with_reducible assumption) | ((try simp only [List.getElem?_drop, Nat.mul_one, Nat.add_zero, Nat.zero_add]); first | (with_reducible assumption) | rfl)) | (apply And.intro; (first | rfl | (with_reducible assumption) | exact Nat.le_of_ble_eq_true rfl | omega | (simp <;> omega) | (focus (repeat' (first | (with_reducible assumption) | rfl | apply one_take | apply one_drop)); done))))) <;> (try (conv => whnf)); refine Then.mk ?_))
        refine AWq.in ?_
        have hH14 : H c14 = none := (AH.none_set (HLe.none hHF h14)).2
        have hH1 : H r1 = none := (AH.none_set (HLe.none hHF hr1)).2
        have hH2 : H r2 = none := (AH.none_set (HLe.none hHF hr2)).2
        have hH3 : H r3 = none := (AH.none_set (HLe.none hHF hr3)).2
        have hc6r1 : c6 ≠ r1 := AH.none_ne' hr1 hF6
        have hc6r2 : c6 ≠ r2 := AH.none_ne' hr2 hF6
        have hc6r3 : c6 ≠ r3 := AH.none_ne' hr3 hF6
        obtain ⟨Z, hZ⟩ : ∃ Z, Z = anH (H.set c6 (.row [.nils, .nils, .nils, .int .i64 0] 0)) r1 r2 r3 c14 offs (flE es A) (flF es A) := ⟨_, rfl⟩
        refine AWp_less Z ?_ ?_
        · rw [hZ, hG1]; unfold anH
          exact HLe.set (HLe.set (HLe.set (HLe.set hHF _ _) _ _) _ _) _ _
        have z14 : Z c14 = some (.row [.sl r1 offs.length 1 0 offs.length none, .sl r2 (flE es A).length 1 0 (flE es A).length none, .sl r3 (flF es A).length 1 0 (flF es A).length none, .int .i64 0] 0) := by rw [hZ]; exact AH.set_same _ _ _
        have z6 : Z c6 = some (.row [.nils, .nils, .nils, .int .i64 0] 0) := by
          rw [hZ]; unfold anH; rw [AH.set_ne _ _ n146, AH.set_ne _ _ hc6r3, AH.set_ne _ _ hc6r2, AH.set_ne _ _ hc6r1, AH.set_same]
        have z1 : Z r1 = some (.row (iS .i64 offs) offs.length) := by
          rw [hZ]; unfold anH; rw [AH.set_ne _ _ n1, AH.set_ne _ _ hD.a, AH.set_ne _ _ hD.b, AH.set_same]
        refine AWp.of tt_ok (dok _) rfl ?_
        have hcost := ACall.apart1 (H := Z) (args := [.cs (edL es) es.length, .cs (fxL fs) fs.length, .sl r1 offs.length 1 0 offs.length none]) (.tup _ fun x hx => by
            simp only [List.mem_cons, List.not_mem_nil, or_false] at hx
            rcases hx with rfl | rfl
            · exact .int _ _
            · exact .int _ _) (.cons (.flat _ (.cs _ _ (flat_ed es))) (.cons (.flat _ (.cs _ _ (flat_fx fs))) (.cons (.sl z1 (by simp) (flat_iS _ _)) .nil))) (fun H => cost_c es fs offs (by omega) (by omega) (by omega) H)
        have hlr : HLe ((((H.set r1 (.row (iS .i64 offs) n)).set r2 (.row (iS .i64 (flE es A)) es.length)).set r3 (.row (iS .i64 (flF es A)) fs.length))) (((H.set c6 (.row [.nils, .nils, .nils, .int .i64 0] 0)).set r1 (.row (iS .i64 offs) n)).set r2 (.row (iS .i64 (flE es A)) es.length) |>.set r3 (.row (iS .i64 (flF es A)) fs.length)) :=
          HLe.set (HLe.set (HLe.set (HLe.fresh _ hc6) _ _) _ _) _ _
        (repeat' ((conv => whnf); first | refine Then.mk ?_ | left | refine OpsA.cons ?_ | refine OpsA.nil ?_ | refine AWq.seq ?_ | refine AWq.region ?_ | refine AWq.cond ?_ | refine AWq.block ?_ | refine AWq.skip ?_ | refine AWq.ret ?_ | refine AWq.exit ?_ | refine AWq.loop ?_ | refine DrawA.consD ?_ | refine DrawA.nil ?_ | refine AWq.draw (by decide +kernel) ?_ | (refine Both.mk ?_ ?_ <;> intro hc <;> (first | exact Bool.noConfusion hc | exact absurd (by with_reducible rfl) hc | (exfalso; omega) | skip)) | (intro c hc; (try (simp only [AH.none_iff] at hc; repeat (have hn := hc.1; replace hc := hc.2))); (first | (refine i64_k hc ?_ ?_ ?_ ; omega; omega; (clear hc; intro hc; subst hc)) | skip)) | (apply Exists.intro; apply And.intro; (first | (focus (repeat (first | (with_reducible assumption) | (with_reducible exact AH.set_same _ _ _) | ((first | refine AH.get_ne ?_ ?_); (first | (with_reducible assumption) | exact Ne.symm (by with_reducible assumption))))); done))) | (apply Exists.intro; apply And.intro; first | (with_reducible assumption) | ((try simp only [List.getElem?_drop, Nat.mul_one, Nat.add_zero, Nat.zero_add]); first | (with_reducible assumption) | rfl)) | (apply And.intro; (first | rfl | (with_reducible assumption) | exact Nat.le_of_ble_eq_true rfl | omega | (simp <;> omega) | (focus (repeat' (first | (with_reducible assumption) | rfl | apply one_take | apply one_drop)); done))) | (refine ACall.to (hcost) ?_))) <;> (try (conv => whnf))
        subst hoffs
        rw [hofl, hlE, hlF, hZ]
        refine ⟨_, (((H.set r1 (.row (iS .i64 (fnL n (offS n d o))) n)).set r2 (.row (iS .i64 (flE es A)) es.length)).set r3 (.row (iS .i64 (flF es A)) fs.length)), AVle.refl _, ?_, A, d, o, r1, r2, r3, n, es.length, fs.length, hSv, hH1, hH2, hH3, hD.b, hD.a, hD.x, rfl, rfl⟩
        unfold anH
        rw [hofl, hlE, hlF]
        have q14 : ∀ X Y Z', (((H.set r1 X).set r2 Y).set r3 Z') c14 = none := fun X Y Z' => by
          rw [AH.set_ne _ _ (Ne.symm n3), AH.set_ne _ _ (Ne.symm n2), AH.set_ne _ _ (Ne.symm n1)]; exact hH14
        have q6 : ∀ X Y Z', (((H.set r1 X).set r2 Y).set r3 Z') c6 = none := fun X Y Z' => by
          rw [AH.set_ne _ _ hc6r3, AH.set_ne _ _ hc6r2, AH.set_ne _ _ hc6r1]; exact hc6
        repeat' (first | exact hlr | refine HLe.set_of _ _ ?_ ?_ | exact q14 _ _ _ | exact q6 _ _ _)
  · have hi2 : i < n + 1 := by simpa using hi
    have hpos2 : 0 < netN A i := by
      have e : (fnL (n + 1) (netN A)).getD i 0 = netN A i := by rw [List.getD_eq_getElem?_getD, fnL_get _ hi2]; rfl
      rw [e] at hpos
      exact of_decide_eq_true hpos
    have hmv := move_c n (by omega) A hJ (by omega) i (by omega) hpos2 _ g 0 ra A0.length none hNet
    (repeat' ((conv => whnf); first | refine Then.mk ?_ | left | refine OpsA.cons ?_ | refine OpsA.nil ?_ | refine AWq.seq ?_ | refine AWq.region ?_ | refine AWq.cond ?_ | refine AWq.block ?_ | refine AWq.skip ?_ | refine AWq.ret ?_ | refine AWq.exit ?_ | refine AWq.loop ?_ | refine DrawA.consD ?_ | refine DrawA.nil ?_ | refine AWq.draw (by decide +kernel) ?_ | (refine Both.mk ?_ ?_ <;> intro hc <;> (first | exact Bool.noConfusion hc | exact absurd (by with_reducible rfl) hc | (exfalso; omega) | skip)) | (intro c hc; (try (simp only [AH.none_iff] at hc; repeat (have hn := hc.1; replace hc := hc.2))); (first | (refine i64_k hc ?_ ?_ ?_ ; omega; omega; (clear hc; intro hc; subst hc)) | skip)) | (apply Exists.intro; apply And.intro; (first | (focus (repeat (first | (with_reducible assumption) | (with_reducible exact AH.set_same _ _ _) | ((first | refine AH.get_ne ?_ ?_); (first | (with_reducible assumption) | exact Ne.symm (by with_reducible assumption))))); done))) | (apply Exists.intro; apply And.intro; first | (with_reducible assumption) | ((try simp only [List.getElem?_drop, Nat.mul_one, Nat.add_zero, Nat.zero_add]); first | (with_reducible assumption) | rfl)) | (apply And.intro; (first | rfl | (with_reducible assumption) | exact Nat.le_of_ble_eq_true rfl | omega | (simp <;> omega) | (focus (repeat' (first | (with_reducible assumption) | rfl | apply one_take | apply one_drop)); done))))) <;> (try (conv => whnf))
    refine ACall.mono hmv ?_
    rintro y H' ⟨A', hJ', hlt, hal', rfl, rfl⟩
    (repeat' ((conv => whnf); first | refine Then.mk ?_ | left | refine OpsA.cons ?_ | refine OpsA.nil ?_ | refine AWq.seq ?_ | refine AWq.region ?_ | refine AWq.cond ?_ | refine AWq.block ?_ | refine AWq.skip ?_ | refine AWq.ret ?_ | refine AWq.exit ?_ | refine AWq.loop ?_ | refine DrawA.consD ?_ | refine DrawA.nil ?_ | refine AWq.draw (by decide +kernel) ?_ | (refine Both.mk ?_ ?_ <;> intro hc <;> (first | exact Bool.noConfusion hc | exact absurd (by with_reducible rfl) hc | (exfalso; omega) | skip)) | (intro c hc; (try (simp only [AH.none_iff] at hc; repeat (have hn := hc.1; replace hc := hc.2))); (first | (refine i64_k hc ?_ ?_ ?_ ; omega; omega; (clear hc; intro hc; subst hc)) | skip)) | (apply Exists.intro; apply And.intro; (first | (focus (repeat (first | (with_reducible assumption) | (with_reducible exact AH.set_same _ _ _) | ((first | refine AH.get_ne ?_ ?_); (first | (with_reducible assumption) | exact Ne.symm (by with_reducible assumption))))); done))) | (apply Exists.intro; apply And.intro; first | (with_reducible assumption) | ((try simp only [List.getElem?_drop, Nat.mul_one, Nat.add_zero, Nat.zero_add]); first | (with_reducible assumption) | rfl)) | (apply And.intro; (first | rfl | (with_reducible assumption) | exact Nat.le_of_ble_eq_true rfl | omega | (simp <;> omega) | (focus (repeat' (first | (with_reducible assumption) | rfl | apply one_take | apply one_drop)); done))))) <;> (try (conv => whnf))
    exact ⟨A', ⟨hJ', hal.trans hal'⟩, hlt, trivial, HLe.of_eq (AH.set_set _ _ _ _).symm⟩
/-- The same, with constants. -/
theorem ACall.cold3 {P : Program} {g : FuncId} {args : List AV} {H : AH} {K : AV → Prop} (h : ACall P g args H fun y H' => ∃ r1 r2 r3 v1 v2 v3 l1 l2 l3 c e, H r1 = none ∧ H r2 = none ∧ H r3 = none ∧ r1 ≠ r2 ∧ r1 ≠ r3 ∧ r2 ≠ r3 ∧
      y = .tup [.agg [.sl r1 v1 1 0 l1.length none, .sl r2 v2 1 0 l2.length none, .sl r3 v3 1 0 l3.length none, .int .i64 c], .int .i64 e] ∧ H' = ((H.set r1 (.row (iS .i64 l1) v1)).set r2 (.row (iS .i64 l2) v2)).set r3 (.row (iS .i64 l3) v3) ∧
      K (.tup [.agg [.cs (iS .i64 l1) l1.length, .cs (iS .i64 l2) l2.length, .cs (iS .i64 l3) l3.length, .int .i64 c], .int .i64 e])) :
    ACall P g args H fun y H' => K y ∧ H' = H := by
  refine ⟨h.ent, fun κ F B w0 w cargs hI hA => (h.run κ F B w0 w cargs hI hA).mono ?_⟩
  rintro x w' ⟨v, he, y, H', κ', F', k1, k2, I, hv, r1, r2, r3, v1, v2, v3, l1, l2, l3, c, e, hr1, hr2, hr3, n12, n13, n23, rfl, rfl, hK⟩
  obtain ⟨F1, hF1, I1, ha1⟩ := I.coolAll (r := r3) (v := v3) (cells := iS .i64 l3) (AH.set_same _ _ _)
  rw [AH.del_set _ _ _ (by rw [AH.set_ne _ _ (Ne.symm n23), AH.set_ne _ _ (Ne.symm n13)]; exact hr3)] at I1
  obtain ⟨F2, hF2, I2, ha2⟩ := I1.coolAll (r := r2) (v := v2) (cells := iS .i64 l2) (AH.set_same _ _ _)
  rw [AH.del_set _ _ _ (by rw [AH.set_ne _ _ (Ne.symm n12)]; exact hr2)] at I2
  obtain ⟨F3, hF3, I3, ha3⟩ := I2.coolAll (r := r1) (v := v1) (cells := iS .i64 l1) (AH.set_same _ _ _)
  rw [AH.del_set _ _ _ hr1] at I3
  refine ⟨v, he, _, H, κ', F3, k1, ((k2.trans hF1).trans hF2).trans hF3, I3, ?_, hK, rfl⟩
  cases hv with
  | tup hsz hi =>
    refine .tup hsz fun i hi' => ?_
    match i, hi' with
    | 0, _ =>
      have h0 := hi 0 (by simp)
      simp only [List.getElem_cons_zero] at h0 ⊢
      generalize Array.getD _ _ _ = x0 at h0 ⊢
      cases h0 with
      | agg hA hj =>
        refine .agg hA fun j hj' => ?_
        match j, hj' with
        | 0, _ => exact ha3 _ _ _ _ _ (by simp) (hj 0 (by simp))
        | 1, _ => exact (ha2 _ _ _ _ _ (by simp) (hj 1 (by simp))).mono (KLe.refl _) hF3
        | 2, _ => exact ((ha1 _ _ _ _ _ (by simp) (hj 2 (by simp))).mono (KLe.refl _) hF2).mono (KLe.refl _) hF3
        | 3, _ => have := hj 3 (by simp); simp only [List.getElem_cons_succ, List.getElem_cons_zero] at this ⊢; generalize Array.getD _ _ _ = x3 at this ⊢; cases this; exact .int _ _
    | 1, _ => have := hi 1 (by simp); simp only [List.getElem_cons_succ, List.getElem_cons_zero] at this ⊢; generalize Array.getD _ _ _ = x3 at this ⊢; cases this; exact .int _ _
theorem solve_c (n : Nat) (es : List Ed) (fs : List Fx) (hv : validV n es fs = 0) (H : AH) :
    ACall Try.prog 14 [.int .i64 n, .cs (edL es) es.length, .cs (fxL fs) fs.length] H (fun y H' => ∃ A d o, Sv n es fs A d o ∧ y = solV n es fs A d o ∧ H' = H) := by
  refine (ACall.cold3 (K := fun y => ∃ A d o, Sv n es fs A d o ∧ y = solV n es fs A d o) ((solve_s n es fs hv H).mono ?_)).mono fun y H' ⟨⟨A, d, o, h1, h2⟩, h3⟩ => ⟨A, d, o, h1, h2, h3⟩
  rintro y H' ⟨A, d, o, r1, r2, r3, v1, v2, v3, hSv, h1, h2, h3, n12, n13, n23, rfl, rfl⟩
  have hl := hSv.alk.len
  have hl0 : (net0 n es fs).length = es.length + fs.length := by unfold net0; simp
  have f4 : (flE es A).length = es.length := by unfold flE; rw [List.length_map, List.length_take]; omega
  have f5 : (flF es A).length = fs.length := by unfold flF; rw [List.length_map, List.length_drop]; omega
  refine ⟨r1, r2, r3, v1, v2, v3, fnL n (offS n d o), flE es A, flF es A, (costR es fs (fnL n (offS n d o))).1, 0, h1, h2, h3, n12, n13, n23, ?_, rfl, A, d, o, hSv, ?_⟩
  · rw [fnL_len, f4, f5]
  · rw [fnL_len, f4, f5]; rfl
end Go.Proofs.Ytebflkgpbbjhnaa
/- The walks of the reference's helpers: Around, Bound, Short, Few, Ints, SameInts, SameBytes; rows changed in one place. -/
namespace Go.Proofs.Ytebflkgpbbjhnaa
open Go.Fw Go
set_option linter.unusedVariables false
set_option linter.unusedSimpArgs false

set_option maxRecDepth 8000 in
theorem sameints_c (a b : List Int) (ha : a.length ≤ 1000000) (hb : b.length ≤ 1000000) (H : AH) :
    ACall Try.prog 31 [.cs (iS .i64 a) a.length, .cs (iS .i64 b) b.length] H (fun y H' => y = .bool (decide (a = b)) ∧ H' = H) := by
  refine ACall_of tt_ok (dok _) Try.func31 rfl (by decide) rfl ?_
  (repeat' ((conv => whnf); first | refine Then.mk ?_ | refine OpsA.cons ?_ | refine OpsA.nil ?_ | refine AWq.seq ?_ | refine AWq.region ?_ | refine AWq.cond ?_ | refine AWq.block ?_ | refine AWq.skip ?_ | refine AWq.ret ?_ | refine AWq.exit ?_ | refine AWq.loop ?_ | refine DrawA.consD ?_ | refine DrawA.nil ?_ | refine AWq.draw (by decide +kernel) ?_ | (refine Both.mk ?_ ?_ <;> intro hc <;> (first | exact Bool.noConfusion hc | skip)) | (intro c hc; (try (simp only [AH.none_iff] at hc; repeat (have hn := hc.1; replace hc := hc.2))); (first | (refine i64_k hc ?_ ?_ ?_ ; omega; omega; (clear hc; intro hc; subst hc)) | skip)) | (apply Exists.intro; apply And.intro; first | (with_reducible assumption) | ((try simp only [List.getElem?_drop, Nat.mul_one, Nat.add_zero, Nat.zero_add]); first | (with_reducible assumption) | (refine iS_get ?_; omega) | rfl)) | (apply And.intro; (first | rfl | (with_reducible assumption) | omega | (simp <;> omega))))) <;> (try (conv => whnf))
  · rename_i hne
    have : a ≠ b := fun e => hne (by rw [e])
    exact ⟨by rw [decide_eq_false this], rfl⟩
  · rename_i hl
    refine AWp_loop (σ := Nat) (4 :: 5 :: 11 :: 12 :: 13 :: 14 :: 15 :: 16 :: 17 :: 18 :: 19 :: 20 :: 21 :: 22 :: 23 :: 24 :: 25 :: []) (fun j => [(5, .int .i64 j)]) (fun _ => H) (fun j => j ≤ a.length ∧ ∀ i, i < j → a.getD i 0 = b.getD i 0) (fun j => a.length - j) 0 rfl ?_ ?_ ?_ ?_
    · exact ⟨Nat.zero_le _, fun i hi => absurd hi (Nat.not_lt_zero _)⟩
    · exact ⟨rfl, trivial⟩
    · exact HLe.refl _
    · rintro j ⟨hj, hs⟩
      refine AWp.of tt_ok (dok _) rfl ?_
      (repeat' ((conv => whnf); first | refine Then.mk ?_ | refine OpsA.cons ?_ | refine OpsA.nil ?_ | refine AWq.seq ?_ | refine AWq.region ?_ | refine AWq.cond ?_ | refine AWq.block ?_ | refine AWq.skip ?_ | refine AWq.ret ?_ | refine AWq.exit ?_ | refine AWq.loop ?_ | refine DrawA.consD ?_ | refine DrawA.nil ?_ | refine AWq.draw (by decide +kernel) ?_ | (refine Both.mk ?_ ?_ <;> intro hc <;> (first | exact Bool.noConfusion hc | skip)) | (intro c hc; (try (simp only [AH.none_iff] at hc; repeat (have hn := hc.1; replace hc := hc.2))); (first | (refine i64_k hc ?_ ?_ ?_ ; omega; omega; (clear hc; intro hc; subst hc)) | skip)) | (apply Exists.intro; apply And.intro; first | (with_reducible assumption) | ((try simp only [List.getElem?_drop, Nat.mul_one, Nat.add_zero, Nat.zero_add]); first | (with_reducible assumption) | (refine iS_get ?_; omega) | rfl)) | (apply And.intro; (first | rfl | (with_reducible assumption) | omega | (simp <;> omega))))) <;> (try (conv => whnf))
      · rename_i hd
        have : a ≠ b := fun e => hd (by rw [e])
        exact ⟨by rw [decide_eq_false this], rfl⟩
      · rename_i hd
        refine ⟨j + 1, ⟨by omega, fun i hi => ?_⟩, by omega, ⟨congrArg (AV.int .i64) (by omega), trivial⟩, HLe.refl _⟩
        by_cases h : i < j
        · exact hs i h
        · have : i = j := by omega
          rw [this]; simpa using hd
      · have : a = b := by
          apply List.ext_getElem (by omega)
          intro i h1 h2
          have := hs i (by omega)
          simpa [h1, h2] using this
        exact ⟨by rw [decide_eq_true this], rfl⟩

theorem wr_u8s {a : List UInt8} {k : Nat} {v : UInt8} (h : k < a.length) : wrA (u8s a) k [.int .u8 v.toNat] = u8s (a.set k v) := by
  unfold wrA
  rw [List.set_eq_take_append_cons_drop, if_pos h]
  simp [u8s, List.map_take, List.map_drop]

def aro (n : Int) (m : Nat) : Nat := ((if n < 0 then -(n + 1) else n).tmod m).toNat
theorem aro_lt {n : Int} {m : Nat} (hm : 1 ≤ m) : aro n m < m := by
  unfold aro
  have hlt : ∀ x : Int, 0 ≤ x → x.tmod m < m := fun x h => Int.tmod_lt_of_pos _ (by omega)
  have := hlt (if n < 0 then -(n + 1) else n) (by split <;> omega)
  omega

set_option maxRecDepth 8000 in
theorem around_f (n : Int) (h1 : -9223372036854775808 ≤ n) (h2 : n ≤ 9223372036854775807) (m : Nat) (hm : 1 ≤ m) (hm2 : m ≤ 1000000) (H : AH) :
    ACall Try.prog 11 [.int .i64 n, .int .i64 m] H (fun y H' => y = .int .i64 (aro n m) ∧ H' = H) := by
  unfold aro
  by_cases hn : n < 0
  · have hp : 0 ≤ (-(n + 1)).tmod m := Int.tmod_nonneg _ (by omega)
    rw [if_pos hn, Int.toNat_of_nonneg hp]
    refine ACall_of tt_ok (dok _) Try.func11 rfl (by decide) rfl ?_
    (repeat' ((conv => whnf); first | refine Then.mk ?_ | refine OpsA.cons ?_ | refine OpsA.nil ?_ | refine AWq.seq ?_ | refine AWq.region ?_ | refine AWq.cond ?_ | refine AWq.skip ?_ | refine AWq.ret ?_ | (refine Both.mk ?_ ?_ <;> intro hc <;> (first | exact Bool.noConfusion hc | exact absurd (by assumption) hc | exact absurd hc (by assumption) | skip)) | (intro c hc; (try (simp only [AH.none_iff] at hc; repeat (have hn := hc.1; replace hc := hc.2))); (first | (refine i64_k hc ?_ ?_ ?_ ; omega; omega; (clear hc; intro hc; subst hc)) | subst hc | skip)) | (apply And.intro; (first | rfl | omega | (simp <;> fail))))) <;> (try (conv => whnf))
  · have hp : 0 ≤ n.tmod m := Int.tmod_nonneg _ (by omega)
    rw [if_neg hn, Int.toNat_of_nonneg hp]
    refine ACall_of tt_ok (dok _) Try.func11 rfl (by decide) rfl ?_
    (repeat' ((conv => whnf); first | refine Then.mk ?_ | refine OpsA.cons ?_ | refine OpsA.nil ?_ | refine AWq.seq ?_ | refine AWq.region ?_ | refine AWq.cond ?_ | refine AWq.skip ?_ | refine AWq.ret ?_ | (refine Both.mk ?_ ?_ <;> intro hc <;> (first | exact Bool.noConfusion hc | exact absurd (by assumption) hc | exact absurd hc (by assumption) | skip)) | (intro c hc; (try (simp only [AH.none_iff] at hc; repeat (have hn := hc.1; replace hc := hc.2))); (first | (refine i64_k hc ?_ ?_ ?_ ; omega; omega; (clear hc; intro hc; subst hc)) | subst hc | skip)) | (apply And.intro; (first | rfl | omega | (simp <;> fail))))) <;> (try (conv => whnf))

end Go.Proofs.Ytebflkgpbbjhnaa
/- The walks of the reference: Bent. -/
namespace Go.Proofs.Ytebflkgpbbjhnaa
open Go.Fw Go
set_option linter.unusedVariables false
set_option linter.unusedSimpArgs false

theorem ACall.cold3A {P : Program} {g : FuncId} {args : List AV} {H : AH} {K : AV → Prop} (h : ACall P g args H fun y H' => ∃ r1 r2 r3 v1 v2 v3 l1 l2 l3 c, H r1 = none ∧ H r2 = none ∧ H r3 = none ∧ r1 ≠ r2 ∧ r1 ≠ r3 ∧ r2 ≠ r3 ∧
      y = .agg [.sl r1 v1 1 0 l1.length none, .sl r2 v2 1 0 l2.length none, .sl r3 v3 1 0 l3.length none, .int .i64 c] ∧ HLe (((H.set r1 (.row (iS .i64 l1) v1)).set r2 (.row (iS .i64 l2) v2)).set r3 (.row (iS .i64 l3) v3)) H' ∧
      K (.agg [.cs (iS .i64 l1) l1.length, .cs (iS .i64 l2) l2.length, .cs (iS .i64 l3) l3.length, .int .i64 c])) :
    ACall P g args H fun y H' => K y ∧ H' = H := by
  refine ⟨h.ent, fun κ F B w0 w cargs hI hA => (h.run κ F B w0 w cargs hI hA).mono ?_⟩
  rintro x w' ⟨v, he, y, H', κ', F', k1, k2, I, hv, r1, r2, r3, v1, v2, v3, l1, l2, l3, c, hr1, hr2, hr3, n12, n13, n23, rfl, hle, hK⟩
  have I := I.less hle.le
  obtain ⟨F1, hF1, I1, ha1⟩ := I.coolAll (r := r3) (v := v3) (cells := iS .i64 l3) (AH.set_same _ _ _)
  rw [AH.del_set _ _ _ (by rw [AH.set_ne _ _ (Ne.symm n23), AH.set_ne _ _ (Ne.symm n13)]; exact hr3)] at I1
  obtain ⟨F2, hF2, I2, ha2⟩ := I1.coolAll (r := r2) (v := v2) (cells := iS .i64 l2) (AH.set_same _ _ _)
  rw [AH.del_set _ _ _ (by rw [AH.set_ne _ _ (Ne.symm n12)]; exact hr2)] at I2
  obtain ⟨F3, hF3, I3, ha3⟩ := I2.coolAll (r := r1) (v := v1) (cells := iS .i64 l1) (AH.set_same _ _ _)
  rw [AH.del_set _ _ _ hr1] at I3
  refine ⟨v, he, _, H, κ', F3, k1, ((k2.trans hF1).trans hF2).trans hF3, I3, ?_, hK, rfl⟩
  cases hv with
  | agg hA hj =>
    refine .agg hA fun j hj' => ?_
    match j, hj' with
    | 0, _ => exact ha3 _ _ _ _ _ (by simp) (hj 0 (by simp))
    | 1, _ => exact (ha2 _ _ _ _ _ (by simp) (hj 1 (by simp))).mono (KLe.refl _) hF3
    | 2, _ => exact ((ha1 _ _ _ _ _ (by simp) (hj 2 (by simp))).mono (KLe.refl _) hF2).mono (KLe.refl _) hF3
    | 3, _ => have := hj 3 (by simp); simp only [List.getElem_cons_succ, List.getElem_cons_zero] at this ⊢; generalize Array.getD _ _ _ = x3 at this ⊢; cases this; exact .int _ _
def upV (q : Nat) (by' : Int) (L : List Int) : List Int := if 0 < L.length then L.set (q % L.length) (IntKind.i64.wrap (L.getD (q % L.length) 0 + by')) else L
theorem upV_len (q : Nat) (by' : Int) (L : List Int) : (upV q by' L).length = L.length := by unfold upV; split <;> simp
structure Sol where
  o : List Int
  e : List Int
  f : List Int
  c : Int
def Sol.av (s : Sol) : List AV := [.cs (iS .i64 s.o) s.o.length, .cs (iS .i64 s.e) s.e.length, .cs (iS .i64 s.f) s.f.length, .int .i64 s.c]
def bentV (at' by' : Int) (s : Sol) : Sol :=
  if aro at' 8 = 0 then ⟨s.o, s.e, s.f, IntKind.i64.wrap (s.c + by')⟩
  else if aro at' 8 = 1 ∨ aro at' 8 = 2 then ⟨upV (aro (IntKind.i64.wrap (at'.tdiv 8)) 1000) by' s.o, s.e, s.f, s.c⟩
  else if aro at' 8 = 3 then ⟨s.o, upV (aro (IntKind.i64.wrap (at'.tdiv 8)) 1000) by' s.e, s.f, s.c⟩
  else if aro at' 8 = 4 then ⟨s.o, s.e, upV (aro (IntKind.i64.wrap (at'.tdiv 8)) 1000) by' s.f, s.c⟩
  else if aro at' 8 = 5 then ⟨s.o, s.e ++ [0], s.f, s.c⟩
  else if aro at' 8 = 6 then ⟨s.o, s.e, s.f ++ [by'], s.c⟩
  else ⟨s.o ++ [by'], s.e, s.f, s.c⟩
theorem bentV_len (at' by' : Int) (s : Sol) : (bentV at' by' s).o.length ≤ s.o.length + 1 ∧ (bentV at' by' s).e.length ≤ s.e.length + 1 ∧ (bentV at' by' s).f.length ≤ s.f.length + 1 := by
  unfold bentV
  split
  · simp
  · split
    · simp [upV_len]
    · split
      · simp [upV_len]
      · split
        · simp [upV_len]
        · split
          · simp
          · split <;> simp
/-- A bent answer under way. -/
def bnH (F : AH) (r1 r2 r3 c u1 u2 u3 : Nat) (s : Sol) : AH :=
  (((F.set r1 (.row (iS .i64 s.o) u1)).set r2 (.row (iS .i64 s.e) u2)).set r3 (.row (iS .i64 s.f) u3)).set c (.row [.sl r1 u1 1 0 s.o.length none, .sl r2 u2 1 0 s.e.length none, .sl r3 u3 1 0 s.f.length none, .int .i64 s.c] 0)
theorem bnH_0 {F : AH} {r1 r2 r3 c : Nat} (D : AnD r1 r2 r3 c) (s : Sol) (o0 o o1 o2 : AO) :
    bnH F r1 r2 r3 c 0 0 0 s = (((((((F.set c o0).set c o).set r1 (.row (iS .i64 s.o) 0)).set c o1).set r2 (.row (iS .i64 s.e) 0)).set c o2).set r3 (.row (iS .i64 s.f) 0)).set c (.row [.sl r1 0 1 0 s.o.length none, .sl r2 0 1 0 s.e.length none, .sl r3 0 1 0 s.f.length none, .int .i64 s.c] 0) := by
  obtain ⟨b, a, x, c1, c2, c3⟩ := D
  unfold bnH
  rw [AH.set_set, set_in (Ne.symm c1), AH.set_set, set_in (Ne.symm c2), AH.set_set, set_in (Ne.symm c3), AH.set_set]
theorem bnH_r1 {F : AH} {r1 r2 r3 c : Nat} (D : AnD r1 r2 r3 c) (u1 u2 u3 v : Nat) (s : Sol) (O : List Int) (o : AO) (ho : o = .row [.sl r1 v 1 0 O.length none, .sl r2 u2 1 0 s.e.length none, .sl r3 u3 1 0 s.f.length none, .int .i64 s.c] 0) :
    ((bnH F r1 r2 r3 c u1 u2 u3 s).set r1 (.row (iS .i64 O) v)).set c o = bnH F r1 r2 r3 c v u2 u3 ⟨O, s.e, s.f, s.c⟩ := by
  obtain ⟨b, a, x, c1, c2, c3⟩ := D
  unfold bnH
  rw [ho, set_in (Ne.symm c1), AH.set_set, set_in (Ne.symm a), set_in (Ne.symm b), AH.set_set]
theorem bnH_r2 {F : AH} {r1 r2 r3 c : Nat} (D : AnD r1 r2 r3 c) (u1 u2 u3 v : Nat) (s : Sol) (E : List Int) (o : AO) (ho : o = .row [.sl r1 u1 1 0 s.o.length none, .sl r2 v 1 0 E.length none, .sl r3 u3 1 0 s.f.length none, .int .i64 s.c] 0) :
    ((bnH F r1 r2 r3 c u1 u2 u3 s).set r2 (.row (iS .i64 E) v)).set c o = bnH F r1 r2 r3 c u1 v u3 ⟨s.o, E, s.f, s.c⟩ := by
  obtain ⟨b, a, x, c1, c2, c3⟩ := D
  unfold bnH
  rw [ho, set_in (Ne.symm c2), AH.set_set, set_in (Ne.symm x), AH.set_set]
theorem bnH_r3 {F : AH} {r1 r2 r3 c : Nat} (D : AnD r1 r2 r3 c) (u1 u2 u3 v : Nat) (s : Sol) (E : List Int) (o : AO) (ho : o = .row [.sl r1 u1 1 0 s.o.length none, .sl r2 u2 1 0 s.e.length none, .sl r3 v 1 0 E.length none, .int .i64 s.c] 0) :
    ((bnH F r1 r2 r3 c u1 u2 u3 s).set r3 (.row (iS .i64 E) v)).set c o = bnH F r1 r2 r3 c u1 u2 v ⟨s.o, s.e, E, s.c⟩ := by
  obtain ⟨b, a, x, c1, c2, c3⟩ := D
  unfold bnH
  rw [ho, set_in (Ne.symm c3), AH.set_set, AH.set_set]
theorem bnH_at {F : AH} {r1 r2 r3 c : Nat} (D : AnD r1 r2 r3 c) (u1 u2 u3 : Nat) (s : Sol) :
    bnH F r1 r2 r3 c u1 u2 u3 s r1 = some (.row (iS .i64 s.o) u1) ∧ bnH F r1 r2 r3 c u1 u2 u3 s r2 = some (.row (iS .i64 s.e) u2) ∧ bnH F r1 r2 r3 c u1 u2 u3 s r3 = some (.row (iS .i64 s.f) u3) ∧ bnH F r1 r2 r3 c u1 u2 u3 s c = some (.row [.sl r1 u1 1 0 s.o.length none, .sl r2 u2 1 0 s.e.length none, .sl r3 u3 1 0 s.f.length none, .int .i64 s.c] 0) ∧ ∀ x, x ≠ r1 → x ≠ r2 → x ≠ r3 → x ≠ c → bnH F r1 r2 r3 c u1 u2 u3 s x = F x := by
  obtain ⟨b, a, x, c1, c2, c3⟩ := D
  unfold bnH
  refine ⟨?_, ?_, ?_, AH.set_same _ _ _, fun y h1 h2 h3 h4 => ?_⟩
  · rw [AH.set_ne _ _ c1, AH.set_ne _ _ a, AH.set_ne _ _ b, AH.set_same]
  · rw [AH.set_ne _ _ c2, AH.set_ne _ _ x, AH.set_same]
  · rw [AH.set_ne _ _ c3, AH.set_same]
  · rw [AH.set_ne _ _ h4, AH.set_ne _ _ h3, AH.set_ne _ _ h2, AH.set_ne _ _ h1]
set_option maxHeartbeats 4000000 in
set_option maxRecDepth 8000 in
theorem bent_c (s : Sol) (ho : s.o.length ≤ 100000) (he : s.e.length ≤ 100000) (hf : s.f.length ≤ 100000) (at' by' : Int) (hat : -9223372036854775808 ≤ at' ∧ at' ≤ 9223372036854775807) (hby : -9223372036854775808 ≤ by' ∧ by' ≤ 9223372036854775807) (H : AH) :
    ACall Try.prog 24 [.agg s.av, .int .i64 at', .int .i64 by'] H (fun y H' => y = .agg (bentV at' by' s).av ∧ H' = H) := by
  have ha8 : ∀ H, ACall Try.prog 11 [.int .i64 at', .int .i64 8] H (fun y H' => y = .int .i64 (aro at' 8) ∧ H' = H) := fun H => around_f at' hat.1 hat.2 8 (by decide) (by decide) H
  have h8 := aro_lt (n := at') (m := 8) (by decide)
  obtain ⟨q0, hq0⟩ : ∃ q : Int, q = IntKind.i64.wrap (at'.tdiv 8) := ⟨_, rfl⟩
  have hq0b : -9223372036854775808 ≤ q0 ∧ q0 ≤ 9223372036854775807 := by rw [hq0, IntKind.wrap_i64]; omega
  have hq : ∀ H, ACall Try.prog 11 [.int .i64 q0, .int .i64 1000] H (fun y H' => y = .int .i64 (aro q0 1000) ∧ H' = H) := fun H => around_f q0 hq0b.1 hq0b.2 1000 (by decide) (by decide) H
  refine ACall.cold3A ?_
  obtain ⟨t, ht⟩ : ∃ t, t = bentV at' by' s := ⟨_, rfl⟩
  rw [← ht]
  unfold bentV at ht
  rw [← hq0] at ht
  generalize aro q0 1000 = q at *
  generalize aro at' 8 = k at *
  rw [hq0] at hq
  obtain ⟨O, E, F, z⟩ := s
  dsimp only at ho he hf ht
  refine ACall_of tt_ok (dok _) Try.func24 rfl (by decide) rfl ?_
  (repeat' ((conv => whnf); first | left | refine OpsA.cons ?_ | refine OpsA.nil ?_ | refine AWq.seq ?_ | refine AWq.region ?_ | refine AWq.cond ?_ | refine AWq.block ?_ | refine AWq.skip ?_ | refine AWq.ret ?_ | refine DrawA.consD ?_ | refine DrawA.nil ?_ | refine AWq.draw (by decide +kernel) ?_ | (refine Both.mk ?_ ?_ <;> intro hc <;> (first | exact Bool.noConfusion hc | (exfalso; omega) | skip)) | (intro c hc; (try (simp only [AH.none_iff] at hc; repeat (have hn := hc.1; replace hc := hc.2))); (first | subst hc | skip)) | (apply Exists.intro; apply And.intro; (first | (focus (repeat (first | (with_reducible assumption) | (with_reducible exact AH.set_same _ _ _) | ((first | refine AH.get_ne ?_ ?_); (first | (with_reducible assumption) | exact Ne.symm (by with_reducible assumption))))); done))) | (apply Exists.intro; apply And.intro; first | (with_reducible assumption) | ((try simp only [List.getElem?_drop, Nat.mul_one, Nat.add_zero, Nat.zero_add]); first | (with_reducible assumption) | assumption | rfl)) | (apply And.intro; (first | rfl | (with_reducible assumption) | exact Nat.le_of_ble_eq_true rfl | omega | assumption | (simp <;> fail) | (simp <;> omega) | (focus (repeat' (first | (with_reducible assumption) | exact one_iS _ _ | rfl)); done))))) <;> (try (conv => whnf))
  (obtain ⟨c6, hq_⟩ : ∃ c6, c6 = c := ⟨_, rfl⟩); subst hq_
  have hc3 : H c = none := by assumption
  have hc6 : H c6 = none := hc
  refine Then.mk ?_
  (repeat' ((conv => whnf); first | left | refine OpsA.cons ?_ | refine OpsA.nil ?_ | refine AWq.seq ?_ | refine AWq.region ?_ | refine AWq.cond ?_ | refine AWq.block ?_ | refine AWq.skip ?_ | refine AWq.ret ?_ | refine DrawA.consD ?_ | refine DrawA.nil ?_ | refine AWq.draw (by decide +kernel) ?_ | (refine Both.mk ?_ ?_ <;> intro hc <;> (first | exact Bool.noConfusion hc | (exfalso; omega) | skip)) | (intro c hc; (try (simp only [AH.none_iff] at hc; repeat (have hn := hc.1; replace hc := hc.2))); (first | subst hc | skip)) | (apply Exists.intro; apply And.intro; (first | (focus (repeat (first | (with_reducible assumption) | (with_reducible exact AH.set_same _ _ _) | ((first | refine AH.get_ne ?_ ?_); (first | (with_reducible assumption) | exact Ne.symm (by with_reducible assumption))))); done))) | (apply Exists.intro; apply And.intro; first | (with_reducible assumption) | ((try simp only [List.getElem?_drop, Nat.mul_one, Nat.add_zero, Nat.zero_add]); first | (with_reducible assumption) | assumption | rfl)) | (apply And.intro; (first | rfl | (with_reducible assumption) | exact Nat.le_of_ble_eq_true rfl | omega | assumption | (simp <;> fail) | (simp <;> omega) | (focus (repeat' (first | (with_reducible assumption) | exact one_iS _ _ | rfl)); done))))) <;> (try (conv => whnf))
  (obtain ⟨c7, hq_⟩ : ∃ c7, c7 = c := ⟨_, rfl⟩); subst hq_
  have hc7 : H c7 = none := hc
  refine Then.mk ?_
  (repeat' ((conv => whnf); first | left | refine OpsA.cons ?_ | refine OpsA.nil ?_ | refine AWq.seq ?_ | refine AWq.region ?_ | refine AWq.cond ?_ | refine AWq.block ?_ | refine AWq.skip ?_ | refine AWq.ret ?_ | refine DrawA.consD ?_ | refine DrawA.nil ?_ | refine AWq.draw (by decide +kernel) ?_ | (refine Both.mk ?_ ?_ <;> intro hc <;> (first | exact Bool.noConfusion hc | (exfalso; omega) | skip)) | (intro c hc; (try (simp only [AH.none_iff] at hc; repeat (have hn := hc.1; replace hc := hc.2))); (first | subst hc | skip)) | (apply Exists.intro; apply And.intro; (first | (focus (repeat (first | (with_reducible assumption) | (with_reducible exact AH.set_same _ _ _) | ((first | refine AH.get_ne ?_ ?_); (first | (with_reducible assumption) | exact Ne.symm (by with_reducible assumption))))); done))) | (apply Exists.intro; apply And.intro; first | (with_reducible assumption) | ((try simp only [List.getElem?_drop, Nat.mul_one, Nat.add_zero, Nat.zero_add]); first | (with_reducible assumption) | assumption | rfl)) | (apply And.intro; (first | rfl | (with_reducible assumption) | exact Nat.le_of_ble_eq_true rfl | omega | assumption | (simp <;> fail) | (simp <;> omega) | (focus (repeat' (first | (with_reducible assumption) | exact one_iS _ _ | rfl)); done))))) <;> (try (conv => whnf))
  (obtain ⟨r1, hq_⟩ : ∃ r1, r1 = c := ⟨_, rfl⟩); subst hq_
  have h1 : H r1 = none := hc
  refine Then.mk ?_
  (repeat' ((conv => whnf); first | left | refine OpsA.cons ?_ | refine OpsA.nil ?_ | refine AWq.seq ?_ | refine AWq.region ?_ | refine AWq.cond ?_ | refine AWq.block ?_ | refine AWq.skip ?_ | refine AWq.ret ?_ | refine DrawA.consD ?_ | refine DrawA.nil ?_ | refine AWq.draw (by decide +kernel) ?_ | (refine Both.mk ?_ ?_ <;> intro hc <;> (first | exact Bool.noConfusion hc | (exfalso; omega) | skip)) | (intro c hc; (try (simp only [AH.none_iff] at hc; repeat (have hn := hc.1; replace hc := hc.2))); (first | subst hc | skip)) | (apply Exists.intro; apply And.intro; (first | (focus (repeat (first | (with_reducible assumption) | (with_reducible exact AH.set_same _ _ _) | ((first | refine AH.get_ne ?_ ?_); (first | (with_reducible assumption) | exact Ne.symm (by with_reducible assumption))))); done))) | (apply Exists.intro; apply And.intro; first | (with_reducible assumption) | ((try simp only [List.getElem?_drop, Nat.mul_one, Nat.add_zero, Nat.zero_add]); first | (with_reducible assumption) | assumption | rfl)) | (apply And.intro; (first | rfl | (with_reducible assumption) | exact Nat.le_of_ble_eq_true rfl | omega | assumption | (simp <;> fail) | (simp <;> omega) | (focus (repeat' (first | (with_reducible assumption) | exact one_iS _ _ | rfl)); done))))) <;> (try (conv => whnf))
  (obtain ⟨r2, hq_⟩ : ∃ r2, r2 = c := ⟨_, rfl⟩); subst hq_
  have h2 : H r2 = none := hc
  refine Then.mk ?_
  (repeat' ((conv => whnf); first | left | refine OpsA.cons ?_ | refine OpsA.nil ?_ | refine AWq.seq ?_ | refine AWq.region ?_ | refine AWq.cond ?_ | refine AWq.block ?_ | refine AWq.skip ?_ | refine AWq.ret ?_ | refine DrawA.consD ?_ | refine DrawA.nil ?_ | refine AWq.draw (by decide +kernel) ?_ | (refine Both.mk ?_ ?_ <;> intro hc <;> (first | exact Bool.noConfusion hc | (exfalso; omega) | skip)) | (intro c hc; (try (simp only [AH.none_iff] at hc; repeat (have hn := hc.1; replace hc := hc.2))); (first | subst hc | skip)) | (apply Exists.intro; apply And.intro; (first | (focus (repeat (first | (with_reducible assumption) | (with_reducible exact AH.set_same _ _ _) | ((first | refine AH.get_ne ?_ ?_); (first | (with_reducible assumption) | exact Ne.symm (by with_reducible assumption))))); done))) | (apply Exists.intro; apply And.intro; first | (with_reducible assumption) | ((try simp only [List.getElem?_drop, Nat.mul_one, Nat.add_zero, Nat.zero_add]); first | (with_reducible assumption) | assumption | rfl)) | (apply And.intro; (first | rfl | (with_reducible assumption) | exact Nat.le_of_ble_eq_true rfl | omega | assumption | (simp <;> fail) | (simp <;> omega) | (focus (repeat' (first | (with_reducible assumption) | exact one_iS _ _ | rfl)); done))))) <;> (try (conv => whnf))
  (obtain ⟨r3, hq_⟩ : ∃ r3, r3 = c := ⟨_, rfl⟩); subst hq_
  have h3 : H r3 = none := hc
  refine Then.mk (AWq.in ?_)
  have D : AnD r1 r2 r3 c7 := ⟨by (first | assumption | omega), by (first | assumption | omega), by (first | assumption | omega), by (first | assumption | omega), by (first | assumption | omega), by (first | assumption | omega)⟩
  obtain ⟨G, hG⟩ : ∃ G, G = (H.set c (.row (Sol.av ⟨O, E, F, z⟩) 0)).set c6 (.row [.nils, .nils, .nils, .int .i64 0] 0) := ⟨_, rfl⟩
  refine AWp_less (bnH G r1 r2 r3 c7 0 0 0 ⟨O, E, F, z⟩) (HLe.of_eq ?_) ?_
  · rw [bnH_0 D ⟨O, E, F, z⟩ (.row [.nils, .nils, .nils, .int .i64 0] 0) (.row [.nils, .nils, .nils, .int .i64 z] 0) (.row [.sl r1 0 1 0 O.length none, .nils, .nils, .int .i64 z] 0) (.row [.sl r1 0 1 0 O.length none, .sl r2 0 1 0 E.length none, .nils, .int .i64 z] 0), hG]
    rfl
  refine AWp.of tt_ok (dok _) rfl ?_
  have hGH : HLe H G := by rw [hG]; exact HLe.trans (HLe.fresh _ hc3) (HLe.fresh _ (by (first | (focus (repeat (first | (with_reducible assumption) | (with_reducible exact AH.set_same _ _ _) | ((first | refine AH.get_ne ?_ ?_); (first | (with_reducible assumption) | exact Ne.symm (by with_reducible assumption))))); done))))
  have hG6 : G c6 = some (.row [.nils, .nils, .nils, .int .i64 0] 0) := by rw [hG]; exact AH.set_same _ _ _
  have hG7 : G c7 = none := by rw [hG]; (first | (focus (repeat (first | (with_reducible assumption) | (with_reducible exact AH.set_same _ _ _) | ((first | refine AH.get_ne ?_ ?_); (first | (with_reducible assumption) | exact Ne.symm (by with_reducible assumption))))); done))
  have n67 : c6 ≠ c7 := by (first | assumption | omega | exact Ne.symm (by assumption) | exact AH.ne_none (by assumption) (by assumption) | exact AH.none_ne (by assumption) (by assumption) | exact (AH.none_set (by assumption)).1 | exact Ne.symm (AH.none_set (by assumption)).1)
  have n61 : c6 ≠ r1 := by (first | assumption | omega | exact Ne.symm (by assumption) | exact AH.ne_none (by assumption) (by assumption) | exact AH.none_ne (by assumption) (by assumption) | exact (AH.none_set (by assumption)).1 | exact Ne.symm (AH.none_set (by assumption)).1)
  have n62 : c6 ≠ r2 := by (first | assumption | omega | exact Ne.symm (by assumption) | exact AH.ne_none (by assumption) (by assumption) | exact AH.none_ne (by assumption) (by assumption) | exact (AH.none_set (by assumption)).1 | exact Ne.symm (AH.none_set (by assumption)).1)
  have n63 : c6 ≠ r3 := by (first | assumption | omega | exact Ne.symm (by assumption) | exact AH.ne_none (by assumption) (by assumption) | exact AH.none_ne (by assumption) (by assumption) | exact (AH.none_set (by assumption)).1 | exact Ne.symm (AH.none_set (by assumption)).1)
  clear hG hn
  have fin : ∀ (t : Sol) n1 n2 n3 u1 u2 u3 o H', n1 = t.o.length → n2 = t.e.length → n3 = t.f.length → (bnH G r1 r2 r3 c7 u1 u2 u3 t).set c6 o = H' → ∃ q1 q2 q3 v1 v2 v3 l1 l2 l3 c, H q1 = none ∧ H q2 = none ∧ H q3 = none ∧ q1 ≠ q2 ∧ q1 ≠ q3 ∧ q2 ≠ q3 ∧
      AV.agg [.sl r1 u1 1 0 n1 none, .sl r2 u2 1 0 n2 none, .sl r3 u3 1 0 n3 none, .int .i64 t.c] = .agg [.sl q1 v1 1 0 l1.length none, .sl q2 v2 1 0 l2.length none, .sl q3 v3 1 0 l3.length none, .int .i64 c] ∧ HLe (((H.set q1 (.row (iS .i64 l1) v1)).set q2 (.row (iS .i64 l2) v2)).set q3 (.row (iS .i64 l3) v3)) H' ∧
      AV.agg [.cs (iS .i64 l1) l1.length, .cs (iS .i64 l2) l2.length, .cs (iS .i64 l3) l3.length, .int .i64 c] = .agg t.av :=
    fun t n1 n2 n3 u1 u2 u3 o H' e1 e2 e3 hH => ⟨r1, r2, r3, u1, u2, u3, t.o, t.e, t.f, t.c, h1, h2, h3, D.b, D.a, D.x, by rw [e1, e2, e3], by
      rw [← hH]
      unfold bnH
      refine HLe.set_of _ _ (HLe.trans (HLe.set (HLe.set (HLe.set hGH _ _) _ _) _ _) (HLe.fresh _ ?_)) ?_
      · rw [AH.set_ne _ _ (Ne.symm D.c3), AH.set_ne _ _ (Ne.symm D.c2), AH.set_ne _ _ (Ne.symm D.c1)]; exact hG7
      · rw [AH.set_ne _ _ n63, AH.set_ne _ _ n62, AH.set_ne _ _ n61]; exact hc6, rfl⟩
  obtain ⟨b1, b2, b3, b7, b0⟩ := bnH_at (F := G) D 0 0 0 ⟨O, E, F, z⟩
  have b6 := (b0 c6 n61 n62 n63 n67).trans hG6
  have x1 := fun v L o ho => bnH_r1 (F := G) D 0 0 0 v ⟨O, E, F, z⟩ L o ho
  have x2 := fun v L o ho => bnH_r2 (F := G) D 0 0 0 v ⟨O, E, F, z⟩ L o ho
  have x3 := fun v L o ho => bnH_r3 (F := G) D 0 0 0 v ⟨O, E, F, z⟩ L o ho
  have x0 : ∀ c, (bnH G r1 r2 r3 c7 0 0 0 ⟨O, E, F, z⟩).set c7 (.row [.sl r1 0 1 0 O.length none, .sl r2 0 1 0 E.length none, .sl r3 0 1 0 F.length none, .int .i64 c] 0) = bnH G r1 r2 r3 c7 0 0 0 ⟨O, E, F, c⟩ := fun c => AH.set_set _ _ _ _
  dsimp only at b1 b2 b3 b7 x0 x1 x2 x3
  have f0 := fun t' (ht : t = t') (B : AH) n1 n2 n3 u1 u2 u3 o H' e1 e2 e3 (hB : bnH G r1 r2 r3 c7 u1 u2 u3 t' = B) hH => fin t' n1 n2 n3 u1 u2 u3 o H' e1 e2 e3 (hB ▸ hH)
  have y1 : ∀ O', O'.length = O.length → (bnH G r1 r2 r3 c7 0 0 0 ⟨O, E, F, z⟩).set r1 (.row (iS .i64 O') 0) = bnH G r1 r2 r3 c7 0 0 0 ⟨O', E, F, z⟩ := fun O' h => by
    refine Eq.trans (AH.set_id ?_).symm (x1 0 O' _ rfl)
    rw [AH.set_ne _ _ (Ne.symm D.c1), b7, h]
  have y2 : ∀ E', E'.length = E.length → (bnH G r1 r2 r3 c7 0 0 0 ⟨O, E, F, z⟩).set r2 (.row (iS .i64 E') 0) = bnH G r1 r2 r3 c7 0 0 0 ⟨O, E', F, z⟩ := fun E' h => by
    refine Eq.trans (AH.set_id ?_).symm (x2 0 E' _ rfl)
    rw [AH.set_ne _ _ (Ne.symm D.c2), b7, h]
  have y3 : ∀ F', F'.length = F.length → (bnH G r1 r2 r3 c7 0 0 0 ⟨O, E, F, z⟩).set r3 (.row (iS .i64 F') 0) = bnH G r1 r2 r3 c7 0 0 0 ⟨O, E, F', z⟩ := fun F' h => by
    refine Eq.trans (AH.set_id ?_).symm (x3 0 F' _ rfl)
    rw [AH.set_ne _ _ (Ne.symm D.c3), b7, h]
  have up : ∀ L : List Int, ¬ L.length = 0 → ((iS .i64 L)[((q : Int).tmod (L.length : Int)).toNat]? = some (.int .i64 (L.getD (q % L.length) 0))) ∧ wrA (iS .i64 L) (0 + ((q : Int).tmod (L.length : Int)).toNat * 1) [.int .i64 (IntKind.i64.wrap (L.getD (q % L.length) 0 + by'))] = iS .i64 (upV q by' L) ∧ 0 ≤ (q : Int).tmod (L.length : Int) ∧ (q : Int).tmod (L.length : Int) < L.length := fun L hL => by
    have e : (q : Int).tmod (L.length : Int) = ((q % L.length : Nat) : Int) := rfl
    have hj := Nat.mod_lt q (show 0 < L.length by omega)
    rw [e, Int.toNat_natCast]
    refine ⟨?_, ?_, by omega, by omega⟩
    · unfold iS
      rw [List.getElem?_map, List.getElem?_eq_getElem hj, List.getD_eq_getElem?_getD, List.getElem?_eq_getElem hj]; rfl
    · rw [show 0 + q % L.length * 1 = q % L.length by omega, iS_wr1 hj]
      unfold upV
      rw [if_pos (by omega)]
  have up0 : ∀ L : List Int, L.length = 0 → upV q by' L = L := fun L h => by unfold upV; rw [if_neg (by omega)]
  have l1 := iS_length .i64 O
  have l2 := iS_length .i64 E
  have l3 := iS_length .i64 F
  generalize hB : bnH G r1 r2 r3 c7 0 0 0 ⟨O, E, F, z⟩ = B at *
  rcases (show k = 0 ∨ k = 1 ∨ k = 2 ∨ k = 3 ∨ k = 4 ∨ k = 5 ∨ k = 6 ∨ k = 7 by omega) with rfl | rfl | rfl | rfl | rfl | rfl | rfl | rfl
  · have ht1 : t = ⟨O, E, F, IntKind.i64.wrap (z + by')⟩ := ht
    subst ht1
    (repeat' ((conv => whnf); first | refine Then.mk ?_ | left | refine OpsA.cons ?_ | refine OpsA.nil ?_ | refine AWq.seq ?_ | refine AWq.region ?_ | refine AWq.cond ?_ | refine AWq.block ?_ | refine AWq.skip ?_ | refine AWq.ret ?_ | refine DrawA.consD ?_ | refine DrawA.nil ?_ | refine AWq.draw (by decide +kernel) ?_ | (refine Both.mk ?_ ?_ <;> intro hc <;> (first | exact Bool.noConfusion hc | (exfalso; omega) | skip)) | (intro c hc; (try (simp only [AH.none_iff] at hc; repeat (have hn := hc.1; replace hc := hc.2))); (first | subst hc | skip)) | (apply Exists.intro; apply And.intro; (first | (focus (repeat (first | (with_reducible assumption) | (with_reducible exact AH.set_same _ _ _) | ((first | refine AH.get_ne ?_ ?_); (first | (with_reducible assumption) | exact Ne.symm (by with_reducible assumption))))); done))) | (apply Exists.intro; apply And.intro; first | (with_reducible assumption) | ((try simp only [List.getElem?_drop, Nat.mul_one, Nat.add_zero, Nat.zero_add]); first | (with_reducible assumption) | assumption | rfl)) | (apply And.intro; (first | rfl | (with_reducible assumption) | exact Nat.le_of_ble_eq_true rfl | omega | assumption | (simp <;> fail) | (simp <;> omega) | (focus (repeat' (first | (with_reducible assumption) | exact one_iS _ _ | rfl)); done))) | (refine ACall.to (ha8 _) ?_) | (refine ACall.to (hq _) ?_))) <;> (try (conv => whnf))
    exact f0 _ rfl _ _ _ _ 0 0 0 _ _ rfl rfl rfl (x0 _).symm rfl
  · have ht1 : t = ⟨upV q by' O, E, F, z⟩ := ht
    subst ht1
    by_cases hL : O.length = 0
    · rw [up0 O hL] at f0 ⊢
      (repeat' ((conv => whnf); first | refine Then.mk ?_ | left | refine OpsA.cons ?_ | refine OpsA.nil ?_ | refine AWq.seq ?_ | refine AWq.region ?_ | refine AWq.cond ?_ | refine AWq.block ?_ | refine AWq.skip ?_ | refine AWq.ret ?_ | refine DrawA.consD ?_ | refine DrawA.nil ?_ | refine AWq.draw (by decide +kernel) ?_ | (refine Both.mk ?_ ?_ <;> intro hc <;> (first | exact Bool.noConfusion hc | (exfalso; omega) | skip)) | (intro c hc; (try (simp only [AH.none_iff] at hc; repeat (have hn := hc.1; replace hc := hc.2))); (first | subst hc | skip)) | (apply Exists.intro; apply And.intro; (first | (focus (repeat (first | (with_reducible assumption) | (with_reducible exact AH.set_same _ _ _) | ((first | refine AH.get_ne ?_ ?_); (first | (with_reducible assumption) | exact Ne.symm (by with_reducible assumption))))); done))) | (apply Exists.intro; apply And.intro; first | (with_reducible assumption) | ((try simp only [List.getElem?_drop, Nat.mul_one, Nat.add_zero, Nat.zero_add]); first | (with_reducible assumption) | assumption | rfl)) | (apply And.intro; (first | rfl | (with_reducible assumption) | exact Nat.le_of_ble_eq_true rfl | omega | assumption | (simp <;> fail) | (simp <;> omega) | (focus (repeat' (first | (with_reducible assumption) | exact one_iS _ _ | rfl)); done))) | (refine ACall.to (ha8 _) ?_) | (refine ACall.to (hq _) ?_))) <;> (try (conv => whnf))
      exact f0 _ rfl _ _ _ _ 0 0 0 _ _ rfl rfl rfl hB rfl
    · obtain ⟨g, w, m0, m1⟩ := up O hL
      have hl := upV_len q by' O
      have hy := y1 (upV q by' O) hl
      rw [← w] at hy
      (repeat' ((conv => whnf); first | refine Then.mk ?_ | left | refine OpsA.cons ?_ | refine OpsA.nil ?_ | refine AWq.seq ?_ | refine AWq.region ?_ | refine AWq.cond ?_ | refine AWq.block ?_ | refine AWq.skip ?_ | refine AWq.ret ?_ | refine DrawA.consD ?_ | refine DrawA.nil ?_ | refine AWq.draw (by decide +kernel) ?_ | (refine Both.mk ?_ ?_ <;> intro hc <;> (first | exact Bool.noConfusion hc | (exfalso; omega) | skip)) | (intro c hc; (try (simp only [AH.none_iff] at hc; repeat (have hn := hc.1; replace hc := hc.2))); (first | subst hc | skip)) | (apply Exists.intro; apply And.intro; (first | (focus (repeat (first | (with_reducible assumption) | (with_reducible exact AH.set_same _ _ _) | ((first | refine AH.get_ne ?_ ?_); (first | (with_reducible assumption) | exact Ne.symm (by with_reducible assumption))))); done))) | (apply Exists.intro; apply And.intro; first | (with_reducible assumption) | ((try simp only [List.getElem?_drop, Nat.mul_one, Nat.add_zero, Nat.zero_add]); first | (with_reducible assumption) | assumption | rfl)) | (apply And.intro; (first | rfl | (with_reducible assumption) | exact Nat.le_of_ble_eq_true rfl | omega | assumption | (simp <;> fail) | (simp <;> omega) | (focus (repeat' (first | (with_reducible assumption) | exact one_iS _ _ | rfl)); done))) | (refine ACall.to (ha8 _) ?_) | (refine ACall.to (hq _) ?_))) <;> (try (conv => whnf))
      exact f0 _ rfl _ _ _ _ 0 0 0 _ _ hl.symm rfl rfl hy.symm rfl
  · have ht1 : t = ⟨upV q by' O, E, F, z⟩ := ht
    subst ht1
    by_cases hL : O.length = 0
    · rw [up0 O hL] at f0 ⊢
      (repeat' ((conv => whnf); first | refine Then.mk ?_ | left | refine OpsA.cons ?_ | refine OpsA.nil ?_ | refine AWq.seq ?_ | refine AWq.region ?_ | refine AWq.cond ?_ | refine AWq.block ?_ | refine AWq.skip ?_ | refine AWq.ret ?_ | refine DrawA.consD ?_ | refine DrawA.nil ?_ | refine AWq.draw (by decide +kernel) ?_ | (refine Both.mk ?_ ?_ <;> intro hc <;> (first | exact Bool.noConfusion hc | (exfalso; omega) | skip)) | (intro c hc; (try (simp only [AH.none_iff] at hc; repeat (have hn := hc.1; replace hc := hc.2))); (first | subst hc | skip)) | (apply Exists.intro; apply And.intro; (first | (focus (repeat (first | (with_reducible assumption) | (with_reducible exact AH.set_same _ _ _) | ((first | refine AH.get_ne ?_ ?_); (first | (with_reducible assumption) | exact Ne.symm (by with_reducible assumption))))); done))) | (apply Exists.intro; apply And.intro; first | (with_reducible assumption) | ((try simp only [List.getElem?_drop, Nat.mul_one, Nat.add_zero, Nat.zero_add]); first | (with_reducible assumption) | assumption | rfl)) | (apply And.intro; (first | rfl | (with_reducible assumption) | exact Nat.le_of_ble_eq_true rfl | omega | assumption | (simp <;> fail) | (simp <;> omega) | (focus (repeat' (first | (with_reducible assumption) | exact one_iS _ _ | rfl)); done))) | (refine ACall.to (ha8 _) ?_) | (refine ACall.to (hq _) ?_))) <;> (try (conv => whnf))
      exact f0 _ rfl _ _ _ _ 0 0 0 _ _ rfl rfl rfl hB rfl
    · obtain ⟨g, w, m0, m1⟩ := up O hL
      have hl := upV_len q by' O
      have hy := y1 (upV q by' O) hl
      rw [← w] at hy
      (repeat' ((conv => whnf); first | refine Then.mk ?_ | left | refine OpsA.cons ?_ | refine OpsA.nil ?_ | refine AWq.seq ?_ | refine AWq.region ?_ | refine AWq.cond ?_ | refine AWq.block ?_ | refine AWq.skip ?_ | refine AWq.ret ?_ | refine DrawA.consD ?_ | refine DrawA.nil ?_ | refine AWq.draw (by decide +kernel) ?_ | (refine Both.mk ?_ ?_ <;> intro hc <;> (first | exact Bool.noConfusion hc | (exfalso; omega) | skip)) | (intro c hc; (try (simp only [AH.none_iff] at hc; repeat (have hn := hc.1; replace hc := hc.2))); (first | subst hc | skip)) | (apply Exists.intro; apply And.intro; (first | (focus (repeat (first | (with_reducible assumption) | (with_reducible exact AH.set_same _ _ _) | ((first | refine AH.get_ne ?_ ?_); (first | (with_reducible assumption) | exact Ne.symm (by with_reducible assumption))))); done))) | (apply Exists.intro; apply And.intro; first | (with_reducible assumption) | ((try simp only [List.getElem?_drop, Nat.mul_one, Nat.add_zero, Nat.zero_add]); first | (with_reducible assumption) | assumption | rfl)) | (apply And.intro; (first | rfl | (with_reducible assumption) | exact Nat.le_of_ble_eq_true rfl | omega | assumption | (simp <;> fail) | (simp <;> omega) | (focus (repeat' (first | (with_reducible assumption) | exact one_iS _ _ | rfl)); done))) | (refine ACall.to (ha8 _) ?_) | (refine ACall.to (hq _) ?_))) <;> (try (conv => whnf))
      exact f0 _ rfl _ _ _ _ 0 0 0 _ _ hl.symm rfl rfl hy.symm rfl
  · have ht1 : t = ⟨O, upV q by' E, F, z⟩ := ht
    subst ht1
    by_cases hL : E.length = 0
    · rw [up0 E hL] at f0 ⊢
      (repeat' ((conv => whnf); first | refine Then.mk ?_ | left | refine OpsA.cons ?_ | refine OpsA.nil ?_ | refine AWq.seq ?_ | refine AWq.region ?_ | refine AWq.cond ?_ | refine AWq.block ?_ | refine AWq.skip ?_ | refine AWq.ret ?_ | refine DrawA.consD ?_ | refine DrawA.nil ?_ | refine AWq.draw (by decide +kernel) ?_ | (refine Both.mk ?_ ?_ <;> intro hc <;> (first | exact Bool.noConfusion hc | (exfalso; omega) | skip)) | (intro c hc; (try (simp only [AH.none_iff] at hc; repeat (have hn := hc.1; replace hc := hc.2))); (first | subst hc | skip)) | (apply Exists.intro; apply And.intro; (first | (focus (repeat (first | (with_reducible assumption) | (with_reducible exact AH.set_same _ _ _) | ((first | refine AH.get_ne ?_ ?_); (first | (with_reducible assumption) | exact Ne.symm (by with_reducible assumption))))); done))) | (apply Exists.intro; apply And.intro; first | (with_reducible assumption) | ((try simp only [List.getElem?_drop, Nat.mul_one, Nat.add_zero, Nat.zero_add]); first | (with_reducible assumption) | assumption | rfl)) | (apply And.intro; (first | rfl | (with_reducible assumption) | exact Nat.le_of_ble_eq_true rfl | omega | assumption | (simp <;> fail) | (simp <;> omega) | (focus (repeat' (first | (with_reducible assumption) | exact one_iS _ _ | rfl)); done))) | (refine ACall.to (ha8 _) ?_) | (refine ACall.to (hq _) ?_))) <;> (try (conv => whnf))
      exact f0 _ rfl _ _ _ _ 0 0 0 _ _ rfl rfl rfl hB rfl
    · obtain ⟨g, w, m0, m1⟩ := up E hL
      have hl := upV_len q by' E
      have hy := y2 (upV q by' E) hl
      rw [← w] at hy
      (repeat' ((conv => whnf); first | refine Then.mk ?_ | left | refine OpsA.cons ?_ | refine OpsA.nil ?_ | refine AWq.seq ?_ | refine AWq.region ?_ | refine AWq.cond ?_ | refine AWq.block ?_ | refine AWq.skip ?_ | refine AWq.ret ?_ | refine DrawA.consD ?_ | refine DrawA.nil ?_ | refine AWq.draw (by decide +kernel) ?_ | (refine Both.mk ?_ ?_ <;> intro hc <;> (first | exact Bool.noConfusion hc | (exfalso; omega) | skip)) | (intro c hc; (try (simp only [AH.none_iff] at hc; repeat (have hn := hc.1; replace hc := hc.2))); (first | subst hc | skip)) | (apply Exists.intro; apply And.intro; (first | (focus (repeat (first | (with_reducible assumption) | (with_reducible exact AH.set_same _ _ _) | ((first | refine AH.get_ne ?_ ?_); (first | (with_reducible assumption) | exact Ne.symm (by with_reducible assumption))))); done))) | (apply Exists.intro; apply And.intro; first | (with_reducible assumption) | ((try simp only [List.getElem?_drop, Nat.mul_one, Nat.add_zero, Nat.zero_add]); first | (with_reducible assumption) | assumption | rfl)) | (apply And.intro; (first | rfl | (with_reducible assumption) | exact Nat.le_of_ble_eq_true rfl | omega | assumption | (simp <;> fail) | (simp <;> omega) | (focus (repeat' (first | (with_reducible assumption) | exact one_iS _ _ | rfl)); done))) | (refine ACall.to (ha8 _) ?_) | (refine ACall.to (hq _) ?_))) <;> (try (conv => whnf))
      exact f0 _ rfl _ _ _ _ 0 0 0 _ _ rfl hl.symm rfl hy.symm rfl
  · have ht1 : t = ⟨O, E, upV q by' F, z⟩ := ht
    subst ht1
    by_cases hL : F.length = 0
    · rw [up0 F hL] at f0 ⊢
      (repeat' ((conv => whnf); first | refine Then.mk ?_ | left | refine OpsA.cons ?_ | refine OpsA.nil ?_ | refine AWq.seq ?_ | refine AWq.region ?_ | refine AWq.cond ?_ | refine AWq.block ?_ | refine AWq.skip ?_ | refine AWq.ret ?_ | refine DrawA.consD ?_ | refine DrawA.nil ?_ | refine AWq.draw (by decide +kernel) ?_ | (refine Both.mk ?_ ?_ <;> intro hc <;> (first | exact Bool.noConfusion hc | (exfalso; omega) | skip)) | (intro c hc; (try (simp only [AH.none_iff] at hc; repeat (have hn := hc.1; replace hc := hc.2))); (first | subst hc | skip)) | (apply Exists.intro; apply And.intro; (first | (focus (repeat (first | (with_reducible assumption) | (with_reducible exact AH.set_same _ _ _) | ((first | refine AH.get_ne ?_ ?_); (first | (with_reducible assumption) | exact Ne.symm (by with_reducible assumption))))); done))) | (apply Exists.intro; apply And.intro; first | (with_reducible assumption) | ((try simp only [List.getElem?_drop, Nat.mul_one, Nat.add_zero, Nat.zero_add]); first | (with_reducible assumption) | assumption | rfl)) | (apply And.intro; (first | rfl | (with_reducible assumption) | exact Nat.le_of_ble_eq_true rfl | omega | assumption | (simp <;> fail) | (simp <;> omega) | (focus (repeat' (first | (with_reducible assumption) | exact one_iS _ _ | rfl)); done))) | (refine ACall.to (ha8 _) ?_) | (refine ACall.to (hq _) ?_))) <;> (try (conv => whnf))
      exact f0 _ rfl _ _ _ _ 0 0 0 _ _ rfl rfl rfl hB rfl
    · obtain ⟨g, w, m0, m1⟩ := up F hL
      have hl := upV_len q by' F
      have hy := y3 (upV q by' F) hl
      rw [← w] at hy
      (repeat' ((conv => whnf); first | refine Then.mk ?_ | left | refine OpsA.cons ?_ | refine OpsA.nil ?_ | refine AWq.seq ?_ | refine AWq.region ?_ | refine AWq.cond ?_ | refine AWq.block ?_ | refine AWq.skip ?_ | refine AWq.ret ?_ | refine DrawA.consD ?_ | refine DrawA.nil ?_ | refine AWq.draw (by decide +kernel) ?_ | (refine Both.mk ?_ ?_ <;> intro hc <;> (first | exact Bool.noConfusion hc | (exfalso; omega) | skip)) | (intro c hc; (try (simp only [AH.none_iff] at hc; repeat (have hn := hc.1; replace hc := hc.2))); (first | subst hc | skip)) | (apply Exists.intro; apply And.intro; (first | (focus (repeat (first | (with_reducible assumption) | (with_reducible exact AH.set_same _ _ _) | ((first | refine AH.get_ne ?_ ?_); (first | (with_reducible assumption) | exact Ne.symm (by with_reducible assumption))))); done))) | (apply Exists.intro; apply And.intro; first | (with_reducible assumption) | ((try simp only [List.getElem?_drop, Nat.mul_one, Nat.add_zero, Nat.zero_add]); first | (with_reducible assumption) | assumption | rfl)) | (apply And.intro; (first | rfl | (with_reducible assumption) | exact Nat.le_of_ble_eq_true rfl | omega | assumption | (simp <;> fail) | (simp <;> omega) | (focus (repeat' (first | (with_reducible assumption) | exact one_iS _ _ | rfl)); done))) | (refine ACall.to (ha8 _) ?_) | (refine ACall.to (hq _) ?_))) <;> (try (conv => whnf))
      exact f0 _ rfl _ _ _ _ 0 0 0 _ _ rfl rfl hl.symm hy.symm rfl
  · have ht1 : t = ⟨O, E ++ [0], F, z⟩ := ht
    subst ht1
    have hl : (E ++ [0]).length = E.length + 1 := by simp
    have hx := x2 1 (E ++ [0]) _ rfl
    rw [hl, ← iS_snoc] at hx
    (repeat' ((conv => whnf); first | refine Then.mk ?_ | left | refine OpsA.cons ?_ | refine OpsA.nil ?_ | refine AWq.seq ?_ | refine AWq.region ?_ | refine AWq.cond ?_ | refine AWq.block ?_ | refine AWq.skip ?_ | refine AWq.ret ?_ | refine DrawA.consD ?_ | refine DrawA.nil ?_ | refine AWq.draw (by decide +kernel) ?_ | (refine Both.mk ?_ ?_ <;> intro hc <;> (first | exact Bool.noConfusion hc | (exfalso; omega) | skip)) | (intro c hc; (try (simp only [AH.none_iff] at hc; repeat (have hn := hc.1; replace hc := hc.2))); (first | subst hc | skip)) | (apply Exists.intro; apply And.intro; (first | (focus (repeat (first | (with_reducible assumption) | (with_reducible exact AH.set_same _ _ _) | ((first | refine AH.get_ne ?_ ?_); (first | (with_reducible assumption) | exact Ne.symm (by with_reducible assumption))))); done))) | (apply Exists.intro; apply And.intro; first | (with_reducible assumption) | ((try simp only [List.getElem?_drop, Nat.mul_one, Nat.add_zero, Nat.zero_add]); first | (with_reducible assumption) | assumption | rfl)) | (apply And.intro; (first | rfl | (with_reducible assumption) | exact Nat.le_of_ble_eq_true rfl | omega | assumption | (simp <;> fail) | (simp <;> omega) | (focus (repeat' (first | (with_reducible assumption) | exact one_iS _ _ | rfl)); done))) | (refine ACall.to (ha8 _) ?_) | (refine ACall.to (hq _) ?_))) <;> (try (conv => whnf))
    exact f0 _ rfl _ _ _ _ 0 1 0 _ _ rfl hl.symm rfl hx.symm rfl
  · have ht1 : t = ⟨O, E, F ++ [by'], z⟩ := ht
    subst ht1
    have hl : (F ++ [by']).length = F.length + 1 := by simp
    have hx := x3 1 (F ++ [by']) _ rfl
    rw [hl, ← iS_snoc] at hx
    (repeat' ((conv => whnf); first | refine Then.mk ?_ | left | refine OpsA.cons ?_ | refine OpsA.nil ?_ | refine AWq.seq ?_ | refine AWq.region ?_ | refine AWq.cond ?_ | refine AWq.block ?_ | refine AWq.skip ?_ | refine AWq.ret ?_ | refine DrawA.consD ?_ | refine DrawA.nil ?_ | refine AWq.draw (by decide +kernel) ?_ | (refine Both.mk ?_ ?_ <;> intro hc <;> (first | exact Bool.noConfusion hc | (exfalso; omega) | skip)) | (intro c hc; (try (simp only [AH.none_iff] at hc; repeat (have hn := hc.1; replace hc := hc.2))); (first | subst hc | skip)) | (apply Exists.intro; apply And.intro; (first | (focus (repeat (first | (with_reducible assumption) | (with_reducible exact AH.set_same _ _ _) | ((first | refine AH.get_ne ?_ ?_); (first | (with_reducible assumption) | exact Ne.symm (by with_reducible assumption))))); done))) | (apply Exists.intro; apply And.intro; first | (with_reducible assumption) | ((try simp only [List.getElem?_drop, Nat.mul_one, Nat.add_zero, Nat.zero_add]); first | (with_reducible assumption) | assumption | rfl)) | (apply And.intro; (first | rfl | (with_reducible assumption) | exact Nat.le_of_ble_eq_true rfl | omega | assumption | (simp <;> fail) | (simp <;> omega) | (focus (repeat' (first | (with_reducible assumption) | exact one_iS _ _ | rfl)); done))) | (refine ACall.to (ha8 _) ?_) | (refine ACall.to (hq _) ?_))) <;> (try (conv => whnf))
    exact f0 _ rfl _ _ _ _ 0 0 1 _ _ rfl rfl hl.symm hx.symm rfl
  · have ht1 : t = ⟨O ++ [by'], E, F, z⟩ := ht
    subst ht1
    have hl : (O ++ [by']).length = O.length + 1 := by simp
    have hx := x1 1 (O ++ [by']) _ rfl
    rw [hl, ← iS_snoc] at hx
    (repeat' ((conv => whnf); first | refine Then.mk ?_ | left | refine OpsA.cons ?_ | refine OpsA.nil ?_ | refine AWq.seq ?_ | refine AWq.region ?_ | refine AWq.cond ?_ | refine AWq.block ?_ | refine AWq.skip ?_ | refine AWq.ret ?_ | refine DrawA.consD ?_ | refine DrawA.nil ?_ | refine AWq.draw (by decide +kernel) ?_ | (refine Both.mk ?_ ?_ <;> intro hc <;> (first | exact Bool.noConfusion hc | (exfalso; omega) | skip)) | (intro c hc; (try (simp only [AH.none_iff] at hc; repeat (have hn := hc.1; replace hc := hc.2))); (first | subst hc | skip)) | (apply Exists.intro; apply And.intro; (first | (focus (repeat (first | (with_reducible assumption) | (with_reducible exact AH.set_same _ _ _) | ((first | refine AH.get_ne ?_ ?_); (first | (with_reducible assumption) | exact Ne.symm (by with_reducible assumption))))); done))) | (apply Exists.intro; apply And.intro; first | (with_reducible assumption) | ((try simp only [List.getElem?_drop, Nat.mul_one, Nat.add_zero, Nat.zero_add]); first | (with_reducible assumption) | assumption | rfl)) | (apply And.intro; (first | rfl | (with_reducible assumption) | exact Nat.le_of_ble_eq_true rfl | omega | assumption | (simp <;> fail) | (simp <;> omega) | (focus (repeat' (first | (with_reducible assumption) | exact one_iS _ _ | rfl)); done))) | (refine ACall.to (ha8 _) ?_) | (refine ACall.to (hq _) ?_))) <;> (try (conv => whnf))
    exact f0 _ rfl _ _ _ _ 1 0 0 _ _ hl.symm rfl rfl hx.symm rfl
end Go.Proofs.Ytebflkgpbbjhnaa
/- Plain law: varints, as numbers. -/
namespace Go.Proofs.Ytebflkgpbbjhnaa
open Go.Fw Go
set_option linter.unusedVariables false
set_option linter.unusedSimpArgs false

def encN (n : Nat) : List UInt8 := if h : n < 128 then [UInt8.ofNat n] else UInt8.ofNat (n % 128 + 128) :: encN (n / 128)
termination_by n
decreasing_by omega

theorem encN_lt {n : Nat} (h : n < 128) : encN n = [UInt8.ofNat n] := by rw [encN, dif_pos h]
theorem encN_ge {n : Nat} (h : ¬ n < 128) : encN n = UInt8.ofNat (n % 128 + 128) :: encN (n / 128) := by rw [encN, dif_neg h]

theorem encN_pos (n : Nat) : 0 < (encN n).length := by
  by_cases h : n < 128
  · rw [encN_lt h]; simp
  · rw [encN_ge h]; simp

theorem encN_len : ∀ (f n : Nat), n < 128 ^ (f + 1) → (encN n).length ≤ f + 1
  | 0, n, h => by rw [encN_lt (by simpa using h)]; simp
  | f + 1, n, h => by
    by_cases h' : n < 128
    · rw [encN_lt h']; simp
    · rw [encN_ge h', List.length_cons]
      have : n / 128 < 128 ^ (f + 1) := by
        rw [Nat.div_lt_iff_lt_mul (by omega)]
        rw [← Nat.pow_succ]; exact h
      have := encN_len f _ this
      omega

theorem encN_len10 {n : Nat} (h : n < 2 ^ 64) : (encN n).length ≤ 10 := encN_len 9 n (Nat.lt_of_lt_of_le h (by decide))

/-- What is read, from byte i on: the number and the rest, or an error. -/
def rdN : Nat → Nat → List UInt8 → Except Int (Nat × List UInt8)
  | _, _, [] => .error 3
  | i, acc, c :: r => if (i = 9 ∧ 1 < c.toNat) ∨ (0 < i ∧ c.toNat = 0) then .error 2 else
    if c.toNat < 128 then .ok (acc + c.toNat * 128 ^ i, r) else rdN (i + 1) (acc + (c.toNat % 128) * 128 ^ i) r

theorem u8_ofNat {n : Nat} (h : n < 256) : (UInt8.ofNat n).toNat = n := by rw [UInt8.toNat_ofNat']; omega

theorem rdN_enc : ∀ (n i acc : Nat) (r : List UInt8), i ≤ 9 → n * 128 ^ i < 2 ^ 64 → (0 < i → 0 < n) → rdN i acc (encN n ++ r) = .ok (acc + n * 128 ^ i, r) := by
  intro n
  induction n using Nat.strongRecOn with
  | ind n ih =>
    intro i acc r hi hn h0
    have h9 : i = 9 → n ≤ 1 := by
      intro e; subst e
      rcases Nat.lt_or_ge 1 n with h | h
      · have : 2 * 128 ^ 9 ≤ n * 128 ^ 9 := Nat.mul_le_mul_right _ h
        have : (2 : Nat) * 128 ^ 9 = 2 ^ 64 := by decide
        omega
      · exact h
    by_cases h : n < 128
    · rw [encN_lt h, List.cons_append, List.nil_append, rdN, u8_ofNat (by omega), if_neg (by omega), if_pos h]
    · have h8 : i ≠ 9 := fun e => by have := h9 e; omega
      rw [encN_ge h, List.cons_append, rdN, u8_ofNat (by omega), if_neg (by omega), if_neg (by omega)]
      have hm : n / 128 * 128 ^ (i + 1) ≤ n * 128 ^ i := by
        rw [Nat.pow_succ, Nat.mul_comm (128 ^ i) 128, ← Nat.mul_assoc]
        exact Nat.mul_le_mul_right _ (Nat.div_mul_le_self n 128)
      rw [ih (n / 128) (by omega) (i + 1) _ r (by omega) (by omega) (by omega)]
      congr 2
      rw [Nat.add_assoc]
      congr 1
      rw [show (n % 128 + 128) % 128 = n % 128 by omega, Nat.pow_succ, Nat.mul_comm (128 ^ i) 128, ← Nat.mul_assoc, ← Nat.add_mul]
      congr 1
      omega

theorem rdN_uniq : ∀ (bs : List UInt8) (i acc m : Nat) (r : List UInt8), i ≤ 9 → rdN i acc bs = .ok (m, r) → ∃ n, m = acc + n * 128 ^ i ∧ bs = encN n ++ r ∧ n < 2 ^ (64 - 7 * i) ∧ (0 < i → 0 < n)
  | [], i, acc, m, r, hi, h => by simp [rdN] at h
  | c :: t, i, acc, m, r, hi, h => by
    rw [rdN] at h
    split at h
    · cases h
    · rename_i h1
      split at h
      · rename_i h2
        cases h
        refine ⟨c.toNat, rfl, ?_, ?_, by omega⟩
        · rw [encN_lt h2]; simp
        · by_cases h9 : i = 9
          · subst h9; have : c.toNat ≤ 1 := by omega
            omega
          · have : 2 ^ 7 ≤ 2 ^ (64 - 7 * i) := Nat.pow_le_pow_right (by omega) (by omega)
            omega
      · rename_i h2
        have h9 : i ≠ 9 := by omega
        obtain ⟨n, hm, ht, hn, hp⟩ := rdN_uniq t (i + 1) _ m r (by omega) h
        have hp := hp (by omega)
        have hc := c.toNat_lt
        refine ⟨c.toNat % 128 + 128 * n, ?_, ?_, ?_, by omega⟩
        · rw [hm, Nat.add_assoc, Nat.add_mul]
          congr 2
          rw [Nat.pow_succ, Nat.mul_comm (128 ^ i) 128, ← Nat.mul_assoc, Nat.mul_comm n 128]
        · rw [encN_ge (by omega), show (c.toNat % 128 + 128 * n) / 128 = n by omega, show (c.toNat % 128 + 128 * n) % 128 + 128 = c.toNat by omega, ht]
          simp
        · have e : 2 ^ (64 - 7 * i) = 128 * 2 ^ (64 - 7 * (i + 1)) := by
            rw [show 64 - 7 * i = 7 + (64 - 7 * (i + 1)) by omega, Nat.pow_add]
          omega

/-- Numbers with a sign. -/
def zz (n : Int) : Nat := if n < 0 then (-2 * n - 1).toNat else (2 * n).toNat
def unzz (z : Nat) : Int := if z % 2 = 1 then -((z / 2 : Nat) : Int) - 1 else ((z / 2 : Nat) : Int)
theorem unzz_zz (n : Int) : unzz (zz n) = n := by
  unfold zz unzz
  split <;> split <;> omega
theorem zz_lt {n : Int} (h1 : -9223372036854775808 ≤ n) (h2 : n ≤ 9223372036854775807) : zz n < 2 ^ 64 := by
  unfold zz; split <;> omega
theorem unzz_range {z : Nat} (h : z < 2 ^ 64) : -9223372036854775808 ≤ unzz z ∧ unzz z ≤ 9223372036854775807 := by
  unfold unzz; split <;> omega

theorem ofInt_u64 {x : Int} (h : 0 ≤ x ∧ x < 18446744073709551616) : (BitVec.ofInt 64 x).toNat = x.toNat := by
  rw [BitVec.toNat_ofInt]; omega

theorem wrap_u64' (x : Int) : IntKind.u64.wrap x = x % 18446744073709551616 := rfl

theorem zz_wire {n : Int} (h1 : -9223372036854775808 ≤ n) (h2 : n ≤ 9223372036854775807) :
    bitsA .xor .u64 (IntKind.u64.wrap (IntKind.u64.wrap n * 2 ^ (min 1 64))) (IntKind.u64.wrap (n.fdiv (2 ^ (min 63 64)))) = (zz n : Int) := by
  have e1 : IntKind.u64.wrap (IntKind.u64.wrap n * 2 ^ (min 1 64)) = (2 * n) % 18446744073709551616 := by
    simp only [wrap_u64', show min 1 64 = 1 by decide, Int.pow_one]
    omega
  rw [e1]
  show IntKind.u64.wrap ((BitVec.ofInt 64 _ ^^^ BitVec.ofInt 64 _).toNat : Int) = _
  by_cases hn : n < 0
  · have e2 : IntKind.u64.wrap (n.fdiv (2 ^ (min 63 64))) = 18446744073709551615 := by
      rw [wrap_u64', show min 63 64 = 63 by decide, Int.fdiv_eq_ediv_of_nonneg _ (by decide)]
      have : n / 2 ^ 63 = -1 := by omega
      rw [this]; decide
    rw [e2, show BitVec.ofInt 64 18446744073709551615 = BitVec.allOnes 64 by decide, BitVec.xor_allOnes, BitVec.toNat_not, ofInt_u64 (by omega), wrap_u64']
    unfold zz
    rw [if_pos hn]
    omega
  · have e2 : IntKind.u64.wrap (n.fdiv (2 ^ (min 63 64))) = 0 := by
      rw [wrap_u64', show min 63 64 = 63 by decide, Int.fdiv_eq_ediv_of_nonneg _ (by decide)]
      have : n / 2 ^ 63 = 0 := by omega
      rw [this]; decide
    rw [e2, show BitVec.ofInt 64 0 = 0#64 by decide, BitVec.xor_zero, ofInt_u64 (by omega), wrap_u64']
    unfold zz
    rw [if_neg hn]
    omega
end Go.Proofs.Ytebflkgpbbjhnaa
/- Plain law: what a reader reads, and the way back. -/
namespace Go.Proofs.Ytebflkgpbbjhnaa
open Go.Fw Go
set_option linter.unusedVariables false
set_option linter.unusedSimpArgs false

/-- A reader: its error, and the bytes that are left as long as there is none. -/
abbrev RS := Int × List UInt8
def canon (e : Int) (b : List UInt8) : RS := (e, if e = 0 then b else [])

def rdU (s : RS) : Nat × RS := if s.1 ≠ 0 then (0, (s.1, [])) else match rdN 0 0 s.2 with
  | .ok (n, r) => (n, (0, r))
  | .error e => (0, (e, []))
def rdI (s : RS) : Int × RS := (unzz (rdU s).1, (rdU s).2)
def rdLen (s : RS) : Nat × RS := if (rdU s).2.1 = 0 ∧ (rdU s).2.2.length < (rdU s).1 then (0, (3, [])) else rdU s
def rdL : Nat → RS → List Int × RS
  | 0, s => ([], s)
  | k + 1, s => if s.1 ≠ 0 then ([], s) else ((rdI s).1 :: (rdL k (rdI s).2).1, (rdL k (rdI s).2).2)
def rdInts (s : RS) : List Int × RS := if (rdL (rdLen s).1 (rdLen s).2).2.1 ≠ 0 then ([], (rdL (rdLen s).1 (rdLen s).2).2) else rdL (rdLen s).1 (rdLen s).2
def endE (s : RS) : Int := if s.1 = 0 ∧ s.2 ≠ [] then 2 else s.1

theorem canon_ok (b : List UInt8) : canon 0 b = (0, b) := by unfold canon; simp
theorem canon_err {e : Int} (b : List UInt8) (h : e ≠ 0) : canon e b = (e, []) := by unfold canon; simp [h]

def encI (n : Int) : List UInt8 := encN (zz n)
def encIs (l : List Int) : List UInt8 := l.flatMap encI
def encL (l : List Int) : List UInt8 := encN l.length ++ encIs l
def I64 (n : Int) : Prop := -9223372036854775808 ≤ n ∧ n ≤ 9223372036854775807

theorem rdU_enc {n : Nat} (h : n < 2 ^ 64) (r : List UInt8) : rdU (0, encN n ++ r) = (n, (0, r)) := by
  unfold rdU
  have := rdN_enc n 0 0 r (by omega) (by omega) (by omega)
  simp [this]

theorem rdI_enc {n : Int} (h : I64 n) (r : List UInt8) : rdI (0, encI n ++ r) = (n, (0, r)) := by
  unfold rdI encI
  rw [rdU_enc (zz_lt h.1 h.2), unzz_zz]

theorem encI_pos (n : Int) : 1 ≤ (encI n).length := encN_pos _
theorem encIs_len : ∀ l : List Int, l.length ≤ (encIs l).length
  | [] => Nat.zero_le _
  | x :: l => by
    have := encIs_len l
    have := encI_pos x
    simp only [encIs, List.flatMap_cons, List.length_append, List.length_cons] at *
    omega

theorem rdL_enc : ∀ (l : List Int) (r : List UInt8), (∀ x ∈ l, I64 x) → rdL l.length (0, encIs l ++ r) = (l, (0, r))
  | [], r, _ => rfl
  | x :: l, r, h => by
    have e : encIs (x :: l) ++ r = encI x ++ (encIs l ++ r) := by simp [encIs]
    have e2 := rdI_enc (h x (by simp)) (encIs l ++ r)
    rw [List.length_cons, rdL, if_neg (by simp), e, e2, rdL_enc l r (fun y hy => h y (by simp [hy]))]

theorem rdInts_enc {l : List Int} (h : ∀ x ∈ l, I64 x) (hl : l.length < 2 ^ 40) (r : List UInt8) : rdInts (0, encL l ++ r) = (l, (0, r)) := by
  have e : rdLen (0, encL l ++ r) = (l.length, (0, encIs l ++ r)) := by
    unfold rdLen encL
    have := encIs_len l
    rw [List.append_assoc, rdU_enc (by omega), if_neg (by simp; omega)]
  unfold rdInts
  rw [e]
  simp only [rdL_enc l r h]
  simp

end Go.Proofs.Ytebflkgpbbjhnaa
/- The walks of the writer. -/
namespace Go.Proofs.Ytebflkgpbbjhnaa
open Go.Fw Go
set_option linter.unusedVariables false
set_option linter.unusedSimpArgs false

set_option maxRecDepth 8000 in
theorem zigzag_c (n : Int) (h1 : -9223372036854775808 ≤ n) (h2 : n ≤ 9223372036854775807) (H : AH) : ACall Try.prog 75 [.int .i64 n] H (fun y H' => y = .int .u64 (zz n) ∧ H' = H) := by
  rw [← zz_wire h1 h2]
  refine ACall_of tt_ok (dok _) Try.func75 rfl (by decide) rfl ?_
  (repeat' ((conv => whnf); first | refine Then.mk ?_ | refine OpsA.cons ?_ | refine OpsA.nil ?_ | refine AWq.seq ?_ | refine AWq.region ?_ | refine AWq.ret ?_ | (intro c hc; (try (simp only [AH.none_iff] at hc; repeat (have hn := hc.1; replace hc := hc.2))); (first | subst hc)) | (apply And.intro; (first | rfl | omega)))) <;> (try (conv => whnf))

theorem or128 {m : Nat} (h : m < 2 ^ 64) : bitsA .or .u8 (IntKind.u8.wrap (m : Int)) 128 = ((UInt8.ofNat (m % 128 + 128)).toNat : Int) := by
  have key : ∀ x : Fin 256, bitsA .or .u8 ((x.val : Nat) : Int) 128 = ((x.val % 128 + 128 : Nat) : Int) := by decide +kernel
  have e : IntKind.u8.wrap (m : Int) = ((m % 256 : Nat) : Int) := by
    show (m : Int) % 256 = _
    omega
  have := key ⟨m % 256, by omega⟩
  rw [e, this, u8_ofNat (by omega)]
  simp only
  omega

/-- A heap with a writer: the writer's cell and the row of its bytes. -/
def WrH (H : AH) (p r v : Nat) (bs : List UInt8) : AH := (H.set p (.row [.sl r v 1 0 bs.length none] 0)).set r (.row (u8s bs) v)

set_option maxRecDepth 8000 in
theorem wUint_c (p r v : Nat) (bs : List UInt8) (n : Nat) (hn : n < 2 ^ 64) (hb : bs.length ≤ 1000000) (H : AH) (hpr : p ≠ r) :
    ACall Try.prog 74 [.ptr p 0 0, .int .u64 n] (WrH H p r v bs) (fun y H' => y = .tup [] ∧ ∃ v', H' = WrH H p r v' (bs ++ encN n)) := by
  refine ACall_of tt_ok (dok _) Try.func74 rfl (by decide) rfl ?_
  (repeat' ((conv => whnf); first | refine Then.mk ?_ | left | refine OpsA.cons ?_ | refine OpsA.nil ?_ | refine AWq.seq ?_ | refine AWq.region ?_ | refine AWq.cond ?_ | refine AWq.block ?_ | refine AWq.skip ?_ | refine AWq.exit ?_ | refine AWq.loop ?_ | (refine Both.mk ?_ ?_ <;> intro hc <;> (first | exact Bool.noConfusion hc | skip)) | (intro c hc; (try (simp only [AH.none_iff] at hc; repeat (have hn := hc.1; replace hc := hc.2))); (first | (refine u8_k hc ?_ ?_ ?_ ; omega; omega; (clear hc; intro hc; subst hc)) | subst hc | skip)) | (apply Exists.intro; apply And.intro; (first | (focus (repeat (first | (with_reducible assumption) | (with_reducible exact AH.set_same _ _ _) | ((first | refine AH.get_ne ?_ ?_); (first | (with_reducible assumption))))); done))) | (apply Exists.intro; apply And.intro; first | (with_reducible assumption) | ((try simp only [List.getElem?_drop, Nat.mul_one, Nat.add_zero, Nat.zero_add]); first | (with_reducible assumption) | rfl)) | (apply And.intro; (first | rfl | (with_reducible assumption) | exact Nat.le_of_ble_eq_true rfl | omega | (simp <;> fail))))) <;> (try (conv => whnf))
  have hl10 := encN_len10 hn
  refine AWp_loop (σ := Nat × List UInt8 × Nat) (1 :: 4 :: 5 :: 6 :: 7 :: 8 :: 9 :: 10 :: 11 :: 12 :: 13 :: 14 :: 15 :: 16 :: 17 :: 18 :: 19 :: []) (fun (m, pre, u) => [(1, .int .u64 m)]) (fun (m, pre, u) => (H.set p (.row [.sl r u 1 0 (bs ++ pre).length none] 0)).set r (.row (u8s (bs ++ pre)) u)) (fun (m, pre, u) => m < 2 ^ 64 ∧ encN n = pre ++ encN m) (fun (m, pre, u) => m) (n, [], v) rfl ?_ ?_ ?_ ?_
  · exact ⟨hn, rfl⟩
  · exact ⟨rfl, trivial⟩
  · show HLe ((H.set p (.row [.sl r v 1 0 (bs ++ []).length none] 0)).set r (.row (u8s (bs ++ [])) v)) _
    rw [List.append_nil]; exact HLe.refl _
  · rintro ⟨m, pre, u⟩ ⟨hm, he⟩
    refine AWp.of tt_ok (dok _) rfl ?_
    have hpl : pre.length ≤ 9 := by
      have := congrArg List.length he
      have := encN_pos m
      rw [List.length_append] at *; omega
    have hsum : (bs ++ pre).length ≤ 1000009 := by rw [List.length_append]; omega
    (repeat' ((conv => whnf); first | refine Then.mk ?_ | left | refine OpsA.cons ?_ | refine OpsA.nil ?_ | refine AWq.seq ?_ | refine AWq.region ?_ | refine AWq.cond ?_ | refine AWq.block ?_ | refine AWq.skip ?_ | refine AWq.exit ?_ | refine AWq.loop ?_ | (refine Both.mk ?_ ?_ <;> intro hc <;> (first | exact Bool.noConfusion hc | skip)) | (intro c hc; (try (simp only [AH.none_iff] at hc; repeat (have hn := hc.1; replace hc := hc.2))); (first | (refine u8_k hc ?_ ?_ ?_ ; omega; omega; (clear hc; intro hc; subst hc)) | subst hc | skip)) | (apply Exists.intro; apply And.intro; (first | (focus (repeat (first | (with_reducible assumption) | (with_reducible exact AH.set_same _ _ _) | ((first | refine AH.get_ne ?_ ?_); (first | (with_reducible assumption))))); done))) | (apply Exists.intro; apply And.intro; first | (with_reducible assumption) | ((try simp only [List.getElem?_drop, Nat.mul_one, Nat.add_zero, Nat.zero_add]); first | (with_reducible assumption) | rfl)) | (apply And.intro; (first | rfl | (with_reducible assumption) | exact Nat.le_of_ble_eq_true rfl | omega | (simp <;> fail))))) <;> (try (conv => whnf))
    · refine ⟨(m / 128, pre ++ [UInt8.ofNat (m % 128 + 128)], u + 1), ⟨by omega, by rw [he, encN_ge (by omega)]; simp⟩, by show m / 128 < m; omega, ⟨?_, trivial⟩, ?_⟩
      · refine congrArg (AV.int .u64) ?_
        rw [show (2 : Int) ^ min (Int.toNat 7) IntKind.u64.bits = 128 by decide, Int.fdiv_eq_ediv_of_nonneg _ (by omega)]
        omega
      · show HLe ((H.set p (.row [.sl r (u + 1) 1 0 (bs ++ (pre ++ [UInt8.ofNat (m % 128 + 128)])).length none] 0)).set r (.row (u8s (bs ++ (pre ++ [UInt8.ofNat (m % 128 + 128)]))) (u + 1))) _
        rw [← List.append_assoc, List.length_append (bs := [_]), ← u8s_append (bs ++ pre)]
        refine HLe.of_eq (Eq.trans ?_ (AH.two_sets H hpr _ _ _ _).symm)
        rw [or128 hm]
        rfl
    · refine ⟨u + 1, ?_⟩
      unfold WrH
      rw [he, encN_lt (by omega), ← List.append_assoc, List.length_append (bs := [_]), ← u8s_append (bs ++ pre)]
      refine Eq.trans (AH.two_sets H hpr _ _ _ _) ?_
      have e : (m : Int) = ((UInt8.ofNat m).toNat : Int) := by rw [u8_ofNat (by omega)]
      rw [e]
      rfl

set_option maxRecDepth 8000 in
theorem wInt_c (p r v : Nat) (bs : List UInt8) (n : Int) (hn : I64 n) (hb : bs.length ≤ 1000000) (H : AH) (hpr : p ≠ r) :
    ACall Try.prog 52 [.ptr p 0 0, .int .i64 n] (WrH H p r v bs) (fun y H' => y = .tup [] ∧ ∃ v', H' = WrH H p r v' (bs ++ encI n)) := by
  refine ACall_of tt_ok (dok _) Try.func52 rfl (by decide) rfl ?_
  (repeat' ((conv => whnf); first | refine OpsA.cons ?_ | refine OpsA.nil ?_ | refine AWq.region ?_ | (apply And.intro; (first | rfl)) | (refine ACall.to (zigzag_c n hn.1 hn.2 _) ?_))) <;> (try (conv => whnf))
  refine (wUint_c p r v bs (zz n) (zz_lt hn.1 hn.2) hb H hpr).mono ?_
  rintro y H' ⟨rfl, v', rfl⟩
  (repeat' ((conv => whnf); first | refine OpsA.cons ?_ | refine OpsA.nil ?_ | refine AWq.region ?_ | (apply And.intro; (first | rfl)))) <;> (try (conv => whnf))
  exact ⟨v', rfl⟩

set_option maxRecDepth 8000 in
theorem wInts_c (p r v : Nat) (bs : List UInt8) (l : List Int) (hl : l.length ≤ 5000) (hr : ∀ x ∈ l, I64 x) (hb : bs.length ≤ 900000) (H : AH) (hpr : p ≠ r) :
    ACall Try.prog 51 [.ptr p 0 0, .cs (iS .i64 l) l.length] (WrH H p r v bs) (fun y H' => y = .tup [] ∧ ∃ v', H' = WrH H p r v' (bs ++ encL l)) := by
  have hlen : ∀ k, k ≤ l.length → (encIs (l.take k)).length ≤ 10 * k := by
    intro k hk
    induction k with
    | zero => simp [encIs]
    | succ k ih =>
      have := ih (by omega)
      have hk' : k < l.length := by omega
      rw [List.take_add_one]
      simp only [encIs, List.getElem?_eq_getElem hk', Option.toList_some, List.flatMap_append, List.flatMap_cons, List.flatMap_nil, List.append_nil, List.length_append] at this ⊢
      have hi : (encI l[k]).length ≤ 10 := by
        have h64 := hr l[k] (List.getElem_mem hk')
        exact encN_len10 (zz_lt h64.1 h64.2)
      omega
  have hl10 := encN_len10 (n := l.length) (by omega)
  refine ACall_of tt_ok (dok _) Try.func51 rfl (by decide) rfl ?_
  (repeat' ((conv => whnf); first | refine Then.mk ?_ | refine OpsA.cons ?_ | refine OpsA.nil ?_ | refine AWq.seq ?_ | refine AWq.region ?_ | refine AWq.cond ?_ | refine AWq.block ?_ | refine AWq.skip ?_ | refine AWq.exit ?_ | refine AWq.loop ?_ | (refine Both.mk ?_ ?_ <;> intro hc <;> (first | exact Bool.noConfusion hc | skip)) | (intro c hc; (try (simp only [AH.none_iff] at hc; repeat (have hn := hc.1; replace hc := hc.2))); (first | (refine i64_k hc ?_ ?_ ?_ ; omega; omega; (clear hc; intro hc; subst hc)) | (refine u64_k hc ?_ ?_ ?_ ; omega; omega; (clear hc; intro hc; subst hc)) | skip)) | (apply Exists.intro; apply And.intro; first | (with_reducible assumption) | ((try simp only [List.getElem?_drop, Nat.mul_one, Nat.add_zero, Nat.zero_add]); first | (with_reducible assumption) | (refine iS_get ?_; omega) | rfl)) | (apply And.intro; (first | rfl | (with_reducible assumption) | omega | (simp <;> omega))))) <;> (try (conv => whnf))
  refine (wUint_c p r v bs l.length (by omega) (by omega) H hpr).mono ?_
  rintro y H' ⟨rfl, v', rfl⟩
  (repeat' ((conv => whnf); first | refine Then.mk ?_ | refine OpsA.cons ?_ | refine OpsA.nil ?_ | refine AWq.seq ?_ | refine AWq.region ?_ | refine AWq.cond ?_ | refine AWq.block ?_ | refine AWq.skip ?_ | refine AWq.exit ?_ | refine AWq.loop ?_ | (refine Both.mk ?_ ?_ <;> intro hc <;> (first | exact Bool.noConfusion hc | skip)) | (intro c hc; (try (simp only [AH.none_iff] at hc; repeat (have hn := hc.1; replace hc := hc.2))); (first | (refine i64_k hc ?_ ?_ ?_ ; omega; omega; (clear hc; intro hc; subst hc)) | (refine u64_k hc ?_ ?_ ?_ ; omega; omega; (clear hc; intro hc; subst hc)) | skip)) | (apply Exists.intro; apply And.intro; first | (with_reducible assumption) | ((try simp only [List.getElem?_drop, Nat.mul_one, Nat.add_zero, Nat.zero_add]); first | (with_reducible assumption) | (refine iS_get ?_; omega) | rfl)) | (apply And.intro; (first | rfl | (with_reducible assumption) | omega | (simp <;> omega))))) <;> (try (conv => whnf))
  refine AWp_loop (σ := Nat × Nat) (5 :: 13 :: 14 :: 15 :: 16 :: 17 :: 18 :: 19 :: 20 :: []) (fun (k, u) => [(13, .int .i64 k)]) (fun (k, u) => WrH H p r u (bs ++ encN l.length ++ encIs (l.take k))) (fun (k, u) => k ≤ l.length) (fun (k, u) => l.length - k) (0, v') rfl ?_ ?_ ?_ ?_
  · exact Nat.zero_le _
  · exact ⟨rfl, trivial⟩
  · show HLe (WrH H p r v' (bs ++ encN l.length ++ encIs (l.take 0))) _
    rw [List.take_zero, show encIs [] = [] from rfl, List.append_nil]; exact HLe.refl _
  · rintro ⟨k, u⟩ hk
    refine AWp.of tt_ok (dok _) rfl ?_
    (repeat' ((conv => whnf); first | refine Then.mk ?_ | refine OpsA.cons ?_ | refine OpsA.nil ?_ | refine AWq.seq ?_ | refine AWq.region ?_ | refine AWq.cond ?_ | refine AWq.block ?_ | refine AWq.skip ?_ | refine AWq.exit ?_ | refine AWq.loop ?_ | (refine Both.mk ?_ ?_ <;> intro hc <;> (first | exact Bool.noConfusion hc | skip)) | (intro c hc; (try (simp only [AH.none_iff] at hc; repeat (have hn := hc.1; replace hc := hc.2))); (first | (refine i64_k hc ?_ ?_ ?_ ; omega; omega; (clear hc; intro hc; subst hc)) | (refine u64_k hc ?_ ?_ ?_ ; omega; omega; (clear hc; intro hc; subst hc)) | skip)) | (apply Exists.intro; apply And.intro; first | (with_reducible assumption) | ((try simp only [List.getElem?_drop, Nat.mul_one, Nat.add_zero, Nat.zero_add]); first | (with_reducible assumption) | (refine iS_get ?_; omega) | rfl)) | (apply And.intro; (first | rfl | (with_reducible assumption) | omega | (simp <;> omega))))) <;> (try (conv => whnf))
    · have hk' : k < l.length := by omega
      have hg : l.getD k 0 = l[k] := by simp [hk']
      have h64 : I64 (l.getD k 0) := by rw [hg]; exact hr _ (List.getElem_mem hk')
      have := hlen k (by omega)
      refine (wInt_c p r u _ (l.getD k 0) h64 (by rw [List.length_append, List.length_append]; omega) H hpr).mono ?_
      rintro y H' ⟨rfl, v2, rfl⟩
      (repeat' ((conv => whnf); first | refine Then.mk ?_ | refine OpsA.cons ?_ | refine OpsA.nil ?_ | refine AWq.seq ?_ | refine AWq.region ?_ | refine AWq.cond ?_ | refine AWq.block ?_ | refine AWq.skip ?_ | refine AWq.exit ?_ | refine AWq.loop ?_ | (refine Both.mk ?_ ?_ <;> intro hc <;> (first | exact Bool.noConfusion hc | skip)) | (intro c hc; (try (simp only [AH.none_iff] at hc; repeat (have hn := hc.1; replace hc := hc.2))); (first | (refine i64_k hc ?_ ?_ ?_ ; omega; omega; (clear hc; intro hc; subst hc)) | (refine u64_k hc ?_ ?_ ?_ ; omega; omega; (clear hc; intro hc; subst hc)) | skip)) | (apply Exists.intro; apply And.intro; first | (with_reducible assumption) | ((try simp only [List.getElem?_drop, Nat.mul_one, Nat.add_zero, Nat.zero_add]); first | (with_reducible assumption) | (refine iS_get ?_; omega) | rfl)) | (apply And.intro; (first | rfl | (with_reducible assumption) | omega | (simp <;> omega))))) <;> (try (conv => whnf))
      refine ⟨(k + 1, v2), by show k + 1 ≤ _; omega, by show _ - _ < _ - _; omega, ⟨congrArg (AV.int .i64) (by omega), trivial⟩, ?_⟩
      show HLe (WrH H p r v2 (bs ++ encN l.length ++ encIs (l.take (k + 1)))) _
      rw [List.take_add_one, List.getElem?_eq_getElem hk', show encIs (l.take k ++ (some l[k]).toList) = encIs (l.take k) ++ encI l[k] by unfold encIs; rw [List.flatMap_append]; congr 1; simp, ← hg, ← List.append_assoc]
      exact HLe.refl _
    · have hk' : k = l.length := by omega
      subst hk'
      refine ⟨u, ?_⟩
      show WrH H p r u (bs ++ encN l.length ++ encIs (l.take l.length)) = _
      rw [List.take_length, List.append_assoc]
      rfl

set_option maxRecDepth 8000 in
theorem clone_sl (r v : Nat) (bs : List UInt8) (hb : bs.length ≤ 1000000) (H : AH) (h : H r = some (.row (u8s bs) v)) :
    ACall Try.prog 56 [.sl r v 1 0 bs.length none] H (fun y H' => (y = .nils ∧ bs.length = 0 ∧ H' = H) ∨ ∃ q, H q = none ∧ ∃ u, y = .sl q u 1 0 bs.length none ∧ H' = H.set q (.row (u8s bs) u)) := by
  refine ACall_of tt_ok (dok _) Try.func56 rfl (by decide) rfl ?_
  (repeat' ((conv => whnf); first | refine Then.mk ?_ | refine Or.inr (Or.inl ?_) | refine OpsA.cons ?_ | refine OpsA.nil ?_ | refine AWq.seq ?_ | refine AWq.region ?_ | refine AWq.cond ?_ | refine AWq.skip ?_ | refine AWq.ret ?_ | (refine Both.mk ?_ ?_ <;> intro hc <;> (first | exact Bool.noConfusion hc | skip)) | (intro c hc; (try (simp only [AH.none_iff] at hc; repeat (have hn := hc.1; replace hc := hc.2))); (first | skip)) | (apply Exists.intro; apply And.intro; (first | (focus (repeat (first | (with_reducible assumption) | (with_reducible exact AH.set_same _ _ _) | ((first | refine AH.get_ne ?_ ?_); (first | (with_reducible assumption) | exact AH.ne_none (by with_reducible assumption) (by with_reducible assumption))))); done))) | (apply And.intro; (first | rfl | (with_reducible assumption) | omega | (simp <;> fail) | (focus (repeat' (first | (with_reducible assumption) | exact one_u8s _ | rfl | apply one_take)); done))))) <;> (try (conv => whnf))
  · exact .inl ⟨rfl, by assumption, rfl⟩
  · refine .inr ⟨c, hc, 1, by simp only [Nat.zero_add], ?_⟩
    rw [AH.set_set]
    simp [List.take_of_length_le]

set_option maxRecDepth 8000 in
theorem clone_cs (bs : List UInt8) (hb : bs.length ≤ 1000000) (H : AH) :
    ACall Try.prog 56 [.cs (u8s bs) bs.length] H (fun y H' => (y = .nils ∧ bs.length = 0 ∧ H' = H) ∨ ∃ q, H q = none ∧ ∃ u, y = .sl q u 1 0 bs.length none ∧ H' = H.set q (.row (u8s bs) u)) := by
  refine ACall_of tt_ok (dok _) Try.func56 rfl (by decide) rfl ?_
  (repeat' ((conv => whnf); first | refine Then.mk ?_ | refine Or.inr (Or.inl ?_) | refine OpsA.cons ?_ | refine OpsA.nil ?_ | refine AWq.seq ?_ | refine AWq.region ?_ | refine AWq.cond ?_ | refine AWq.skip ?_ | refine AWq.ret ?_ | (refine Both.mk ?_ ?_ <;> intro hc <;> (first | exact Bool.noConfusion hc | skip)) | (intro c hc; (try (simp only [AH.none_iff] at hc; repeat (have hn := hc.1; replace hc := hc.2))); (first | skip)) | (apply Exists.intro; apply And.intro; (first | (focus (repeat (first | (with_reducible exact AH.set_same _ _ _))); done))) | (apply And.intro; (first | rfl | omega | (simp <;> fail) | (focus (repeat' (first | exact one_u8s _ | rfl)); done))))) <;> (try (conv => whnf))
  · exact .inl ⟨rfl, by assumption, rfl⟩
  · refine .inr ⟨c, hc, 1, by simp only [Nat.zero_add], ?_⟩
    rw [AH.set_set]
    simp

set_option maxRecDepth 8000 in
theorem wDone_w (p r v : Nat) (bs : List UInt8) (hb : bs.length ≤ 1000000) (H : AH) (hpr : p ≠ r) :
    ACall Try.prog 53 [.ptr p 0 0] (WrH H p r v bs) (fun y H' => ∃ q, WrH H p r v bs q = none ∧ ∃ u, y = .sl q u 1 0 bs.length none ∧ H' = (WrH H p r v bs).set q (.row (u8s bs) u)) := by
  refine ACall_of tt_ok (dok _) Try.func53 rfl (by decide) rfl ?_
  (repeat' ((conv => whnf); first | refine Then.mk ?_ | refine OpsA.cons ?_ | refine OpsA.nil ?_ | refine AWq.seq ?_ | refine AWq.region ?_ | refine AWq.ret ?_ | (apply Exists.intro; apply And.intro; (first | (focus (repeat (first | (with_reducible assumption) | (with_reducible exact AH.set_same _ _ _) | ((first | refine AH.get_ne ?_ ?_); (first | (with_reducible assumption))))); done))) | (apply Exists.intro; apply And.intro; first | (with_reducible assumption) | ((try simp only [List.getElem?_drop, Nat.mul_one, Nat.add_zero, Nat.zero_add]); first | (with_reducible assumption) | rfl)) | (apply And.intro; (first | rfl | (with_reducible assumption))))) <;> (try (conv => whnf))
  refine (ACall.warmN (es := 1) (cells := u8s bs) (by simp) (clone_sl r v bs hb (WrH H p r v bs) (AH.set_same _ _ _))).mono ?_
  rintro y H' ⟨q, hq, u, rfl, rfl⟩
  (repeat' ((conv => whnf); first | refine OpsA.cons ?_ | refine OpsA.nil ?_ | refine AWq.seq ?_ | refine AWq.region ?_ | refine AWq.ret ?_ | (apply Exists.intro; apply And.intro; (first | (focus (repeat (first | (with_reducible assumption) | (with_reducible exact AH.set_same _ _ _) | ((first | refine AH.get_ne ?_ ?_); (first | (with_reducible assumption))))); done))) | (apply Exists.intro; apply And.intro; first | (with_reducible assumption) | ((try simp only [List.getElem?_drop, Nat.mul_one, Nat.add_zero, Nat.zero_add]); first | (with_reducible assumption) | rfl)) | (apply And.intro; (first | rfl | (with_reducible assumption))))) <;> (try (conv => whnf))
  refine Then.mk ?_
  (repeat' ((conv => whnf); first | refine OpsA.cons ?_ | refine OpsA.nil ?_ | refine AWq.seq ?_ | refine AWq.region ?_ | refine AWq.ret ?_ | (apply Exists.intro; apply And.intro; (first | (focus (repeat (first | (with_reducible assumption) | (with_reducible exact AH.set_same _ _ _) | ((first | refine AH.get_ne ?_ ?_); (first | (with_reducible assumption))))); done))) | (apply Exists.intro; apply And.intro; first | (with_reducible assumption) | ((try simp only [List.getElem?_drop, Nat.mul_one, Nat.add_zero, Nat.zero_add]); first | (with_reducible assumption) | rfl)) | (apply And.intro; (first | rfl | (with_reducible assumption))))) <;> (try (conv => whnf))

theorem wDone_c (p r v : Nat) (bs : List UInt8) (hb : bs.length ≤ 1000000) (H : AH) (hpr : p ≠ r) :
    ACall Try.prog 53 [.ptr p 0 0] (WrH H p r v bs) (fun y H' => y = .cs (u8s bs) bs.length ∧ H' = WrH H p r v bs) :=
  ACall.cold (es := 1) (by simp) (wDone_w p r v bs hb H hpr)

end Go.Proofs.Ytebflkgpbbjhnaa
/- The walks of the reader. -/
namespace Go.Proofs.Ytebflkgpbbjhnaa
open Go.Fw Go
set_option linter.unusedVariables false
set_option linter.unusedSimpArgs false

/-- A heap with a reader. -/
def RdH (H : AH) (p : Nat) (e : Int) (b : List UInt8) : AH := H.set p (.row [.cs (u8s b) b.length, .int .i64 e] 0)

set_option maxRecDepth 8000 in
theorem fail_c (p : Nat) (x e : Int) (b : List UInt8) (H : AH) :
    ACall Try.prog 80 [.ptr p 0 0, .int .i64 x] (RdH H p e b) (fun y H' => y = .tup [] ∧ H' = RdH H p (if e = 0 then x else e) b) := by
  refine ACall_of tt_ok (dok _) Try.func80 rfl (by decide) rfl ?_
  (repeat' ((conv => whnf); first | refine Then.mk ?_ | refine OpsA.cons ?_ | refine OpsA.nil ?_ | refine AWq.seq ?_ | refine AWq.region ?_ | refine AWq.cond ?_ | refine AWq.skip ?_ | (refine Both.mk ?_ ?_ <;> intro hc <;> (first | exact Bool.noConfusion hc | skip)) | (apply Exists.intro; apply And.intro; (first | (focus (repeat (first | exact AH.set_same _ _ _)); done))) | (apply Exists.intro; apply And.intro; first | ((try simp only [List.getElem?_drop, Nat.mul_one, Nat.add_zero, Nat.zero_add]); first | rfl)) | (apply And.intro; (first | rfl | exact Nat.le_of_ble_eq_true rfl)))) <;> (try (conv => whnf))
  · rw [if_pos (by assumption)]
    refine (AH.set_set H p _ _).trans ?_
    rfl
  · rw [if_neg (by assumption)]

def nx (e : Int) (b : List UInt8) : Nat × Int × List UInt8 := if e ≠ 0 then (0, e, b) else if b.length = 0 then (0, 3, b) else ((b.getD 0 0).toNat, 0, b.drop 1)

set_option maxRecDepth 8000 in
theorem next_c (p : Nat) (e : Int) (b : List UInt8) (hb : b.length ≤ 1000000) (H : AH) :
    ACall Try.prog 84 [.ptr p 0 0] (RdH H p e b) (fun y H' => y = .int .u8 (nx e b).1 ∧ H' = RdH H p (nx e b).2.1 (nx e b).2.2) := by
  by_cases he : e = 0
  · subst he
    by_cases hl : b.length = 0
    · have e1 : nx 0 b = (0, 3, b) := by unfold nx; rw [if_neg (by simp), if_pos hl]
      rw [e1]
      refine ACall_of tt_ok (dok _) Try.func84 rfl (by decide) rfl ?_
      (repeat' ((conv => whnf); first | refine Then.mk ?_ | refine OpsA.cons ?_ | refine OpsA.nil ?_ | refine AWq.seq ?_ | refine AWq.region ?_ | refine AWq.cond ?_ | refine AWq.skip ?_ | refine AWq.ret ?_ | (refine Both.mk ?_ ?_ <;> intro hc <;> (first | exact Bool.noConfusion hc | exact absurd (by with_reducible rfl) hc | exact absurd (by assumption) hc | (exfalso; omega) | exact absurd hc (by decide) | skip)) | (apply Exists.intro; apply And.intro; (first | (focus (repeat (first | exact AH.set_same _ _ _)); done))) | (apply Exists.intro; apply And.intro; first | ((try simp only [List.getElem?_drop, Nat.mul_one, Nat.add_zero, Nat.zero_add]); first | (refine u8s_get ?_; omega) | rfl)) | (apply And.intro; (first | rfl | exact Nat.le_of_ble_eq_true rfl | omega | (simp <;> fail))))) <;> (try (conv => whnf))
      refine (fail_c p 3 0 b H).mono ?_
      rintro y H' ⟨rfl, rfl⟩
      (repeat' ((conv => whnf); first | refine Then.mk ?_ | refine OpsA.cons ?_ | refine OpsA.nil ?_ | refine AWq.seq ?_ | refine AWq.region ?_ | refine AWq.cond ?_ | refine AWq.skip ?_ | refine AWq.ret ?_ | (refine Both.mk ?_ ?_ <;> intro hc <;> (first | exact Bool.noConfusion hc | exact absurd (by with_reducible rfl) hc | exact absurd (by assumption) hc | (exfalso; omega) | exact absurd hc (by decide) | skip)) | (apply Exists.intro; apply And.intro; (first | (focus (repeat (first | exact AH.set_same _ _ _)); done))) | (apply Exists.intro; apply And.intro; first | ((try simp only [List.getElem?_drop, Nat.mul_one, Nat.add_zero, Nat.zero_add]); first | (refine u8s_get ?_; omega) | rfl)) | (apply And.intro; (first | rfl | exact Nat.le_of_ble_eq_true rfl | omega | (simp <;> fail))))) <;> (try (conv => whnf))
      rfl
    · have e1 : nx 0 b = ((b.getD 0 0).toNat, 0, b.drop 1) := by unfold nx; rw [if_neg (by simp), if_neg hl]
      rw [e1]
      refine ACall_of tt_ok (dok _) Try.func84 rfl (by decide) rfl ?_
      (repeat' ((conv => whnf); first | refine Then.mk ?_ | refine OpsA.cons ?_ | refine OpsA.nil ?_ | refine AWq.seq ?_ | refine AWq.region ?_ | refine AWq.cond ?_ | refine AWq.skip ?_ | refine AWq.ret ?_ | (refine Both.mk ?_ ?_ <;> intro hc <;> (first | exact Bool.noConfusion hc | exact absurd (by with_reducible rfl) hc | exact absurd (by assumption) hc | (exfalso; omega) | exact absurd hc (by decide) | skip)) | (apply Exists.intro; apply And.intro; (first | (focus (repeat (first | exact AH.set_same _ _ _)); done))) | (apply Exists.intro; apply And.intro; first | ((try simp only [List.getElem?_drop, Nat.mul_one, Nat.add_zero, Nat.zero_add]); first | (refine u8s_get ?_; omega) | rfl)) | (apply And.intro; (first | rfl | exact Nat.le_of_ble_eq_true rfl | omega | (simp <;> fail))))) <;> (try (conv => whnf))
      refine (AH.set_set H p _ _).trans ?_
      unfold RdH
      rw [← u8s_drop, List.length_drop]
      rfl
  · have e1 : nx e b = (0, e, b) := by unfold nx; rw [if_pos he]
    rw [e1]
    refine ACall_of tt_ok (dok _) Try.func84 rfl (by decide) rfl ?_
    (repeat' ((conv => whnf); first | refine Then.mk ?_ | refine OpsA.cons ?_ | refine OpsA.nil ?_ | refine AWq.seq ?_ | refine AWq.region ?_ | refine AWq.cond ?_ | refine AWq.skip ?_ | refine AWq.ret ?_ | (refine Both.mk ?_ ?_ <;> intro hc <;> (first | exact Bool.noConfusion hc | exact absurd (by with_reducible rfl) hc | exact absurd (by assumption) hc | (exfalso; omega) | exact absurd hc (by decide) | skip)) | (apply Exists.intro; apply And.intro; (first | (focus (repeat (first | exact AH.set_same _ _ _)); done))) | (apply Exists.intro; apply And.intro; first | ((try simp only [List.getElem?_drop, Nat.mul_one, Nat.add_zero, Nat.zero_add]); first | (refine u8s_get ?_; omega) | rfl)) | (apply And.intro; (first | rfl | exact Nat.le_of_ble_eq_true rfl | omega | (simp <;> fail))))) <;> (try (conv => whnf))
    · refine (fail_c p 3 e b H).mono ?_
      rw [if_neg he]
      rintro y H' ⟨rfl, rfl⟩
      (repeat' ((conv => whnf); first | refine Then.mk ?_ | refine OpsA.cons ?_ | refine OpsA.nil ?_ | refine AWq.seq ?_ | refine AWq.region ?_ | refine AWq.cond ?_ | refine AWq.skip ?_ | refine AWq.ret ?_ | (refine Both.mk ?_ ?_ <;> intro hc <;> (first | exact Bool.noConfusion hc | exact absurd (by with_reducible rfl) hc | exact absurd (by assumption) hc | (exfalso; omega) | exact absurd hc (by decide) | skip)) | (apply Exists.intro; apply And.intro; (first | (focus (repeat (first | exact AH.set_same _ _ _)); done))) | (apply Exists.intro; apply And.intro; first | ((try simp only [List.getElem?_drop, Nat.mul_one, Nat.add_zero, Nat.zero_add]); first | (refine u8s_get ?_; omega) | rfl)) | (apply And.intro; (first | rfl | exact Nat.le_of_ble_eq_true rfl | omega | (simp <;> fail))))) <;> (try (conv => whnf))

theorem andNot128 (c : UInt8) : bitsA .andNot .u8 c.toNat 128 = ((c.toNat % 128 : Nat) : Int) := by
  have key : ∀ x : Fin 256, bitsA .andNot .u8 ((x.val : Nat) : Int) 128 = ((x.val % 128 : Nat) : Int) := by decide +kernel
  exact key ⟨c.toNat, c.toNat_lt⟩

theorem or_shift {m i d : Nat} (hm : m < 128 ^ i) (hi : i ≤ 9) (hd : d < 128) (h9 : i = 9 → d ≤ 1) :
    bitsA .or .u64 (m : Int) (IntKind.u64.wrap ((d : Int) * 2 ^ (min (7 * i) 64))) = ((m + d * 128 ^ i : Nat) : Int) := by
  have e7 : (128 : Nat) ^ i = 2 ^ (7 * i) := by rw [Nat.pow_mul]
  rw [e7] at hm ⊢
  have hmin : min (7 * i) 64 = 7 * i := by omega
  have hb : m + d * 2 ^ (7 * i) < 2 ^ 64 := by
    have h1 : m + d * 2 ^ (7 * i) < (d + 1) * 2 ^ (7 * i) := by rw [Nat.add_mul]; omega
    rcases Nat.lt_or_ge i 9 with h | h
    · have h2 : (d + 1) * 2 ^ (7 * i) ≤ 128 * 2 ^ (7 * i) := Nat.mul_le_mul_right _ (by omega)
      have h3 : 128 * 2 ^ (7 * i) = 2 ^ (7 + 7 * i) := by rw [Nat.pow_add]
      have h4 : 2 ^ (7 + 7 * i) ≤ 2 ^ 63 := Nat.pow_le_pow_right (by omega) (by omega)
      omega
    · have : i = 9 := by omega
      subst this
      have := h9 rfl
      omega
  have e1 : ((d : Int) * 2 ^ (7 * i)) = ((d * 2 ^ (7 * i) : Nat) : Int) := by simp
  rw [hmin, e1, wrap_u64']
  show IntKind.u64.wrap ((BitVec.ofInt 64 _ ||| BitVec.ofInt 64 _).toNat : Int) = _
  have ha : (BitVec.ofInt 64 (m : Int)).toNat = m := by
    rw [BitVec.toNat_ofInt]; omega
  have hc : (BitVec.ofInt 64 (((d * 2 ^ (7 * i) : Nat) : Int) % 18446744073709551616)).toNat = d * 2 ^ (7 * i) := by
    rw [BitVec.toNat_ofInt]; omega
  rw [BitVec.toNat_or, ha, hc, Nat.or_comm, Nat.mul_comm d, ← Nat.two_pow_add_eq_or_of_lt hm, wrap_u64', Nat.mul_comm _ d]
  generalize d * 2 ^ (7 * i) = q at hb ⊢
  omega

def rdR : Except Int (Nat × List UInt8) → Nat × RS
  | .ok (n, r) => (n, (0, r))
  | .error e => (0, (e, []))
theorem rdU_ok (b : List UInt8) : rdU (canon 0 b) = rdR (rdN 0 0 b) := by
  unfold rdU canon rdR
  simp only [ne_eq, not_true_eq_false, if_false, if_true]
  all_goals (cases rdN 0 0 b <;> rfl)
theorem rdU_err {e : Int} (b : List UInt8) (h : e ≠ 0) : rdU (canon e b) = (0, (e, [])) := by
  unfold rdU canon
  simp only [ne_eq, h, not_false_eq_true, if_true]

structure UI (R : Nat × RS) (L i : Nat) (n e : Int) (b : List UInt8) : Prop where
  l : b.length ≤ L
  il : i ≤ 10
  ok : e = 0 → i ≤ 9 ∧ ∃ m : Nat, n = m ∧ m < 128 ^ i ∧ R = rdR (rdN i m b)
  no : e ≠ 0 → R = (0, (e, []))

set_option maxRecDepth 100000 in
set_option maxRecDepth 8000 in
theorem rUint_c (p : Nat) (e0 : Int) (b0 : List UInt8) (hb : b0.length ≤ 1000000) (H : AH) :
    ACall Try.prog 77 [.ptr p 0 0] (RdH H p e0 b0) (fun y H' => y = .int .u64 (rdU (canon e0 b0)).1 ∧ ∃ e b, canon e b = (rdU (canon e0 b0)).2 ∧ b.length ≤ b0.length ∧ H' = RdH H p e b) := by
  obtain ⟨R, hR⟩ : ∃ R, R = rdU (canon e0 b0) := ⟨_, rfl⟩
  rw [← hR]
  refine ACall_of tt_ok (dok _) Try.func77 rfl (by decide) rfl ?_
  (repeat' ((conv => whnf); first | refine Then.mk ?_ | refine OpsA.cons ?_ | refine OpsA.nil ?_ | refine AWq.seq ?_ | refine AWq.region ?_ | refine AWq.cond ?_ | refine AWq.block ?_ | refine AWq.skip ?_ | refine AWq.ret ?_ | refine AWq.exit ?_ | refine AWq.loop ?_ | (refine Both.mk ?_ ?_ <;> intro hc <;> (first | exact Bool.noConfusion hc | exact absurd (by with_reducible rfl) hc | exact absurd (by assumption) hc | exact absurd hc (by assumption) | (exfalso; omega) | exact absurd hc (by decide) | skip)) | (intro c hc; (try (simp only [AH.none_iff] at hc; repeat (have hn := hc.1; replace hc := hc.2))); (first | (refine i64_k hc ?_ ?_ ?_ ; omega; omega; (clear hc; intro hc; subst hc)) | subst hc | skip)) | (apply Exists.intro; apply And.intro; (first | (focus (repeat (first | exact AH.set_same _ _ _)); done))) | (apply Exists.intro; apply And.intro; first | ((try simp only [List.getElem?_drop, Nat.mul_one, Nat.add_zero, Nat.zero_add]); first | rfl)) | (apply And.intro; (first | rfl | omega)))) <;> (try (conv => whnf))
  refine AWp_loop (σ := Nat × Int × Int × List UInt8) (2 :: 3 :: 4 :: 5 :: 6 :: 7 :: 8 :: 9 :: 10 :: 11 :: 12 :: 13 :: 14 :: 15 :: 16 :: 17 :: 18 :: 19 :: 20 :: 21 :: 22 :: 23 :: 24 :: 25 :: 26 :: 27 :: 28 :: 29 :: 30 :: 31 :: 32 :: 33 :: 34 :: 35 :: 36 :: 37 :: 38 :: 39 :: 40 :: 41 :: 42 :: 43 :: 44 :: 45 :: 46 :: 47 :: 48 :: []) (fun (i, n, e, b) => [(4, .int .i64 i), (3, .int .u64 n)]) (fun (i, n, e, b) => RdH H p e b) (fun (i, n, e, b) => UI R b0.length i n e b) (fun (i, n, e, b) => if e = 0 then b.length + 1 else 0) (0, 0, e0, b0) rfl ?_ ?_ ?_ ?_
  · refine ⟨Nat.le_refl _, by omega, fun h => ⟨by omega, 0, rfl, by simp, ?_⟩, fun h => ?_⟩
    · rw [hR, h, rdU_ok]
    · rw [hR, rdU_err _ h]
  · exact ⟨rfl, rfl, trivial⟩
  · exact HLe.refl _
  · rintro ⟨i, n, e, b⟩ hI
    refine AWp.of tt_ok (dok _) rfl ?_
    have hI : UI R b0.length i n e b := hI
    have hil := hI.il
    have hbl := hI.l
    by_cases he : e = 0
    · subst he
      obtain ⟨hi9, m, rfl, hm, hRm⟩ := hI.ok rfl
      by_cases hl : b.length = 0
      · have e1 : nx 0 b = (0, 3, b) := by unfold nx; rw [if_neg (by simp), if_pos hl]
        have hnx := next_c p 0 b (by omega) H
        rw [e1] at hnx
        dsimp only at hnx
        have hR3 : R = (0, (3, [])) := by
          have : b = [] := List.eq_nil_of_length_eq_zero hl
          rw [hRm, this]; rfl
        (repeat' ((conv => whnf); first | refine Then.mk ?_ | refine OpsA.cons ?_ | refine OpsA.nil ?_ | refine AWq.seq ?_ | refine AWq.region ?_ | refine AWq.cond ?_ | refine AWq.block ?_ | refine AWq.skip ?_ | refine AWq.ret ?_ | refine AWq.exit ?_ | refine AWq.loop ?_ | (refine Both.mk ?_ ?_ <;> intro hc <;> (first | exact Bool.noConfusion hc | exact absurd (by with_reducible rfl) hc | exact absurd (by assumption) hc | exact absurd hc (by assumption) | (exfalso; omega) | exact absurd hc (by decide) | skip)) | (intro c hc; (try (simp only [AH.none_iff] at hc; repeat (have hn := hc.1; replace hc := hc.2))); (first | (refine i64_k hc ?_ ?_ ?_ ; omega; omega; (clear hc; intro hc; subst hc)) | subst hc | skip)) | (apply Exists.intro; apply And.intro; (first | (focus (repeat (first | exact AH.set_same _ _ _)); done))) | (apply Exists.intro; apply And.intro; first | ((try simp only [List.getElem?_drop, Nat.mul_one, Nat.add_zero, Nat.zero_add]); first | rfl)) | (apply And.intro; (first | rfl | omega)) | (refine ACall.to (hnx) ?_) | (refine ACall.to (fail_c _ _ _ _ _) ?_))) <;> (try (conv => whnf))
        all_goals exact ⟨(i + 1, _, 3, b), ⟨by omega, by omega, fun h => absurd h (by decide), fun _ => hR3⟩, by simp, ⟨congrArg (AV.int .i64) (by omega), rfl, trivial⟩, HLe.refl _⟩
      · have e1 : nx 0 b = ((b.getD 0 0).toNat, 0, b.drop 1) := by unfold nx; rw [if_neg (by simp), if_neg hl]
        have hnx := next_c p 0 b (by omega) H
        rw [e1] at hnx
        dsimp only at hnx
        obtain ⟨c, hc⟩ : ∃ c, c = b.getD 0 0 := ⟨_, rfl⟩
        obtain ⟨t, ht⟩ : ∃ t, t = b.drop 1 := ⟨_, rfl⟩
        rw [← hc, ← ht] at hnx
        have hbc : b = c :: t := by
          cases b with
          | nil => simp at hl
          | cons x y => rw [hc, ht]; rfl
        have htl : t.length + 1 = b.length := by rw [hbc]; rfl
        have hc8 := c.toNat_lt
        rw [hbc, rdN] at hRm
        by_cases hbad : (i = 9 ∧ 1 < c.toNat) ∨ (0 < i ∧ c.toNat = 0)
        · rw [if_pos hbad] at hRm
          (repeat' ((conv => whnf); first | refine Then.mk ?_ | refine OpsA.cons ?_ | refine OpsA.nil ?_ | refine AWq.seq ?_ | refine AWq.region ?_ | refine AWq.cond ?_ | refine AWq.block ?_ | refine AWq.skip ?_ | refine AWq.ret ?_ | refine AWq.exit ?_ | refine AWq.loop ?_ | (refine Both.mk ?_ ?_ <;> intro hc <;> (first | exact Bool.noConfusion hc | exact absurd (by with_reducible rfl) hc | exact absurd (by assumption) hc | exact absurd hc (by assumption) | (exfalso; omega) | exact absurd hc (by decide) | skip)) | (intro c hc; (try (simp only [AH.none_iff] at hc; repeat (have hn := hc.1; replace hc := hc.2))); (first | (refine i64_k hc ?_ ?_ ?_ ; omega; omega; (clear hc; intro hc; subst hc)) | subst hc | skip)) | (apply Exists.intro; apply And.intro; (first | (focus (repeat (first | exact AH.set_same _ _ _)); done))) | (apply Exists.intro; apply And.intro; first | ((try simp only [List.getElem?_drop, Nat.mul_one, Nat.add_zero, Nat.zero_add]); first | rfl)) | (apply And.intro; (first | rfl | omega)) | (refine ACall.to (hnx) ?_) | (refine ACall.to (fail_c _ _ _ _ _) ?_))) <;> (try (conv => whnf))
          all_goals exact ⟨(i + 1, _, 2, t), ⟨by omega, by omega, fun h => absurd h (by decide), fun _ => hRm⟩, by simp, ⟨congrArg (AV.int .i64) (by omega), rfl, trivial⟩, HLe.refl _⟩
        · rw [if_neg hbad] at hRm
          have hor := or_shift hm hi9 (d := c.toNat % 128) (by omega) (by omega)
          (repeat' ((conv => whnf); first | refine Then.mk ?_ | refine OpsA.cons ?_ | refine OpsA.nil ?_ | refine AWq.seq ?_ | refine AWq.region ?_ | refine AWq.cond ?_ | refine AWq.block ?_ | refine AWq.skip ?_ | refine AWq.ret ?_ | refine AWq.exit ?_ | refine AWq.loop ?_ | (refine Both.mk ?_ ?_ <;> intro hc <;> (first | exact Bool.noConfusion hc | exact absurd (by with_reducible rfl) hc | exact absurd (by assumption) hc | exact absurd hc (by assumption) | (exfalso; omega) | exact absurd hc (by decide) | skip)) | (intro c hc; (try (simp only [AH.none_iff] at hc; repeat (have hn := hc.1; replace hc := hc.2))); (first | (refine i64_k hc ?_ ?_ ?_ ; omega; omega; (clear hc; intro hc; subst hc)) | subst hc | skip)) | (apply Exists.intro; apply And.intro; (first | (focus (repeat (first | exact AH.set_same _ _ _)); done))) | (apply Exists.intro; apply And.intro; first | ((try simp only [List.getElem?_drop, Nat.mul_one, Nat.add_zero, Nat.zero_add]); first | rfl)) | (apply And.intro; (first | rfl | omega)) | (refine ACall.to (hnx) ?_) | (refine ACall.to (fail_c _ _ _ _ _) ?_))) <;> (try (conv => whnf))
          all_goals first
            | (have hlt : c.toNat < 128 := by omega
               rw [if_pos hlt] at hRm
               rw [andNot128, show IntKind.u64.wrap ((c.toNat % 128 : Nat) : Int) = ((c.toNat % 128 : Nat) : Int) by rw [wrap_u64']; omega, show (7 * (i : Int)).toNat = 7 * i by omega]
               refine ⟨congrArg (AV.int .u64) (hor.trans ?_), 0, t, ?_, by omega, rfl⟩
               · rw [hRm, Nat.mod_eq_of_lt hlt]; rfl
               · rw [hRm, canon_ok]; rfl)
            | (have hge : ¬ c.toNat < 128 := by omega
               rw [if_neg hge] at hRm
               refine ⟨(i + 1, ((m + c.toNat % 128 * 128 ^ i : Nat) : Int), 0, t), ⟨by omega, by omega, fun _ => ⟨by omega, _, rfl, ?_, hRm⟩, fun h => absurd rfl h⟩, ?_, ⟨congrArg (AV.int .i64) (by omega), ?_, trivial⟩, HLe.refl _⟩
               · rw [Nat.pow_succ]
                 have : c.toNat % 128 * 128 ^ i ≤ 127 * 128 ^ i := Nat.mul_le_mul_right _ (by omega)
                 omega
               · show (if (0 : Int) = 0 then t.length + 1 else 0) < (if (0 : Int) = 0 then b.length + 1 else 0)
                 rw [if_pos rfl, if_pos rfl]; omega
               · refine congrArg (AV.int .u64) ?_
                 rw [andNot128, show IntKind.u64.wrap ((c.toNat % 128 : Nat) : Int) = ((c.toNat % 128 : Nat) : Int) by rw [wrap_u64']; omega, show (7 * (i : Int)).toNat = 7 * i by omega]
                 exact hor)
            | (exfalso; omega)
    · have hRe := hI.no he
      (repeat' ((conv => whnf); first | refine Then.mk ?_ | refine OpsA.cons ?_ | refine OpsA.nil ?_ | refine AWq.seq ?_ | refine AWq.region ?_ | refine AWq.cond ?_ | refine AWq.block ?_ | refine AWq.skip ?_ | refine AWq.ret ?_ | refine AWq.exit ?_ | refine AWq.loop ?_ | (refine Both.mk ?_ ?_ <;> intro hc <;> (first | exact Bool.noConfusion hc | exact absurd (by with_reducible rfl) hc | exact absurd (by assumption) hc | exact absurd hc (by assumption) | (exfalso; omega) | exact absurd hc (by decide) | skip)) | (intro c hc; (try (simp only [AH.none_iff] at hc; repeat (have hn := hc.1; replace hc := hc.2))); (first | (refine i64_k hc ?_ ?_ ?_ ; omega; omega; (clear hc; intro hc; subst hc)) | subst hc | skip)) | (apply Exists.intro; apply And.intro; (first | (focus (repeat (first | exact AH.set_same _ _ _)); done))) | (apply Exists.intro; apply And.intro; first | ((try simp only [List.getElem?_drop, Nat.mul_one, Nat.add_zero, Nat.zero_add]); first | rfl)) | (apply And.intro; (first | rfl | omega)))) <;> (try (conv => whnf))
      rw [hRe]
      exact ⟨rfl, e, b, canon_err b he, hbl, rfl⟩
end Go.Proofs.Ytebflkgpbbjhnaa
/- The walks of the reader, on. -/
namespace Go.Proofs.Ytebflkgpbbjhnaa
open Go.Fw Go
set_option linter.unusedVariables false
set_option linter.unusedSimpArgs false

set_option maxRecDepth 8000 in
theorem unzigzag_c (z : Nat) (hz : z < 2 ^ 64) (H : AH) : ACall Try.prog 76 [.int .u64 z] H (fun y H' => y = .int .i64 (unzz z) ∧ H' = H) := by
  refine ACall_of tt_ok (dok _) Try.func76 rfl (by decide) rfl ?_
  (repeat' ((conv => whnf); first | refine Then.mk ?_ | refine OpsA.cons ?_ | refine OpsA.nil ?_ | refine AWq.seq ?_ | refine AWq.region ?_ | refine AWq.ret ?_ | (intro c hc; (try (simp only [AH.none_iff] at hc; repeat (have hn := hc.1; replace hc := hc.2))); (first | subst hc)) | (apply And.intro; (first | rfl | omega)))) <;> (try (conv => whnf))
  refine ⟨congrArg (AV.int .i64) ?_, rfl⟩
  have e1 : (z : Int).fdiv (2 ^ min (Int.toNat 1) IntKind.u64.bits) = ((z / 2 : Nat) : Int) := by
    rw [show (2 : Int) ^ min (Int.toNat 1) IntKind.u64.bits = 2 by decide, Int.fdiv_eq_ediv_of_nonneg _ (by omega)]
    omega
  have e2 : bitsA .and .u64 (z : Int) 1 = ((z % 2 : Nat) : Int) := by
    show IntKind.u64.wrap ((BitVec.ofInt 64 (z : Int) &&& BitVec.ofInt 64 1).toNat : Int) = _
    have ha : (BitVec.ofInt 64 (z : Int)).toNat = z := by rw [BitVec.toNat_ofInt]; omega
    have hb : (BitVec.ofInt 64 1).toNat = 1 := by decide
    rw [BitVec.toNat_and, ha, hb, Nat.and_one_is_mod, wrap_u64']
    omega
  have e3 : IntKind.i64.wrap ((z / 2 : Nat) : Int) = ((z / 2 : Nat) : Int) := by rw [IntKind.wrap_i64]; omega
  rw [e1, e2, e3]
  show IntKind.i64.wrap ((BitVec.ofInt 64 ((z / 2 : Nat) : Int) ^^^ BitVec.ofInt 64 _).toNat : Int) = _
  have ha : (BitVec.ofInt 64 ((z / 2 : Nat) : Int)).toNat = z / 2 := by rw [BitVec.toNat_ofInt]; omega
  unfold unzz
  by_cases h : z % 2 = 1
  · rw [h, if_pos rfl, show BitVec.ofInt 64 (IntKind.i64.wrap (0 - IntKind.i64.wrap ((1 : Nat) : Int))) = BitVec.allOnes 64 by decide, BitVec.xor_allOnes, BitVec.toNat_not, ha, IntKind.wrap_i64]
    omega
  · have h0 : z % 2 = 0 := by omega
    rw [h0, if_neg (by omega), show BitVec.ofInt 64 (IntKind.i64.wrap (0 - IntKind.i64.wrap ((0 : Nat) : Int))) = 0#64 by decide, BitVec.xor_zero, ha, IntKind.wrap_i64]
    omega

theorem rdN_lt {bs : List UInt8} {m : Nat} {r : List UInt8} (h : rdN 0 0 bs = .ok (m, r)) : m < 2 ^ 64 ∧ r.length ≤ bs.length := by
  obtain ⟨n, hm, hb, hn, _⟩ := rdN_uniq bs 0 0 m r (by omega) h
  refine ⟨by omega, ?_⟩
  rw [hb, List.length_append]; omega
theorem rdU_lt (s : RS) : (rdU s).1 < 2 ^ 64 := by
  unfold rdU
  split
  · exact Nat.two_pow_pos 64
  · split
    · rename_i n r h; exact (rdN_lt h).1
    · exact Nat.two_pow_pos 64

theorem rdLen_bad {s : RS} (h : (rdU s).2.1 ≠ 0) : rdLen s = rdU s := by
  unfold rdLen; rw [if_neg (fun k => h k.1)]
theorem rdLen_more {s : RS} (h : (rdU s).2.1 = 0) (hl : (rdU s).2.2.length < (rdU s).1) : rdLen s = (0, (3, [])) := by
  unfold rdLen; rw [if_pos ⟨h, hl⟩]
theorem rdLen_ok {s : RS} (hl : ¬ (rdU s).2.2.length < (rdU s).1) : rdLen s = rdU s := by
  unfold rdLen; rw [if_neg (fun k => hl k.2)]
set_option maxRecDepth 8000 in
theorem rInt_c (p : Nat) (e0 : Int) (b0 : List UInt8) (hb : b0.length ≤ 1000000) (H : AH) :
    ACall Try.prog 54 [.ptr p 0 0] (RdH H p e0 b0) (fun y H' => y = .int .i64 (rdI (canon e0 b0)).1 ∧ ∃ e b, canon e b = (rdI (canon e0 b0)).2 ∧ b.length ≤ b0.length ∧ H' = RdH H p e b) := by
  have hlt := rdU_lt (canon e0 b0)
  have hu := rUint_c p e0 b0 hb H
  unfold rdI
  generalize rdU (canon e0 b0) = R at *
  refine ACall_of tt_ok (dok _) Try.func54 rfl (by decide) rfl ?_
  (repeat' ((conv => whnf); first | refine Then.mk ?_ | refine OpsA.cons ?_ | refine OpsA.nil ?_ | refine AWq.seq ?_ | refine AWq.region ?_ | refine AWq.ret ?_ | (apply And.intro; (first | rfl)))) <;> (try (conv => whnf))
  refine hu.mono ?_
  rintro y H' ⟨rfl, e, b, h1, h2, rfl⟩
  (repeat' ((conv => whnf); first | refine Then.mk ?_ | refine OpsA.cons ?_ | refine OpsA.nil ?_ | refine AWq.seq ?_ | refine AWq.region ?_ | refine AWq.ret ?_ | (apply And.intro; (first | rfl)) | (refine ACall.to (unzigzag_c R.1 hlt _) ?_))) <;> (try (conv => whnf))
  exact ⟨e, b, h1, h2, rfl⟩

theorem canon_fst (e : Int) (b : List UInt8) : (canon e b).1 = e := rfl

end Go.Proofs.Ytebflkgpbbjhnaa
