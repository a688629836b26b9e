/- For the law BalanceOverlaps, part 5 of 6: the frame of the walk, the walks of the functions, the plain law, the row. No conditions. -/
import Derived.Test.YtebflkgpbbjhnaaBalanceOverlapsM4
/- Overlaps: what they are; the walks of the small functions. -/
namespace Go.Proofs.Ytebflkgpbbjhnaa
open Go.Fw Go
set_option linter.unusedVariables false
set_option linter.unusedSimpArgs false

/-- Cells of a list of lists. -/
def vS (V : List (List Int)) : List AV := V.map fun r => .cs (iS .i64 r) r.length
@[simp] theorem vS_len (V : List (List Int)) : (vS V).length = V.length := by simp [vS]
theorem vS_get {V : List (List Int)} {i : Nat} (h : i < V.length) : (vS V)[i]? = some (.cs (iS .i64 (V.getD i [])) (V.getD i []).length) := by
  unfold vS; rw [List.getElem?_map, List.getD_eq_getElem?_getD, List.getElem?_eq_getElem h]; rfl
def difJ (a b : List Int) (j : Nat) : List Int := if 0 ≤ a.getD j 0 ∧ 0 ≤ b.getD j 0 then [b.getD j 0 - a.getD j 0] else []
/-- The differences at the first k places. -/
def difL (a b : List Int) (k : Nat) : List Int := (List.range k).flatMap (difJ a b)
theorem difL_succ (a b : List Int) (k : Nat) : difL a b (k + 1) = difL a b k ++ difJ a b k := by
  unfold difL; rw [List.range_succ, List.flatMap_append]; simp
theorem difL_len (a b : List Int) (k : Nat) : (difL a b k).length ≤ k := by
  induction k with
  | zero => simp [difL]
  | succ k ih =>
    rw [difL_succ, List.length_append]
    have : (difJ a b k).length ≤ 1 := by unfold difJ; split <;> simp
    omega
def midI (l : List Int) : Int := l.getD ((l.length - 1) / 2) 0
def pairE (a b : List Int) (i j : Nat) : List Ed :=
  if 0 < (difL a b a.length).length then [⟨i, j, midI (sortI (difL a b a.length)), ((difL a b a.length).length : Int)⟩] else []
/-- The edges of a scene with the next k ones. -/
def rowE (V : List (List Int)) (i k : Nat) : List Ed := (List.range k).flatMap fun m => pairE (V.getD i []) (V.getD (i + 1 + m) []) i (i + 1 + m)
def ovE (V : List (List Int)) (i : Nat) : List Ed := (List.range i).flatMap fun i => rowE V i (V.length - (i + 1))
theorem rowE_succ (V : List (List Int)) (i k : Nat) : rowE V i (k + 1) = rowE V i k ++ pairE (V.getD i []) (V.getD (i + 1 + k) []) i (i + 1 + k) := by
  unfold rowE; rw [List.range_succ, List.flatMap_append]; simp
theorem ovE_succ (V : List (List Int)) (i : Nat) : ovE V (i + 1) = ovE V i ++ rowE V i (V.length - (i + 1)) := by
  unfold ovE; rw [List.range_succ, List.flatMap_append]; simp
theorem pairE_len (a b : List Int) (i j : Nat) : (pairE a b i j).length ≤ 1 := by unfold pairE; split <;> simp
theorem rowE_len (V : List (List Int)) (i k : Nat) : (rowE V i k).length ≤ k := by
  induction k with
  | zero => simp [rowE]
  | succ k ih =>
    rw [rowE_succ, List.length_append]
    have := pairE_len (V.getD i []) (V.getD (i + 1 + k) []) i (i + 1 + k)
    omega
theorem ovE_len (V : List (List Int)) (i : Nat) : (ovE V i).length ≤ i * V.length := by
  induction i with
  | zero => simp [ovE]
  | succ i ih =>
    rw [ovE_succ, List.length_append, Nat.succ_mul]
    have := rowE_len V i (V.length - (i + 1))
    omega
def okI (x : Int) : Prop := -1 ≤ x ∧ x ≤ 65535
instance (x : Int) : Decidable (okI x) := by unfold okI; exact inferInstance
def okRow (n : Nat) (r : List Int) : Prop := r.length = n ∧ ∀ x ∈ r, okI x
instance (n : Nat) (r : List Int) : Decidable (okRow n r) := by unfold okRow; exact inferInstance
def okV (V : List (List Int)) : Prop := V.length ≤ 64 ∧ ∀ r ∈ V, okRow (V.getD 0 []).length r
instance (V : List (List Int)) : Decidable (okV V) := by unfold okV; exact inferInstance
/-- What Overlap returns. -/
def ovR (V : List (List Int)) : List Ed × Int := if okV V then (ovE V V.length, 0) else ([], 1)
/-- Lists of the law. -/
structure VI (V : List (List Int)) : Prop where
  n : V.length ≤ 65
  k : ∀ r ∈ V, r.length ≤ 12
  r : ∀ r ∈ V, ∀ x ∈ r, -9223372036854775808 ≤ x ∧ x ≤ 9223372036854775807
theorem vgetD_mem {V : List (List Int)} {i : Nat} (h : i < V.length) : V.getD i [] ∈ V := by
  rw [List.getD_eq_getElem?_getD, List.getElem?_eq_getElem h]; exact List.getElem_mem h

set_option maxRecDepth 8000 in
theorem ovl1_c (x : Int) (H : AH) : ACall Try.prog 60 [.int .i64 x] H (fun y H' => y = .bool (!decide (okI x)) ∧ H' = H) := by
  unfold okI
  by_cases h : -1 ≤ x ∧ x ≤ 65535
  · rw [decide_eq_true h]
    refine ACall_of tt_ok (dok _) Try.func60 rfl (by decide) rfl ?_
    (repeat' ((conv => whnf); first | refine Then.mk ?_ | refine OpsA.cons ?_ | refine OpsA.nil ?_ | refine AWq.seq ?_ | refine AWq.region ?_ | refine AWq.ret ?_ | (refine Both.mk ?_ ?_ <;> intro hc <;> (first | (exfalso; omega) | skip)) | (apply And.intro; (first | rfl)))) <;> (try (conv => whnf))
  · rw [decide_eq_false h]
    refine ACall_of tt_ok (dok _) Try.func60 rfl (by decide) rfl ?_
    (repeat' ((conv => whnf); first | refine Then.mk ?_ | refine OpsA.cons ?_ | refine OpsA.nil ?_ | refine AWq.seq ?_ | refine AWq.region ?_ | refine AWq.ret ?_ | (refine Both.mk ?_ ?_ <;> intro hc <;> (first | (exfalso; omega) | skip)) | (apply And.intro; (first | rfl)))) <;> (try (conv => whnf))
set_option maxHeartbeats 4000000 in
set_option maxRecDepth 8000 in
theorem put_c (l : List Int) (hl : l.length ≤ 1000) (d : Int) (H : AH) :
    ACall Try.prog 62 [.cs (iS .i64 l) l.length, .int .i64 d] H (fun y H' => y = .cs (iS .i64 (insI d l)) (insI d l).length ∧ H' = H) := by
  refine ACall.cold (es := 1) (by simp) ?_
  have hil : (iS .i64 l).length = l.length := by simp
  refine ACall_of tt_ok (dok _) Try.func62 rfl (by decide) rfl ?_
  (repeat' ((conv => whnf); first | refine Then.mk ?_ | left | refine OpsA.cons ?_ | refine OpsA.nil ?_ | refine AWq.seq ?_ | refine AWq.region ?_ | refine AWq.cond ?_ | refine AWq.block ?_ | refine AWq.skip ?_ | refine AWq.ret ?_ | refine AWq.exit ?_ | refine AWq.loop ?_ | (refine Both.mk ?_ ?_ <;> intro hc <;> (first | exact Bool.noConfusion hc | exact absurd (by assumption) hc | exact absurd hc (by assumption) | (exfalso; omega) | skip)) | (intro c hc; (try (simp only [AH.none_iff] at hc; repeat (have hn := hc.1; replace hc := hc.2))); (first | (refine i64_k hc ?_ ?_ ?_ ; omega; omega; (clear hc; intro hc; subst hc)) | skip)) | (apply Exists.intro; apply And.intro; (first | (focus (repeat (first | (with_reducible assumption) | (with_reducible exact AH.set_same _ _ _))); done))) | (apply Exists.intro; apply And.intro; first | (with_reducible assumption) | ((try simp only [List.getElem?_drop, Nat.mul_one, Nat.add_zero, Nat.zero_add]); first | (with_reducible assumption) | rfl)) | (apply And.intro; (first | rfl | (with_reducible assumption) | omega | (simp <;> fail) | (simp <;> omega) | (focus (repeat' (first | (with_reducible assumption) | exact one_iS _ _ | rfl | apply one_take | apply one_drop)); done))))) <;> (try (conv => whnf))
  refine AWp_loop (σ := Nat) (5 :: 7 :: 8 :: 9 :: 10 :: 11 :: 12 :: 13 :: 14 :: 15 :: 16 :: 17 :: 18 :: 19 :: 20 :: []) (fun i => [(5, .int .i64 i)]) (fun _ => H) (fun i => i ≤ l.length ∧ ∀ x ∈ l.take i, x ≤ d) (fun i => l.length - i) 0 rfl ⟨Nat.zero_le _, fun x hx => by simp at hx⟩ ⟨rfl, trivial⟩ (HLe.refl _) ?_
  rintro i ⟨hi, hin⟩
  refine AWp.of tt_ok (dok _) rfl ?_
  dsimp only
  have key : (∀ b, (l.drop i).head? = some b → d < b) → insI d l = l.take i ++ ([d] ++ l.drop i) := fun h => by
    have := insI_at hin h
    rwa [List.take_append_drop] at this
  by_cases hlt : i < l.length
  · have hg : (iS .i64 l)[(i : Int).toNat]? = some (.int .i64 (l.getD i 0)) := iS_get hlt
    have hx : l[i]? = some (l.getD i 0) := by rw [List.getD_eq_getElem?_getD, List.getElem?_eq_getElem hlt]; rfl
    by_cases hle : l.getD i 0 ≤ d
    · clear key
      (repeat' ((conv => whnf); first | refine Then.mk ?_ | left | refine OpsA.cons ?_ | refine OpsA.nil ?_ | refine AWq.seq ?_ | refine AWq.region ?_ | refine AWq.cond ?_ | refine AWq.block ?_ | refine AWq.skip ?_ | refine AWq.ret ?_ | refine AWq.exit ?_ | refine AWq.loop ?_ | (refine Both.mk ?_ ?_ <;> intro hc <;> (first | exact Bool.noConfusion hc | exact absurd (by assumption) hc | exact absurd hc (by assumption) | (exfalso; omega) | skip)) | (intro c hc; (try (simp only [AH.none_iff] at hc; repeat (have hn := hc.1; replace hc := hc.2))); (first | (refine i64_k hc ?_ ?_ ?_ ; omega; omega; (clear hc; intro hc; subst hc)) | skip)) | (apply Exists.intro; apply And.intro; (first | (focus (repeat (first | (with_reducible assumption) | (with_reducible exact AH.set_same _ _ _))); done))) | (apply Exists.intro; apply And.intro; first | (with_reducible assumption) | ((try simp only [List.getElem?_drop, Nat.mul_one, Nat.add_zero, Nat.zero_add]); first | (with_reducible assumption) | rfl)) | (apply And.intro; (first | rfl | (with_reducible assumption) | omega | (simp <;> fail) | (simp <;> omega) | (focus (repeat' (first | (with_reducible assumption) | exact one_iS _ _ | rfl | apply one_take | apply one_drop)); done))))) <;> (try (conv => whnf))
      exact ⟨i + 1, ⟨hlt, all_take hx hin hle⟩, show l.length - (i + 1) < l.length - i by omega, ⟨congrArg (AV.int .i64) (by omega), trivial⟩, HLe.refl _⟩
    · have hk := key (fun b hb => by
        rw [List.drop_eq_getElem_cons hlt] at hb
        have e : l.getD i 0 = l[i] := by rw [List.getD_eq_getElem?_getD, List.getElem?_eq_getElem hlt]; rfl
        have hb : l[i] = b := Option.some.inj hb
        omega)
      clear key
      (repeat' ((conv => whnf); first | refine Then.mk ?_ | left | refine OpsA.cons ?_ | refine OpsA.nil ?_ | refine AWq.seq ?_ | refine AWq.region ?_ | refine AWq.cond ?_ | refine AWq.block ?_ | refine AWq.skip ?_ | refine AWq.ret ?_ | refine AWq.exit ?_ | refine AWq.loop ?_ | (refine Both.mk ?_ ?_ <;> intro hc <;> (first | exact Bool.noConfusion hc | exact absurd (by assumption) hc | exact absurd hc (by assumption) | (exfalso; omega) | skip)) | (intro c hc; (try (simp only [AH.none_iff] at hc; repeat (have hn := hc.1; replace hc := hc.2))); (first | (refine i64_k hc ?_ ?_ ?_ ; omega; omega; (clear hc; intro hc; subst hc)) | skip)) | (apply Exists.intro; apply And.intro; (first | (focus (repeat (first | (with_reducible assumption) | (with_reducible exact AH.set_same _ _ _))); done))) | (apply Exists.intro; apply And.intro; first | (with_reducible assumption) | ((try simp only [List.getElem?_drop, Nat.mul_one, Nat.add_zero, Nat.zero_add]); first | (with_reducible assumption) | rfl)) | (apply And.intro; (first | rfl | (with_reducible assumption) | omega | (simp <;> fail) | (simp <;> omega) | (focus (repeat' (first | (with_reducible assumption) | exact one_iS _ _ | rfl | apply one_take | apply one_drop)); done))))) <;> (try (conv => whnf))
      refine ⟨0 + 1 + 1, by rw [insI_len, show (i : Int).toNat + 1 + (l.length - (i : Int).toNat) = l.length + 1 by omega], ?_⟩
      rw [AH.set_set, AH.set_set, hk, ← iS_append, ← iS_append, ← iS_take, ← iS_drop, show (i : Int).toNat * 1 = i by omega, List.append_assoc]
      rfl
  · have hk := key (fun b hb => by rw [List.drop_of_length_le (by omega)] at hb; simp at hb)
    clear key
    (repeat' ((conv => whnf); first | refine Then.mk ?_ | left | refine OpsA.cons ?_ | refine OpsA.nil ?_ | refine AWq.seq ?_ | refine AWq.region ?_ | refine AWq.cond ?_ | refine AWq.block ?_ | refine AWq.skip ?_ | refine AWq.ret ?_ | refine AWq.exit ?_ | refine AWq.loop ?_ | (refine Both.mk ?_ ?_ <;> intro hc <;> (first | exact Bool.noConfusion hc | exact absurd (by assumption) hc | exact absurd hc (by assumption) | (exfalso; omega) | skip)) | (intro c hc; (try (simp only [AH.none_iff] at hc; repeat (have hn := hc.1; replace hc := hc.2))); (first | (refine i64_k hc ?_ ?_ ?_ ; omega; omega; (clear hc; intro hc; subst hc)) | skip)) | (apply Exists.intro; apply And.intro; (first | (focus (repeat (first | (with_reducible assumption) | (with_reducible exact AH.set_same _ _ _))); done))) | (apply Exists.intro; apply And.intro; first | (with_reducible assumption) | ((try simp only [List.getElem?_drop, Nat.mul_one, Nat.add_zero, Nat.zero_add]); first | (with_reducible assumption) | rfl)) | (apply And.intro; (first | rfl | (with_reducible assumption) | omega | (simp <;> fail) | (simp <;> omega) | (focus (repeat' (first | (with_reducible assumption) | exact one_iS _ _ | rfl | apply one_take | apply one_drop)); done))))) <;> (try (conv => whnf))
    refine ⟨0 + 1 + 1, by rw [insI_len, show (i : Int).toNat + 1 + (l.length - (i : Int).toNat) = l.length + 1 by omega], ?_⟩
    rw [AH.set_set, AH.set_set, hk, ← iS_append, ← iS_append, ← iS_take, ← iS_drop, show (i : Int).toNat * 1 = i by omega, List.append_assoc]
    rfl
end Go.Proofs.Ytebflkgpbbjhnaa
/- The walk of Overlap. -/
namespace Go.Proofs.Ytebflkgpbbjhnaa
open Go.Fw Go
set_option linter.unusedVariables false
set_option linter.unusedSimpArgs false

theorem all_takeV {V : List (List Int)} {q : List Int → Prop} {i : Nat} (h : i < V.length) (h1 : ∀ y ∈ V.take i, q y) (hx : q (V.getD i [])) : ∀ y ∈ V.take (i + 1), q y :=
  all_take (x := V.getD i []) (by rw [List.getD_eq_getElem?_getD, List.getElem?_eq_getElem h]; rfl) h1 hx
theorem AVle.ovErr : AVle (.tup [.nils, .int .i64 1]) (.tup [.cs (edL []) 0, .int .i64 1]) := AVle.tup (AVles.cons AVle.nils (AVles.refl _))
set_option maxHeartbeats 8000000 in
set_option maxRecDepth 8000 in
theorem overlap_c (V : List (List Int)) (hV : VI V) (H : AH) :
    ACall Try.prog 33 [.cs (vS V) V.length] H (fun y H' => y = .tup [.cs (edL (ovR V).1) (ovR V).1.length, .int .i64 (ovR V).2] ∧ H' = H) := by
  have hVn := hV.n
  refine ACall.told ?_
  have hvl := vS_len V
  by_cases h64 : 64 < V.length
  · rw [show ovR V = ([], 1) from if_neg (fun h => by have := h.1; omega)]
    refine ACall_of tt_ok (dok _) Try.func33 rfl (by decide) rfl ?_
    (repeat' ((conv => whnf); first | refine Then.mk ?_ | left | refine OpsA.cons ?_ | refine OpsA.nil ?_ | refine AWq.seq ?_ | refine AWq.region ?_ | refine AWq.cond ?_ | refine AWq.block ?_ | refine AWq.skip ?_ | refine AWq.ret ?_ | refine AWq.exit ?_ | refine AWq.loop ?_ | (refine Both.mk ?_ ?_ <;> intro hc <;> (first | exact Bool.noConfusion hc | exact absurd (by assumption) hc | exact absurd hc (by assumption) | (exfalso; omega) | skip)) | (intro c hc; (try (simp only [AH.none_iff] at hc; repeat (have hn := hc.1; replace hc := hc.2))); (first | (have hc2 := Eq.trans hc (by with_reducible assumption); clear hc; subst hc2) | (refine i64_k hc ?_ ?_ ?_ ; omega; omega; (clear hc; intro hc; subst hc)) | subst hc | skip)) | (apply Exists.intro; apply And.intro; (first | (focus (repeat (first | (with_reducible assumption) | (with_reducible exact AH.set_same _ _ _) | ((first | refine AH.get_ne ?_ ?_); (first | (with_reducible assumption) | exact Ne.symm (by with_reducible assumption))))); done) | (focus (repeat (first | assumption)); done))) | (apply Exists.intro; apply And.intro; first | (with_reducible assumption) | ((try simp only [List.getElem?_drop, Nat.mul_one, Nat.add_zero, Nat.zero_add]); first | (with_reducible assumption) | assumption | rfl)) | (apply And.intro; (first | rfl | (with_reducible assumption) | exact Nat.le_of_ble_eq_true rfl | omega | assumption)))) <;> (try (conv => whnf))
    exact ⟨_, H, AVle.ovErr, by (first | ((repeat' (first | (with_reducible exact HLe.refl _) | (with_reducible assumption))); done)), rfl, rfl⟩
  refine ACall_of tt_ok (dok _) Try.func33 rfl (by decide) rfl ?_
  (repeat' ((conv => whnf); first | refine Then.mk ?_ | left | refine OpsA.cons ?_ | refine OpsA.nil ?_ | refine AWq.seq ?_ | refine AWq.region ?_ | refine AWq.cond ?_ | refine AWq.block ?_ | refine AWq.skip ?_ | refine AWq.ret ?_ | refine AWq.exit ?_ | refine AWq.loop ?_ | (refine Both.mk ?_ ?_ <;> intro hc <;> (first | exact Bool.noConfusion hc | exact absurd (by assumption) hc | exact absurd hc (by assumption) | (exfalso; omega) | skip)) | (intro c hc; (try (simp only [AH.none_iff] at hc; repeat (have hn := hc.1; replace hc := hc.2))); (first | (have hc2 := Eq.trans hc (by with_reducible assumption); clear hc; subst hc2) | (refine i64_k hc ?_ ?_ ?_ ; omega; omega; (clear hc; intro hc; subst hc)) | subst hc | skip)) | (apply Exists.intro; apply And.intro; (first | (focus (repeat (first | (with_reducible assumption) | (with_reducible exact AH.set_same _ _ _) | ((first | refine AH.get_ne ?_ ?_); (first | (with_reducible assumption) | exact Ne.symm (by with_reducible assumption))))); done) | (focus (repeat (first | assumption)); done))) | (apply Exists.intro; apply And.intro; first | (with_reducible assumption) | ((try simp only [List.getElem?_drop, Nat.mul_one, Nat.add_zero, Nat.zero_add]); first | (with_reducible assumption) | assumption | rfl)) | (apply And.intro; (first | rfl | (with_reducible assumption) | exact Nat.le_of_ble_eq_true rfl | omega | assumption)))) <;> (try (conv => whnf))
  refine AWp_loop (σ := Nat) (2 :: 3 :: 5 :: 18 :: 19 :: 20 :: 21 :: 22 :: 23 :: 24 :: 25 :: 26 :: 27 :: 28 :: 29 :: 30 :: 31 :: 32 :: 33 :: []) (fun i => [(18, .int .i64 i)]) (fun _ => H) (fun i => i ≤ V.length ∧ ∀ r ∈ V.take i, okRow (V.getD 0 []).length r) (fun i => V.length - i) 0 rfl ⟨Nat.zero_le _, fun x hx => by simp at hx⟩ ⟨rfl, trivial⟩ (HLe.refl _) ?_
  rintro i ⟨hi, hin⟩
  refine AWp.of tt_ok (dok _) rfl ?_
  dsimp only at hi ⊢
  by_cases hlt : i < V.length
  · have hg : (vS V)[(i : Int).toNat]? = some (.cs (iS .i64 (V.getD i [])) (V.getD i []).length) := vS_get hlt
    have hg0 : (vS V)[(0 : Int).toNat]? = some (.cs (iS .i64 (V.getD 0 [])) (V.getD 0 []).length) := vS_get (by omega)
    have hk := hV.k _ (vgetD_mem hlt)
    have hcf := fun H => contains0_c (fun x => !decide (okI x)) 60 (V.getD i []) (by omega) H (fun x _ => ovl1_c x H)
    have hat := all_takeV (q := okRow (V.getD 0 []).length) hlt hin
    have hbad : ¬ okRow (V.getD 0 []).length (V.getD i []) → ovR V = ([], 1) := fun hn => if_neg (fun h => hn (h.2 _ (vgetD_mem hlt)))
    generalize V.getD i [] = R at *
    generalize V.getD 0 [] = R0 at *
    by_cases hl : R.length = R0.length
    · by_cases ho : ∀ x ∈ R, okI x
      · have hat := hat ⟨hl, ho⟩
        have hf : R.any (fun x => !decide (okI x)) = false := by
          rw [List.any_eq_false]; intro x hx; simp [ho x hx]
        rw [hf] at hcf
        (repeat' ((conv => whnf); first | refine Then.mk ?_ | left | refine OpsA.cons ?_ | refine OpsA.nil ?_ | refine AWq.seq ?_ | refine AWq.region ?_ | refine AWq.cond ?_ | refine AWq.block ?_ | refine AWq.skip ?_ | refine AWq.ret ?_ | refine AWq.exit ?_ | refine AWq.loop ?_ | (refine Both.mk ?_ ?_ <;> intro hc <;> (first | exact Bool.noConfusion hc | exact absurd (by assumption) hc | exact absurd hc (by assumption) | (exfalso; omega) | skip)) | (intro c hc; (try (simp only [AH.none_iff] at hc; repeat (have hn := hc.1; replace hc := hc.2))); (first | (have hc2 := Eq.trans hc (by with_reducible assumption); clear hc; subst hc2) | (refine i64_k hc ?_ ?_ ?_ ; omega; omega; (clear hc; intro hc; subst hc)) | subst hc | skip)) | (apply Exists.intro; apply And.intro; (first | (focus (repeat (first | (with_reducible assumption) | (with_reducible exact AH.set_same _ _ _) | ((first | refine AH.get_ne ?_ ?_); (first | (with_reducible assumption) | exact Ne.symm (by with_reducible assumption))))); done) | (focus (repeat (first | assumption)); done))) | (apply Exists.intro; apply And.intro; first | (with_reducible assumption) | ((try simp only [List.getElem?_drop, Nat.mul_one, Nat.add_zero, Nat.zero_add]); first | (with_reducible assumption) | assumption | rfl)) | (apply And.intro; (first | rfl | (with_reducible assumption) | exact Nat.le_of_ble_eq_true rfl | omega | assumption)) | (refine ACall.to (hcf _) ?_))) <;> (try (conv => whnf))
        exact ⟨i + 1, ⟨hlt, hat⟩, show V.length - (i + 1) < V.length - i by omega, ⟨congrArg (AV.int .i64) (by omega), trivial⟩, HLe.refl _⟩
      · have hf : R.any (fun x => !decide (okI x)) = true := by
          simp only [List.any_eq_true]
          simp only [Classical.not_forall] at ho
          obtain ⟨x, hx, hn⟩ := ho
          exact ⟨x, hx, by simp [hn]⟩
        rw [hf] at hcf
        rw [hbad (fun h => ho h.2)]
        (repeat' ((conv => whnf); first | refine Then.mk ?_ | left | refine OpsA.cons ?_ | refine OpsA.nil ?_ | refine AWq.seq ?_ | refine AWq.region ?_ | refine AWq.cond ?_ | refine AWq.block ?_ | refine AWq.skip ?_ | refine AWq.ret ?_ | refine AWq.exit ?_ | refine AWq.loop ?_ | (refine Both.mk ?_ ?_ <;> intro hc <;> (first | exact Bool.noConfusion hc | exact absurd (by assumption) hc | exact absurd hc (by assumption) | (exfalso; omega) | skip)) | (intro c hc; (try (simp only [AH.none_iff] at hc; repeat (have hn := hc.1; replace hc := hc.2))); (first | (have hc2 := Eq.trans hc (by with_reducible assumption); clear hc; subst hc2) | (refine i64_k hc ?_ ?_ ?_ ; omega; omega; (clear hc; intro hc; subst hc)) | subst hc | skip)) | (apply Exists.intro; apply And.intro; (first | (focus (repeat (first | (with_reducible assumption) | (with_reducible exact AH.set_same _ _ _) | ((first | refine AH.get_ne ?_ ?_); (first | (with_reducible assumption) | exact Ne.symm (by with_reducible assumption))))); done) | (focus (repeat (first | assumption)); done))) | (apply Exists.intro; apply And.intro; first | (with_reducible assumption) | ((try simp only [List.getElem?_drop, Nat.mul_one, Nat.add_zero, Nat.zero_add]); first | (with_reducible assumption) | assumption | rfl)) | (apply And.intro; (first | rfl | (with_reducible assumption) | exact Nat.le_of_ble_eq_true rfl | omega | assumption)) | (refine ACall.to (hcf _) ?_))) <;> (try (conv => whnf))
        exact ⟨_, H, AVle.ovErr, by (first | ((repeat' (first | (with_reducible exact HLe.refl _) | (with_reducible assumption))); done)), rfl, rfl⟩
    · rw [hbad (fun h => hl h.1)]
      (repeat' ((conv => whnf); first | refine Then.mk ?_ | left | refine OpsA.cons ?_ | refine OpsA.nil ?_ | refine AWq.seq ?_ | refine AWq.region ?_ | refine AWq.cond ?_ | refine AWq.block ?_ | refine AWq.skip ?_ | refine AWq.ret ?_ | refine AWq.exit ?_ | refine AWq.loop ?_ | (refine Both.mk ?_ ?_ <;> intro hc <;> (first | exact Bool.noConfusion hc | exact absurd (by assumption) hc | exact absurd hc (by assumption) | (exfalso; omega) | skip)) | (intro c hc; (try (simp only [AH.none_iff] at hc; repeat (have hn := hc.1; replace hc := hc.2))); (first | (have hc2 := Eq.trans hc (by with_reducible assumption); clear hc; subst hc2) | (refine i64_k hc ?_ ?_ ?_ ; omega; omega; (clear hc; intro hc; subst hc)) | subst hc | skip)) | (apply Exists.intro; apply And.intro; (first | (focus (repeat (first | (with_reducible assumption) | (with_reducible exact AH.set_same _ _ _) | ((first | refine AH.get_ne ?_ ?_); (first | (with_reducible assumption) | exact Ne.symm (by with_reducible assumption))))); done) | (focus (repeat (first | assumption)); done))) | (apply Exists.intro; apply And.intro; first | (with_reducible assumption) | ((try simp only [List.getElem?_drop, Nat.mul_one, Nat.add_zero, Nat.zero_add]); first | (with_reducible assumption) | assumption | rfl)) | (apply And.intro; (first | rfl | (with_reducible assumption) | exact Nat.le_of_ble_eq_true rfl | omega | assumption)) | (refine ACall.to (hcf _) ?_))) <;> (try (conv => whnf))
      exact ⟨_, H, AVle.ovErr, by (first | ((repeat' (first | (with_reducible exact HLe.refl _) | (with_reducible assumption))); done)), rfl, rfl⟩
  have hall : okV V := ⟨by omega, by rwa [List.take_of_length_le (by omega)] at hin⟩
  rw [show ovR V = (ovE V V.length, 0) from if_pos hall]
  clear hin
  (iterate 2 ((repeat' ((conv => whnf); first | left | refine OpsA.cons ?_ | refine OpsA.nil ?_ | refine AWq.seq ?_ | refine AWq.region ?_ | refine AWq.cond ?_ | refine AWq.block ?_ | refine AWq.skip ?_ | refine AWq.ret ?_ | refine AWq.exit ?_ | refine AWq.loop ?_ | (refine Both.mk ?_ ?_ <;> intro hc <;> (first | exact Bool.noConfusion hc | exact absurd (by assumption) hc | exact absurd hc (by assumption) | (exfalso; omega) | skip)) | (intro c hc; (try (simp only [AH.none_iff] at hc; repeat (have hn := hc.1; replace hc := hc.2))); (first | (have hc2 := Eq.trans hc (by with_reducible assumption); clear hc; subst hc2) | (refine i64_k hc ?_ ?_ ?_ ; omega; omega; (clear hc; intro hc; subst hc)) | subst hc | skip)) | (apply Exists.intro; apply And.intro; (first | (focus (repeat (first | (with_reducible assumption) | (with_reducible exact AH.set_same _ _ _) | ((first | refine AH.get_ne ?_ ?_); (first | (with_reducible assumption) | exact Ne.symm (by with_reducible assumption))))); done) | (focus (repeat (first | assumption)); done))) | (apply Exists.intro; apply And.intro; first | (with_reducible assumption) | ((try simp only [List.getElem?_drop, Nat.mul_one, Nat.add_zero, Nat.zero_add]); first | (with_reducible assumption) | assumption | rfl)) | (apply And.intro; (first | rfl | (with_reducible assumption) | exact Nat.le_of_ble_eq_true rfl | omega | assumption)))) <;> (try (conv => whnf)); refine Then.mk ?_))
  (repeat' ((conv => whnf); first | left | refine OpsA.cons ?_ | refine OpsA.nil ?_ | refine AWq.seq ?_ | refine AWq.region ?_ | refine AWq.cond ?_ | refine AWq.block ?_ | refine AWq.skip ?_ | refine AWq.ret ?_ | refine AWq.exit ?_ | refine AWq.loop ?_ | (refine Both.mk ?_ ?_ <;> intro hc <;> (first | exact Bool.noConfusion hc | exact absurd (by assumption) hc | exact absurd hc (by assumption) | (exfalso; omega) | skip)) | (intro c hc; (try (simp only [AH.none_iff] at hc; repeat (have hn := hc.1; replace hc := hc.2))); (first | (have hc2 := Eq.trans hc (by with_reducible assumption); clear hc; subst hc2) | (refine i64_k hc ?_ ?_ ?_ ; omega; omega; (clear hc; intro hc; subst hc)) | subst hc | skip)) | (apply Exists.intro; apply And.intro; (first | (focus (repeat (first | (with_reducible assumption) | (with_reducible exact AH.set_same _ _ _) | ((first | refine AH.get_ne ?_ ?_); (first | (with_reducible assumption) | exact Ne.symm (by with_reducible assumption))))); done) | (focus (repeat (first | assumption)); done))) | (apply Exists.intro; apply And.intro; first | (with_reducible assumption) | ((try simp only [List.getElem?_drop, Nat.mul_one, Nat.add_zero, Nat.zero_add]); first | (with_reducible assumption) | assumption | rfl)) | (apply And.intro; (first | rfl | (with_reducible assumption) | exact Nat.le_of_ble_eq_true rfl | omega | assumption)))) <;> (try (conv => whnf))
  refine Then.mk (AWq.in ?_)
  refine AWp_nilrow1 6 4 rfl rfl fun r6 hr6 => ?_
  refine AWp.of tt_ok (dok _) rfl ?_
  (repeat' ((conv => whnf); first | refine Then.mk ?_ | left | refine OpsA.cons ?_ | refine OpsA.nil ?_ | refine AWq.seq ?_ | refine AWq.region ?_ | refine AWq.cond ?_ | refine AWq.block ?_ | refine AWq.skip ?_ | refine AWq.ret ?_ | refine AWq.exit ?_ | refine AWq.loop ?_ | (refine Both.mk ?_ ?_ <;> intro hc <;> (first | exact Bool.noConfusion hc | exact absurd (by assumption) hc | exact absurd hc (by assumption) | (exfalso; omega) | skip)) | (intro c hc; (try (simp only [AH.none_iff] at hc; repeat (have hn := hc.1; replace hc := hc.2))); (first | (have hc2 := Eq.trans hc (by with_reducible assumption); clear hc; subst hc2) | (refine i64_k hc ?_ ?_ ?_ ; omega; omega; (clear hc; intro hc; subst hc)) | subst hc | skip)) | (apply Exists.intro; apply And.intro; (first | (focus (repeat (first | (with_reducible assumption) | (with_reducible exact AH.set_same _ _ _) | ((first | refine AH.get_ne ?_ ?_); (first | (with_reducible assumption) | exact Ne.symm (by with_reducible assumption))))); done) | (focus (repeat (first | assumption)); done))) | (apply Exists.intro; apply And.intro; first | (with_reducible assumption) | ((try simp only [List.getElem?_drop, Nat.mul_one, Nat.add_zero, Nat.zero_add]); first | (with_reducible assumption) | assumption | rfl)) | (apply And.intro; (first | rfl | (with_reducible assumption) | exact Nat.le_of_ble_eq_true rfl | omega | assumption)))) <;> (try (conv => whnf))
  refine AWp_loop (σ := Nat) (6 :: 7 :: 8 :: 9 :: 10 :: 11 :: 12 :: 36 :: 37 :: 38 :: 39 :: 40 :: 41 :: 42 :: 43 :: 44 :: 45 :: 46 :: 47 :: 48 :: 49 :: 50 :: 51 :: 52 :: 53 :: 54 :: 55 :: 56 :: 57 :: 58 :: 59 :: 60 :: 61 :: 62 :: 63 :: 64 :: 65 :: 66 :: 67 :: 68 :: 69 :: 70 :: 71 :: 72 :: 73 :: 74 :: 75 :: 76 :: 77 :: 78 :: 79 :: 80 :: 81 :: 82 :: 83 :: 84 :: 85 :: 86 :: 87 :: 88 :: 89 :: 90 :: 91 :: 92 :: 93 :: 94 :: 95 :: 96 :: 97 :: 98 :: []) (fun i => [(36, .int .i64 i), (6, .sl r6 (ovE V i).length 4 0 (ovE V i).length none)]) (fun i => H.set r6 (.row (edL (ovE V i)) (ovE V i).length)) (fun i => i ≤ V.length) (fun i => V.length - i) 0 rfl (Nat.zero_le _) ⟨rfl, rfl, trivial⟩ (HLe.refl _) ?_
  intro i hi
  refine AWp.of tt_ok (dok _) rfl ?_
  dsimp only at hi ⊢
  by_cases hlt : i < V.length
  · have hEl := ovE_len V i
    have hEl2 : i * V.length ≤ 64 * 64 := Nat.mul_le_mul (by omega) (by omega)
    have hfl := edL_len (ovE V i)
    have hst := ovE_succ V i
    have hga : (vS V)[(i : Int).toNat]? = some (.cs (iS .i64 (V.getD i [])) (V.getD i []).length) := vS_get hlt
    have hka := hV.k _ (vgetD_mem hlt)
    have hra := hV.r _ (vgetD_mem hlt)
    have hoa := hall.2 _ (vgetD_mem hlt)
    generalize hE' : ovE V (i + 1) = E' at *
    generalize ovE V i = E at *
    (repeat' ((conv => whnf); first | refine Then.mk ?_ | left | refine OpsA.cons ?_ | refine OpsA.nil ?_ | refine AWq.seq ?_ | refine AWq.region ?_ | refine AWq.cond ?_ | refine AWq.block ?_ | refine AWq.skip ?_ | refine AWq.ret ?_ | refine AWq.exit ?_ | refine AWq.loop ?_ | (refine Both.mk ?_ ?_ <;> intro hc <;> (first | exact Bool.noConfusion hc | exact absurd (by assumption) hc | exact absurd hc (by assumption) | (exfalso; omega) | skip)) | (intro c hc; (try (simp only [AH.none_iff] at hc; repeat (have hn := hc.1; replace hc := hc.2))); (first | (have hc2 := Eq.trans hc (by with_reducible assumption); clear hc; subst hc2) | (refine i64_k hc ?_ ?_ ?_ ; omega; omega; (clear hc; intro hc; subst hc)) | subst hc | skip)) | (apply Exists.intro; apply And.intro; (first | (focus (repeat (first | (with_reducible assumption) | (with_reducible exact AH.set_same _ _ _) | ((first | refine AH.get_ne ?_ ?_); (first | (with_reducible assumption) | exact Ne.symm (by with_reducible assumption))))); done) | (focus (repeat (first | assumption)); done))) | (apply Exists.intro; apply And.intro; first | (with_reducible assumption) | ((try simp only [List.getElem?_drop, Nat.mul_one, Nat.add_zero, Nat.zero_add]); first | (with_reducible assumption) | assumption | rfl)) | (apply And.intro; (first | rfl | (with_reducible assumption) | exact Nat.le_of_ble_eq_true rfl | omega | assumption)))) <;> (try (conv => whnf))
    refine AWp_loop (σ := Nat) (6 :: 8 :: 9 :: 10 :: 11 :: 12 :: 41 :: 42 :: 43 :: 44 :: 45 :: 46 :: 47 :: 48 :: 49 :: 50 :: 51 :: 52 :: 53 :: 54 :: 55 :: 56 :: 57 :: 58 :: 59 :: 60 :: 61 :: 62 :: 63 :: 64 :: 65 :: 66 :: 67 :: 68 :: 69 :: 70 :: 71 :: 72 :: 73 :: 74 :: 75 :: 76 :: 77 :: 78 :: 79 :: 80 :: 81 :: 82 :: 83 :: 84 :: 85 :: 86 :: 87 :: 88 :: 89 :: 90 :: 91 :: 92 :: 93 :: 94 :: 95 :: 96 :: 97 :: []) (fun j => [(8, .int .i64 ((i + 1 + j : Nat) : Int)), (7, .int .i64 i), (6, .sl r6 (E ++ rowE V i j).length 4 0 (E ++ rowE V i j).length none)]) (fun j => H.set r6 (.row (edL (E ++ rowE V i j)) (E ++ rowE V i j).length)) (fun j => i + 1 + j ≤ V.length) (fun j => V.length - j) 0 rfl hlt ⟨congrArg (AV.int .i64) (by omega), rfl, ?_, trivial⟩ ?_ ?_
    · rw [show rowE V i 0 = [] from rfl, List.append_nil]; rfl
    · rw [show rowE V i 0 = [] from rfl, List.append_nil]; exact HLe.refl _
    intro j hj
    refine AWp.of tt_ok (dok _) rfl ?_
    dsimp only at hj ⊢
    by_cases hjt : i + 1 + j < V.length
    · have hFl := rowE_len V i j
      have hFe : (E ++ rowE V i j).length ≤ 5000 := by rw [List.length_append]; omega
      have hgb : (vS V)[((i + 1 + j : Nat) : Int).toNat]? = some (.cs (iS .i64 (V.getD (i + 1 + j) [])) (V.getD (i + 1 + j) []).length) := vS_get hjt
      have hob := hall.2 _ (vgetD_mem hjt)
      have hrs : E ++ rowE V i (j + 1) = E ++ rowE V i j ++ pairE (V.getD i []) (V.getD (i + 1 + j) []) i (i + 1 + j) := by rw [rowE_succ, List.append_assoc]
      generalize V.getD (i + 1 + j) [] = b at *
      generalize V.getD i [] = a at *
      generalize hF : E ++ rowE V i j = F at *
      have hfF := edL_len F
      have hab : b.length = a.length := by rw [hob.1, hoa.1]
      obtain ⟨m, hm⟩ : ∃ m : Nat, m = i + 1 + j := ⟨_, rfl⟩
      rw [← hm] at hgb hrs hjt ⊢
      clear hEl hEl2 hfl hst hra hFl
      (iterate 2 ((repeat' ((conv => whnf); first | left | refine OpsA.cons ?_ | refine OpsA.nil ?_ | refine AWq.seq ?_ | refine AWq.region ?_ | refine AWq.cond ?_ | refine AWq.block ?_ | refine AWq.skip ?_ | refine AWq.ret ?_ | refine AWq.exit ?_ | refine AWq.loop ?_ | (refine Both.mk ?_ ?_ <;> intro hc <;> (first | exact Bool.noConfusion hc | exact absurd (by assumption) hc | exact absurd hc (by assumption) | (exfalso; omega) | skip)) | (intro c hc; (try (simp only [AH.none_iff] at hc; repeat (have hn := hc.1; replace hc := hc.2))); (first | (have hc2 := Eq.trans hc (by with_reducible assumption); clear hc; subst hc2) | (refine i64_k hc ?_ ?_ ?_ ; omega; omega; (clear hc; intro hc; subst hc)) | subst hc | skip)) | (apply Exists.intro; apply And.intro; (first | (focus (repeat (first | (with_reducible assumption) | (with_reducible exact AH.set_same _ _ _) | ((first | refine AH.get_ne ?_ ?_); (first | (with_reducible assumption) | exact Ne.symm (by with_reducible assumption))))); done) | (focus (repeat (first | assumption)); done))) | (apply Exists.intro; apply And.intro; first | (with_reducible assumption) | ((try simp only [List.getElem?_drop, Nat.mul_one, Nat.add_zero, Nat.zero_add]); first | (with_reducible assumption) | assumption | rfl)) | (apply And.intro; (first | rfl | (with_reducible assumption) | exact Nat.le_of_ble_eq_true rfl | omega | assumption)))) <;> (try (conv => whnf)); refine Then.mk ?_))
      (repeat' ((conv => whnf); first | left | refine OpsA.cons ?_ | refine OpsA.nil ?_ | refine AWq.seq ?_ | refine AWq.region ?_ | refine AWq.cond ?_ | refine AWq.block ?_ | refine AWq.skip ?_ | refine AWq.ret ?_ | refine AWq.exit ?_ | refine AWq.loop ?_ | (refine Both.mk ?_ ?_ <;> intro hc <;> (first | exact Bool.noConfusion hc | exact absurd (by assumption) hc | exact absurd hc (by assumption) | (exfalso; omega) | skip)) | (intro c hc; (try (simp only [AH.none_iff] at hc; repeat (have hn := hc.1; replace hc := hc.2))); (first | (have hc2 := Eq.trans hc (by with_reducible assumption); clear hc; subst hc2) | (refine i64_k hc ?_ ?_ ?_ ; omega; omega; (clear hc; intro hc; subst hc)) | subst hc | skip)) | (apply Exists.intro; apply And.intro; (first | (focus (repeat (first | (with_reducible assumption) | (with_reducible exact AH.set_same _ _ _) | ((first | refine AH.get_ne ?_ ?_); (first | (with_reducible assumption) | exact Ne.symm (by with_reducible assumption))))); done) | (focus (repeat (first | assumption)); done))) | (apply Exists.intro; apply And.intro; first | (with_reducible assumption) | ((try simp only [List.getElem?_drop, Nat.mul_one, Nat.add_zero, Nat.zero_add]); first | (with_reducible assumption) | assumption | rfl)) | (apply And.intro; (first | rfl | (with_reducible assumption) | exact Nat.le_of_ble_eq_true rfl | omega | assumption)))) <;> (try (conv => whnf))
      refine Then.mk (AWq.in ?_)
      refine AWp_nilrow1 9 1 rfl rfl fun r9 hr9 => ?_
      obtain ⟨h96, hr9⟩ := AH.none_set hr9
      refine AWp.of tt_ok (dok _) rfl ?_
      (repeat' ((conv => whnf); first | refine Then.mk ?_ | left | refine OpsA.cons ?_ | refine OpsA.nil ?_ | refine AWq.seq ?_ | refine AWq.region ?_ | refine AWq.cond ?_ | refine AWq.block ?_ | refine AWq.skip ?_ | refine AWq.ret ?_ | refine AWq.exit ?_ | refine AWq.loop ?_ | (refine Both.mk ?_ ?_ <;> intro hc <;> (first | exact Bool.noConfusion hc | exact absurd (by assumption) hc | exact absurd hc (by assumption) | (exfalso; omega) | skip)) | (intro c hc; (try (simp only [AH.none_iff] at hc; repeat (have hn := hc.1; replace hc := hc.2))); (first | (have hc2 := Eq.trans hc (by with_reducible assumption); clear hc; subst hc2) | (refine i64_k hc ?_ ?_ ?_ ; omega; omega; (clear hc; intro hc; subst hc)) | subst hc | skip)) | (apply Exists.intro; apply And.intro; (first | (focus (repeat (first | (with_reducible assumption) | (with_reducible exact AH.set_same _ _ _) | ((first | refine AH.get_ne ?_ ?_); (first | (with_reducible assumption) | exact Ne.symm (by with_reducible assumption))))); done) | (focus (repeat (first | assumption)); done))) | (apply Exists.intro; apply And.intro; first | (with_reducible assumption) | ((try simp only [List.getElem?_drop, Nat.mul_one, Nat.add_zero, Nat.zero_add]); first | (with_reducible assumption) | assumption | rfl)) | (apply And.intro; (first | rfl | (with_reducible assumption) | exact Nat.le_of_ble_eq_true rfl | omega | assumption)))) <;> (try (conv => whnf))
      refine AWp_loop (σ := Nat) (9 :: 10 :: 11 :: 12 :: 52 :: 53 :: 54 :: 55 :: 56 :: 57 :: 58 :: 59 :: 60 :: 61 :: 62 :: 63 :: 64 :: 65 :: 66 :: 67 :: 68 :: 69 :: 70 :: 71 :: 72 :: 73 :: 74 :: 75 :: 76 :: []) (fun k => [(52, .int .i64 k), (9, .sl r9 (difL a b k).length 1 0 (difL a b k).length none)]) (fun k => (H.set r6 (.row (edL F) F.length)).set r9 (.row (iS .i64 (difL a b k)) (difL a b k).length)) (fun k => k ≤ a.length) (fun k => a.length - k) 0 rfl (Nat.zero_le _) ⟨rfl, rfl, trivial⟩ (HLe.refl _) ?_
      intro k hk
      refine AWp.of tt_ok (dok _) rfl ?_
      dsimp only at hk ⊢
      have hDl := difL_len a b k
      by_cases hkt : k < a.length
      · have hx : (iS .i64 a)[(k : Int).toNat]? = some (.int .i64 (a.getD k 0)) := iS_get hkt
        have hy : (iS .i64 b)[(k : Int).toNat]? = some (.int .i64 (b.getD k 0)) := iS_get (by omega)
        have ox := hoa.2 _ (getD_mem (l := a) (i := k) hkt)
        have oy := hob.2 _ (getD_mem (l := b) (i := k) (by omega))
        have hds := difL_succ a b k
        unfold difJ at hds
        have hil : (iS .i64 a).length = a.length := by simp
        have hib : (iS .i64 b).length = b.length := by simp
        generalize hD2 : difL a b (k + 1) = D2 at *
        generalize difL a b k = D at *
        generalize a.getD k 0 = x at *
        generalize b.getD k 0 = y at *
        unfold okI at ox oy
        have hiD : (iS .i64 D).length = D.length := by simp
        by_cases h1 : 0 ≤ x
        · by_cases h2 : 0 ≤ y
          · rw [if_pos ⟨h1, h2⟩] at hds
            (repeat' ((conv => whnf); first | refine Then.mk ?_ | left | refine OpsA.cons ?_ | refine OpsA.nil ?_ | refine AWq.seq ?_ | refine AWq.region ?_ | refine AWq.cond ?_ | refine AWq.block ?_ | refine AWq.skip ?_ | refine AWq.ret ?_ | refine AWq.exit ?_ | refine AWq.loop ?_ | (refine Both.mk ?_ ?_ <;> intro hc <;> (first | exact Bool.noConfusion hc | exact absurd (by assumption) hc | exact absurd hc (by assumption) | (exfalso; omega) | skip)) | (intro c hc; (try (simp only [AH.none_iff] at hc; repeat (have hn := hc.1; replace hc := hc.2))); (first | (have hc2 := Eq.trans hc (by with_reducible assumption); clear hc; subst hc2) | (refine i64_k hc ?_ ?_ ?_ ; omega; omega; (clear hc; intro hc; subst hc)) | subst hc | skip)) | (apply Exists.intro; apply And.intro; (first | (focus (repeat (first | (with_reducible assumption) | (with_reducible exact AH.set_same _ _ _) | ((first | refine AH.get_ne ?_ ?_); (first | (with_reducible assumption) | exact Ne.symm (by with_reducible assumption))))); done) | (focus (repeat (first | assumption)); done))) | (apply Exists.intro; apply And.intro; first | (with_reducible assumption) | ((try simp only [List.getElem?_drop, Nat.mul_one, Nat.add_zero, Nat.zero_add]); first | (with_reducible assumption) | assumption | rfl)) | (apply And.intro; (first | rfl | (with_reducible assumption) | exact Nat.le_of_ble_eq_true rfl | omega | assumption)))) <;> (try (conv => whnf))
            refine ⟨k + 1, hkt, show a.length - (k + 1) < a.length - k by omega, ⟨congrArg (AV.int .i64) (by omega), ?_, trivial⟩, HLe.of_eq ?_⟩
            · rw [hD2, hds, List.length_append]; rfl
            · rw [hD2, hds, List.length_append, ← iS_append]; exact (AH.set_set _ _ _ _).symm
          · rw [if_neg (fun h => h2 h.2), List.append_nil] at hds
            (repeat' ((conv => whnf); first | refine Then.mk ?_ | left | refine OpsA.cons ?_ | refine OpsA.nil ?_ | refine AWq.seq ?_ | refine AWq.region ?_ | refine AWq.cond ?_ | refine AWq.block ?_ | refine AWq.skip ?_ | refine AWq.ret ?_ | refine AWq.exit ?_ | refine AWq.loop ?_ | (refine Both.mk ?_ ?_ <;> intro hc <;> (first | exact Bool.noConfusion hc | exact absurd (by assumption) hc | exact absurd hc (by assumption) | (exfalso; omega) | skip)) | (intro c hc; (try (simp only [AH.none_iff] at hc; repeat (have hn := hc.1; replace hc := hc.2))); (first | (have hc2 := Eq.trans hc (by with_reducible assumption); clear hc; subst hc2) | (refine i64_k hc ?_ ?_ ?_ ; omega; omega; (clear hc; intro hc; subst hc)) | subst hc | skip)) | (apply Exists.intro; apply And.intro; (first | (focus (repeat (first | (with_reducible assumption) | (with_reducible exact AH.set_same _ _ _) | ((first | refine AH.get_ne ?_ ?_); (first | (with_reducible assumption) | exact Ne.symm (by with_reducible assumption))))); done) | (focus (repeat (first | assumption)); done))) | (apply Exists.intro; apply And.intro; first | (with_reducible assumption) | ((try simp only [List.getElem?_drop, Nat.mul_one, Nat.add_zero, Nat.zero_add]); first | (with_reducible assumption) | assumption | rfl)) | (apply And.intro; (first | rfl | (with_reducible assumption) | exact Nat.le_of_ble_eq_true rfl | omega | assumption)))) <;> (try (conv => whnf))
            exact ⟨k + 1, hkt, show a.length - (k + 1) < a.length - k by omega, ⟨congrArg (AV.int .i64) (by omega), by rw [hD2, hds]; rfl, trivial⟩, HLe.of_eq (by rw [hD2, hds])⟩
        · rw [if_neg (fun h => h1 h.1), List.append_nil] at hds
          (repeat' ((conv => whnf); first | refine Then.mk ?_ | left | refine OpsA.cons ?_ | refine OpsA.nil ?_ | refine AWq.seq ?_ | refine AWq.region ?_ | refine AWq.cond ?_ | refine AWq.block ?_ | refine AWq.skip ?_ | refine AWq.ret ?_ | refine AWq.exit ?_ | refine AWq.loop ?_ | (refine Both.mk ?_ ?_ <;> intro hc <;> (first | exact Bool.noConfusion hc | exact absurd (by assumption) hc | exact absurd hc (by assumption) | (exfalso; omega) | skip)) | (intro c hc; (try (simp only [AH.none_iff] at hc; repeat (have hn := hc.1; replace hc := hc.2))); (first | (have hc2 := Eq.trans hc (by with_reducible assumption); clear hc; subst hc2) | (refine i64_k hc ?_ ?_ ?_ ; omega; omega; (clear hc; intro hc; subst hc)) | subst hc | skip)) | (apply Exists.intro; apply And.intro; (first | (focus (repeat (first | (with_reducible assumption) | (with_reducible exact AH.set_same _ _ _) | ((first | refine AH.get_ne ?_ ?_); (first | (with_reducible assumption) | exact Ne.symm (by with_reducible assumption))))); done) | (focus (repeat (first | assumption)); done))) | (apply Exists.intro; apply And.intro; first | (with_reducible assumption) | ((try simp only [List.getElem?_drop, Nat.mul_one, Nat.add_zero, Nat.zero_add]); first | (with_reducible assumption) | assumption | rfl)) | (apply And.intro; (first | rfl | (with_reducible assumption) | exact Nat.le_of_ble_eq_true rfl | omega | assumption)))) <;> (try (conv => whnf))
          exact ⟨k + 1, hkt, show a.length - (k + 1) < a.length - k by omega, ⟨congrArg (AV.int .i64) (by omega), by rw [hD2, hds]; rfl, trivial⟩, HLe.of_eq (by rw [hD2, hds])⟩
      · have hka' : k = a.length := by omega
        subst hka'
        unfold pairE at hrs
        generalize difL a b a.length = D at *
        have hiD : (iS .i64 (sortI D)).length = D.length := by simp
        have hsc := sort_c D (by omega) r9 D.length ((H.set r6 (.row (edL F) F.length)).set r9 (.row (iS .i64 D) D.length)) (AH.set_same _ _ _)
        have h9n : (H.set r6 (.row (edL F) F.length)) r9 = none := by rw [AH.set_ne _ _ h96]; exact hr9
        by_cases hD : 0 < D.length
        · rw [if_pos hD] at hrs
          have hq : IntKind.i64.wrap (((D.length : Int) - 1).tdiv 2) = (((D.length - 1) / 2 : Nat) : Int) := by
            rw [show ((D.length : Int) - 1) = ((D.length - 1 : Nat) : Int) by omega, Int.tdiv_eq_ediv_of_nonneg (by omega), IntKind.wrap_i64]; omega
          have hgm : (iS .i64 (sortI D))[(((D.length - 1) / 2 : Nat) : Int).toNat]? = some (.int .i64 (midI (sortI D))) := by
            rw [Int.toNat_natCast, iS_get (by rw [sortI_len]; omega)]
            unfold midI; rw [sortI_len]
          generalize iS .i64 (sortI D) = SD at *
          generalize midI (sortI D) = mid at *
          (repeat' ((conv => whnf); first | refine Then.mk ?_ | left | refine OpsA.cons ?_ | refine OpsA.nil ?_ | refine AWq.seq ?_ | refine AWq.region ?_ | refine AWq.cond ?_ | refine AWq.block ?_ | refine AWq.skip ?_ | refine AWq.ret ?_ | refine AWq.exit ?_ | refine AWq.loop ?_ | (refine Both.mk ?_ ?_ <;> intro hc <;> (first | exact Bool.noConfusion hc | exact absurd (by assumption) hc | exact absurd hc (by assumption) | (exfalso; omega) | skip)) | (intro c hc; (try (simp only [AH.none_iff] at hc; repeat (have hn := hc.1; replace hc := hc.2))); (first | (have hc2 := Eq.trans hc (by with_reducible assumption); clear hc; subst hc2) | (refine i64_k hc ?_ ?_ ?_ ; omega; omega; (clear hc; intro hc; subst hc)) | subst hc | skip)) | (apply Exists.intro; apply And.intro; (first | (focus (repeat (first | (with_reducible assumption) | (with_reducible exact AH.set_same _ _ _) | ((first | refine AH.get_ne ?_ ?_); (first | (with_reducible assumption) | exact Ne.symm (by with_reducible assumption))))); done) | (focus (repeat (first | assumption)); done))) | (apply Exists.intro; apply And.intro; first | (with_reducible assumption) | ((try simp only [List.getElem?_drop, Nat.mul_one, Nat.add_zero, Nat.zero_add]); first | (with_reducible assumption) | assumption | rfl)) | (apply And.intro; (first | rfl | (with_reducible assumption) | exact Nat.le_of_ble_eq_true rfl | omega | assumption)) | (refine ACall.to (hsc) ?_))) <;> (try (conv => whnf))
          refine ⟨j + 1, show i + 1 + (j + 1) ≤ V.length by omega, show V.length - (j + 1) < V.length - j by omega, ⟨congrArg (AV.int .i64) (by omega), rfl, ?_, trivial⟩, ?_⟩
          · rw [hrs, List.length_append]; rfl
          · have hX : edL (F ++ [(⟨i, m, mid, D.length⟩ : Ed)]) = edL F ++ [.int .i64 i, .int .i64 m, .int .i64 mid, .int .i64 (min (D.length : Int) 65536)] := by
              rw [show min (D.length : Int) 65536 = D.length by omega]
              exact (fL_snoc edA F _).symm
            rw [hrs, hX, List.length_append]
            exact HLe.push (HLe.set_of _ _ (HLe.set_of _ _ (HLe.refl _) h9n) h9n)
        · rw [if_neg hD, List.append_nil] at hrs
          (repeat' ((conv => whnf); first | refine Then.mk ?_ | left | refine OpsA.cons ?_ | refine OpsA.nil ?_ | refine AWq.seq ?_ | refine AWq.region ?_ | refine AWq.cond ?_ | refine AWq.block ?_ | refine AWq.skip ?_ | refine AWq.ret ?_ | refine AWq.exit ?_ | refine AWq.loop ?_ | (refine Both.mk ?_ ?_ <;> intro hc <;> (first | exact Bool.noConfusion hc | exact absurd (by assumption) hc | exact absurd hc (by assumption) | (exfalso; omega) | skip)) | (intro c hc; (try (simp only [AH.none_iff] at hc; repeat (have hn := hc.1; replace hc := hc.2))); (first | (have hc2 := Eq.trans hc (by with_reducible assumption); clear hc; subst hc2) | (refine i64_k hc ?_ ?_ ?_ ; omega; omega; (clear hc; intro hc; subst hc)) | subst hc | skip)) | (apply Exists.intro; apply And.intro; (first | (focus (repeat (first | (with_reducible assumption) | (with_reducible exact AH.set_same _ _ _) | ((first | refine AH.get_ne ?_ ?_); (first | (with_reducible assumption) | exact Ne.symm (by with_reducible assumption))))); done) | (focus (repeat (first | assumption)); done))) | (apply Exists.intro; apply And.intro; first | (with_reducible assumption) | ((try simp only [List.getElem?_drop, Nat.mul_one, Nat.add_zero, Nat.zero_add]); first | (with_reducible assumption) | assumption | rfl)) | (apply And.intro; (first | rfl | (with_reducible assumption) | exact Nat.le_of_ble_eq_true rfl | omega | assumption)))) <;> (try (conv => whnf))
          refine ⟨j + 1, show i + 1 + (j + 1) ≤ V.length by omega, show V.length - (j + 1) < V.length - j by omega, ⟨congrArg (AV.int .i64) (by omega), rfl, by rw [hrs]; rfl, trivial⟩, ?_⟩
          rw [hrs]
          exact HLe.set_of _ _ (HLe.refl _) h9n
    · (repeat' ((conv => whnf); first | refine Then.mk ?_ | left | refine OpsA.cons ?_ | refine OpsA.nil ?_ | refine AWq.seq ?_ | refine AWq.region ?_ | refine AWq.cond ?_ | refine AWq.block ?_ | refine AWq.skip ?_ | refine AWq.ret ?_ | refine AWq.exit ?_ | refine AWq.loop ?_ | (refine Both.mk ?_ ?_ <;> intro hc <;> (first | exact Bool.noConfusion hc | exact absurd (by assumption) hc | exact absurd hc (by assumption) | (exfalso; omega) | skip)) | (intro c hc; (try (simp only [AH.none_iff] at hc; repeat (have hn := hc.1; replace hc := hc.2))); (first | (have hc2 := Eq.trans hc (by with_reducible assumption); clear hc; subst hc2) | (refine i64_k hc ?_ ?_ ?_ ; omega; omega; (clear hc; intro hc; subst hc)) | subst hc | skip)) | (apply Exists.intro; apply And.intro; (first | (focus (repeat (first | (with_reducible assumption) | (with_reducible exact AH.set_same _ _ _) | ((first | refine AH.get_ne ?_ ?_); (first | (with_reducible assumption) | exact Ne.symm (by with_reducible assumption))))); done) | (focus (repeat (first | assumption)); done))) | (apply Exists.intro; apply And.intro; first | (with_reducible assumption) | ((try simp only [List.getElem?_drop, Nat.mul_one, Nat.add_zero, Nat.zero_add]); first | (with_reducible assumption) | assumption | rfl)) | (apply And.intro; (first | rfl | (with_reducible assumption) | exact Nat.le_of_ble_eq_true rfl | omega | assumption)))) <;> (try (conv => whnf))
      have hji : V.length - (i + 1) = j := by omega
      rw [hji] at hst
      refine ⟨i + 1, hlt, show V.length - (i + 1) < V.length - i by omega, ⟨congrArg (AV.int .i64) (by omega), ?_, trivial⟩, HLe.of_eq ?_⟩
      · rw [hE', hst]; rfl
      · rw [hE', hst]
  · have hie : i = V.length := by omega
    subst hie
    (repeat' ((conv => whnf); first | left | refine OpsA.cons ?_ | refine OpsA.nil ?_ | refine AWq.seq ?_ | refine AWq.region ?_ | refine AWq.cond ?_ | refine AWq.block ?_ | refine AWq.skip ?_ | refine AWq.ret ?_ | refine AWq.exit ?_ | refine AWq.loop ?_ | (refine Both.mk ?_ ?_ <;> intro hc <;> (first | exact Bool.noConfusion hc | exact absurd (by assumption) hc | exact absurd hc (by assumption) | (exfalso; omega) | skip)) | (intro c hc; (try (simp only [AH.none_iff] at hc; repeat (have hn := hc.1; replace hc := hc.2))); (first | (have hc2 := Eq.trans hc (by with_reducible assumption); clear hc; subst hc2) | (refine i64_k hc ?_ ?_ ?_ ; omega; omega; (clear hc; intro hc; subst hc)) | subst hc | skip)) | (apply Exists.intro; apply And.intro; (first | (focus (repeat (first | (with_reducible assumption) | (with_reducible exact AH.set_same _ _ _) | ((first | refine AH.get_ne ?_ ?_); (first | (with_reducible assumption) | exact Ne.symm (by with_reducible assumption))))); done) | (focus (repeat (first | assumption)); done))) | (apply Exists.intro; apply And.intro; first | (with_reducible assumption) | ((try simp only [List.getElem?_drop, Nat.mul_one, Nat.add_zero, Nat.zero_add]); first | (with_reducible assumption) | assumption | rfl)) | (apply And.intro; (first | rfl | (with_reducible assumption) | exact Nat.le_of_ble_eq_true rfl | omega | assumption)))) <;> (try (conv => whnf))
    refine Then.mk (AWq.in ?_)
    refine AWp_freeze1 6 (r := r6) (v := (ovE V V.length).length) (es := 4) (n := (ovE V V.length).length) (lim := none) (cells := edL (ovE V V.length)) rfl rfl (AH.set_same _ _ _) (edL_len _) ?_
    refine AWp_less H (HLe.del _ (HLe.fresh _ hr6) hr6) ?_
    refine AWp.of tt_ok (dok _) rfl ?_
    (repeat' ((conv => whnf); first | refine Then.mk ?_ | left | refine OpsA.cons ?_ | refine OpsA.nil ?_ | refine AWq.seq ?_ | refine AWq.region ?_ | refine AWq.cond ?_ | refine AWq.block ?_ | refine AWq.skip ?_ | refine AWq.ret ?_ | refine AWq.exit ?_ | refine AWq.loop ?_ | (refine Both.mk ?_ ?_ <;> intro hc <;> (first | exact Bool.noConfusion hc | exact absurd (by assumption) hc | exact absurd hc (by assumption) | (exfalso; omega) | skip)) | (intro c hc; (try (simp only [AH.none_iff] at hc; repeat (have hn := hc.1; replace hc := hc.2))); (first | (have hc2 := Eq.trans hc (by with_reducible assumption); clear hc; subst hc2) | (refine i64_k hc ?_ ?_ ?_ ; omega; omega; (clear hc; intro hc; subst hc)) | subst hc | skip)) | (apply Exists.intro; apply And.intro; (first | (focus (repeat (first | (with_reducible assumption) | (with_reducible exact AH.set_same _ _ _) | ((first | refine AH.get_ne ?_ ?_); (first | (with_reducible assumption) | exact Ne.symm (by with_reducible assumption))))); done) | (focus (repeat (first | assumption)); done))) | (apply Exists.intro; apply And.intro; first | (with_reducible assumption) | ((try simp only [List.getElem?_drop, Nat.mul_one, Nat.add_zero, Nat.zero_add]); first | (with_reducible assumption) | assumption | rfl)) | (apply And.intro; (first | rfl | (with_reducible assumption) | exact Nat.le_of_ble_eq_true rfl | omega | assumption)))) <;> (try (conv => whnf))
    exact ⟨_, H, AVle.refl _, by (first | ((repeat' (first | (with_reducible exact HLe.refl _) | (with_reducible assumption))); done)), rfl, rfl⟩
end Go.Proofs.Ytebflkgpbbjhnaa
/- The walk of the reference's Overlap. -/
namespace Go.Proofs.Ytebflkgpbbjhnaa
open Go.Fw Go
set_option linter.unusedVariables false
set_option linter.unusedSimpArgs false

set_option maxHeartbeats 8000000 in
set_option maxRecDepth 8000 in
theorem roverlap_c (V : List (List Int)) (hV : VI V) (H : AH) :
    ACall Try.prog 34 [.cs (vS V) V.length] H (fun y H' => y = .tup [.cs (edL (ovR V).1) (ovR V).1.length, .int .i64 (ovR V).2] ∧ H' = H) := by
  have hVn := hV.n
  refine ACall.told ?_
  have hvl := vS_len V
  by_cases h64 : 64 < V.length
  · rw [show ovR V = ([], 1) from if_neg (fun h => by have := h.1; omega)]
    refine ACall_of tt_ok (dok _) Try.func34 rfl (by decide) rfl ?_
    (repeat' ((conv => whnf); first | refine Then.mk ?_ | left | refine OpsA.cons ?_ | refine OpsA.nil ?_ | refine AWq.seq ?_ | refine AWq.region ?_ | refine AWq.cond ?_ | refine AWq.block ?_ | refine AWq.skip ?_ | refine AWq.ret ?_ | refine AWq.exit ?_ | refine AWq.loop ?_ | refine DrawA.consD ?_ | refine DrawA.nil ?_ | refine AWq.draw (by decide +kernel) ?_ | (refine Both.mk ?_ ?_ <;> intro hc <;> (first | exact Bool.noConfusion hc | exact absurd (by assumption) hc | exact absurd hc (by assumption) | (exfalso; omega) | skip)) | (intro c hc; (try (simp only [AH.none_iff] at hc; repeat (have hn := hc.1; replace hc := hc.2))); (first | (have hc2 := Eq.trans hc (by with_reducible assumption); clear hc; subst hc2) | (refine i64_k hc ?_ ?_ ?_ ; omega; omega; (clear hc; intro hc; subst hc)) | subst hc | skip)) | (apply Exists.intro; apply And.intro; (first | (focus (repeat (first | (with_reducible assumption) | (with_reducible exact AH.set_same _ _ _))); done) | (focus (repeat (first | assumption)); done))) | (apply Exists.intro; apply And.intro; first | (with_reducible assumption) | ((try simp only [List.getElem?_drop, Nat.mul_one, Nat.add_zero, Nat.zero_add]); first | (with_reducible assumption) | assumption | rfl)) | (apply And.intro; (first | rfl | (with_reducible assumption) | exact Nat.le_of_ble_eq_true rfl | omega | assumption)))) <;> (try (conv => whnf))
    exact ⟨_, H, AVle.ovErr, by (first | ((repeat' (first | (with_reducible exact HLe.refl _) | (with_reducible assumption))); done)), rfl, rfl⟩
  refine ACall_of tt_ok (dok _) Try.func34 rfl (by decide) rfl ?_
  (repeat' ((conv => whnf); first | refine Then.mk ?_ | left | refine OpsA.cons ?_ | refine OpsA.nil ?_ | refine AWq.seq ?_ | refine AWq.region ?_ | refine AWq.cond ?_ | refine AWq.block ?_ | refine AWq.skip ?_ | refine AWq.ret ?_ | refine AWq.exit ?_ | refine AWq.loop ?_ | refine DrawA.consD ?_ | refine DrawA.nil ?_ | refine AWq.draw (by decide +kernel) ?_ | (refine Both.mk ?_ ?_ <;> intro hc <;> (first | exact Bool.noConfusion hc | exact absurd (by assumption) hc | exact absurd hc (by assumption) | (exfalso; omega) | skip)) | (intro c hc; (try (simp only [AH.none_iff] at hc; repeat (have hn := hc.1; replace hc := hc.2))); (first | (have hc2 := Eq.trans hc (by with_reducible assumption); clear hc; subst hc2) | (refine i64_k hc ?_ ?_ ?_ ; omega; omega; (clear hc; intro hc; subst hc)) | subst hc | skip)) | (apply Exists.intro; apply And.intro; (first | (focus (repeat (first | (with_reducible assumption) | (with_reducible exact AH.set_same _ _ _))); done) | (focus (repeat (first | assumption)); done))) | (apply Exists.intro; apply And.intro; first | (with_reducible assumption) | ((try simp only [List.getElem?_drop, Nat.mul_one, Nat.add_zero, Nat.zero_add]); first | (with_reducible assumption) | assumption | rfl)) | (apply And.intro; (first | rfl | (with_reducible assumption) | exact Nat.le_of_ble_eq_true rfl | omega | assumption)))) <;> (try (conv => whnf))
  refine AWp_loop (σ := Nat) (2 :: 3 :: 4 :: 5 :: 14 :: 15 :: 16 :: 17 :: 18 :: 19 :: 20 :: 21 :: 22 :: 23 :: 24 :: 25 :: 26 :: 27 :: 28 :: 29 :: 30 :: 31 :: 32 :: 33 :: 34 :: 35 :: 36 :: 37 :: 38 :: 39 :: 40 :: 41 :: 42 :: 43 :: 44 :: 45 :: 46 :: 47 :: 48 :: 49 :: 50 :: 51 :: 52 :: 53 :: 54 :: 55 :: 56 :: []) (fun i => [(4, .int .i64 i)]) (fun _ => H) (fun i => i ≤ V.length ∧ ∀ r ∈ V.take i, okRow (V.getD 0 []).length r) (fun i => V.length - i) 0 rfl ⟨Nat.zero_le _, fun x hx => by simp at hx⟩ ⟨rfl, trivial⟩ (HLe.refl _) ?_
  rintro i ⟨hi, hin⟩
  refine AWp.of tt_ok (dok _) rfl ?_
  dsimp only at hi ⊢
  by_cases hlt : i < V.length
  · have hg : (vS V)[(i : Int).toNat]? = some (.cs (iS .i64 (V.getD i [])) (V.getD i []).length) := vS_get hlt
    have hg0 : (vS V)[(0 : Int).toNat]? = some (.cs (iS .i64 (V.getD 0 [])) (V.getD 0 []).length) := vS_get (by omega)
    have hk := hV.k _ (vgetD_mem hlt)
    have hat := all_takeV (q := okRow (V.getD 0 []).length) hlt hin
    have hbad : ¬ okRow (V.getD 0 []).length (V.getD i []) → ovR V = ([], 1) := fun hn => if_neg (fun h => hn (h.2 _ (vgetD_mem hlt)))
    generalize V.getD i [] = R at *
    generalize V.getD 0 [] = R0 at *
    by_cases hl : R.length = R0.length
    · (repeat' ((conv => whnf); first | refine Then.mk ?_ | left | refine OpsA.cons ?_ | refine OpsA.nil ?_ | refine AWq.seq ?_ | refine AWq.region ?_ | refine AWq.cond ?_ | refine AWq.block ?_ | refine AWq.skip ?_ | refine AWq.ret ?_ | refine AWq.exit ?_ | refine AWq.loop ?_ | refine DrawA.consD ?_ | refine DrawA.nil ?_ | refine AWq.draw (by decide +kernel) ?_ | (refine Both.mk ?_ ?_ <;> intro hc <;> (first | exact Bool.noConfusion hc | exact absurd (by assumption) hc | exact absurd hc (by assumption) | (exfalso; omega) | skip)) | (intro c hc; (try (simp only [AH.none_iff] at hc; repeat (have hn := hc.1; replace hc := hc.2))); (first | (have hc2 := Eq.trans hc (by with_reducible assumption); clear hc; subst hc2) | (refine i64_k hc ?_ ?_ ?_ ; omega; omega; (clear hc; intro hc; subst hc)) | subst hc | skip)) | (apply Exists.intro; apply And.intro; (first | (focus (repeat (first | (with_reducible assumption) | (with_reducible exact AH.set_same _ _ _))); done) | (focus (repeat (first | assumption)); done))) | (apply Exists.intro; apply And.intro; first | (with_reducible assumption) | ((try simp only [List.getElem?_drop, Nat.mul_one, Nat.add_zero, Nat.zero_add]); first | (with_reducible assumption) | assumption | rfl)) | (apply And.intro; (first | rfl | (with_reducible assumption) | exact Nat.le_of_ble_eq_true rfl | omega | assumption)))) <;> (try (conv => whnf))
      refine AWp_loop (σ := Nat) (2 :: 3 :: 5 :: 30 :: 31 :: 32 :: 33 :: 34 :: 35 :: 36 :: 37 :: 38 :: 39 :: 40 :: 41 :: 42 :: 43 :: 44 :: 45 :: 46 :: 47 :: 48 :: 49 :: 50 :: 51 :: 52 :: 53 :: 54 :: 55 :: 56 :: []) (fun j => [(5, .int .i64 j)]) (fun _ => H) (fun j => j ≤ R.length ∧ ∀ x ∈ R.take j, okI x) (fun j => R.length - j) 0 rfl ⟨Nat.zero_le _, fun x hx => by simp at hx⟩ ⟨rfl, trivial⟩ (HLe.refl _) ?_
      rintro j ⟨hj, hjn⟩
      refine AWp.of tt_ok (dok _) rfl ?_
      dsimp only at hj ⊢
      by_cases hjt : j < R.length
      · have hx : (iS .i64 R)[(j : Int).toNat]? = some (.int .i64 (R.getD j 0)) := iS_get hjt
        have hil : (iS .i64 R).length = R.length := by simp
        have htk := fun ho => all_take (q := okI) (x := R.getD j 0) (by rw [List.getD_eq_getElem?_getD, List.getElem?_eq_getElem hjt]; rfl) hjn ho
        by_cases ho : okI (R.getD j 0)
        · have htk := htk ho
          unfold okI at ho
          (repeat' ((conv => whnf); first | refine Then.mk ?_ | left | refine OpsA.cons ?_ | refine OpsA.nil ?_ | refine AWq.seq ?_ | refine AWq.region ?_ | refine AWq.cond ?_ | refine AWq.block ?_ | refine AWq.skip ?_ | refine AWq.ret ?_ | refine AWq.exit ?_ | refine AWq.loop ?_ | refine DrawA.consD ?_ | refine DrawA.nil ?_ | refine AWq.draw (by decide +kernel) ?_ | (refine Both.mk ?_ ?_ <;> intro hc <;> (first | exact Bool.noConfusion hc | exact absurd (by assumption) hc | exact absurd hc (by assumption) | (exfalso; omega) | skip)) | (intro c hc; (try (simp only [AH.none_iff] at hc; repeat (have hn := hc.1; replace hc := hc.2))); (first | (have hc2 := Eq.trans hc (by with_reducible assumption); clear hc; subst hc2) | (refine i64_k hc ?_ ?_ ?_ ; omega; omega; (clear hc; intro hc; subst hc)) | subst hc | skip)) | (apply Exists.intro; apply And.intro; (first | (focus (repeat (first | (with_reducible assumption) | (with_reducible exact AH.set_same _ _ _))); done) | (focus (repeat (first | assumption)); done))) | (apply Exists.intro; apply And.intro; first | (with_reducible assumption) | ((try simp only [List.getElem?_drop, Nat.mul_one, Nat.add_zero, Nat.zero_add]); first | (with_reducible assumption) | assumption | rfl)) | (apply And.intro; (first | rfl | (with_reducible assumption) | exact Nat.le_of_ble_eq_true rfl | omega | assumption)))) <;> (try (conv => whnf))
          exact ⟨j + 1, ⟨hjt, htk⟩, show R.length - (j + 1) < R.length - j by omega, ⟨congrArg (AV.int .i64) (by omega), trivial⟩, HLe.refl _⟩
        · rw [hbad (fun h => ho (h.2 _ (getD_mem hjt)))]
          unfold okI at ho
          (repeat' ((conv => whnf); first | refine Then.mk ?_ | left | refine OpsA.cons ?_ | refine OpsA.nil ?_ | refine AWq.seq ?_ | refine AWq.region ?_ | refine AWq.cond ?_ | refine AWq.block ?_ | refine AWq.skip ?_ | refine AWq.ret ?_ | refine AWq.exit ?_ | refine AWq.loop ?_ | refine DrawA.consD ?_ | refine DrawA.nil ?_ | refine AWq.draw (by decide +kernel) ?_ | (refine Both.mk ?_ ?_ <;> intro hc <;> (first | exact Bool.noConfusion hc | exact absurd (by assumption) hc | exact absurd hc (by assumption) | (exfalso; omega) | skip)) | (intro c hc; (try (simp only [AH.none_iff] at hc; repeat (have hn := hc.1; replace hc := hc.2))); (first | (have hc2 := Eq.trans hc (by with_reducible assumption); clear hc; subst hc2) | (refine i64_k hc ?_ ?_ ?_ ; omega; omega; (clear hc; intro hc; subst hc)) | subst hc | skip)) | (apply Exists.intro; apply And.intro; (first | (focus (repeat (first | (with_reducible assumption) | (with_reducible exact AH.set_same _ _ _))); done) | (focus (repeat (first | assumption)); done))) | (apply Exists.intro; apply And.intro; first | (with_reducible assumption) | ((try simp only [List.getElem?_drop, Nat.mul_one, Nat.add_zero, Nat.zero_add]); first | (with_reducible assumption) | assumption | rfl)) | (apply And.intro; (first | rfl | (with_reducible assumption) | exact Nat.le_of_ble_eq_true rfl | omega | assumption)))) <;> (try (conv => whnf))
          all_goals exact ⟨_, H, AVle.ovErr, by (first | ((repeat' (first | (with_reducible exact HLe.refl _) | (with_reducible assumption))); done)), rfl, rfl⟩
      · rw [List.take_of_length_le (by omega)] at hjn
        have hat := hat ⟨hl, hjn⟩
        (repeat' ((conv => whnf); first | refine Then.mk ?_ | left | refine OpsA.cons ?_ | refine OpsA.nil ?_ | refine AWq.seq ?_ | refine AWq.region ?_ | refine AWq.cond ?_ | refine AWq.block ?_ | refine AWq.skip ?_ | refine AWq.ret ?_ | refine AWq.exit ?_ | refine AWq.loop ?_ | refine DrawA.consD ?_ | refine DrawA.nil ?_ | refine AWq.draw (by decide +kernel) ?_ | (refine Both.mk ?_ ?_ <;> intro hc <;> (first | exact Bool.noConfusion hc | exact absurd (by assumption) hc | exact absurd hc (by assumption) | (exfalso; omega) | skip)) | (intro c hc; (try (simp only [AH.none_iff] at hc; repeat (have hn := hc.1; replace hc := hc.2))); (first | (have hc2 := Eq.trans hc (by with_reducible assumption); clear hc; subst hc2) | (refine i64_k hc ?_ ?_ ?_ ; omega; omega; (clear hc; intro hc; subst hc)) | subst hc | skip)) | (apply Exists.intro; apply And.intro; (first | (focus (repeat (first | (with_reducible assumption) | (with_reducible exact AH.set_same _ _ _))); done) | (focus (repeat (first | assumption)); done))) | (apply Exists.intro; apply And.intro; first | (with_reducible assumption) | ((try simp only [List.getElem?_drop, Nat.mul_one, Nat.add_zero, Nat.zero_add]); first | (with_reducible assumption) | assumption | rfl)) | (apply And.intro; (first | rfl | (with_reducible assumption) | exact Nat.le_of_ble_eq_true rfl | omega | assumption)))) <;> (try (conv => whnf))
        exact ⟨i + 1, ⟨hlt, hat⟩, show V.length - (i + 1) < V.length - i by omega, ⟨congrArg (AV.int .i64) (by omega), trivial⟩, HLe.refl _⟩
    · rw [hbad (fun h => hl h.1)]
      (repeat' ((conv => whnf); first | refine Then.mk ?_ | left | refine OpsA.cons ?_ | refine OpsA.nil ?_ | refine AWq.seq ?_ | refine AWq.region ?_ | refine AWq.cond ?_ | refine AWq.block ?_ | refine AWq.skip ?_ | refine AWq.ret ?_ | refine AWq.exit ?_ | refine AWq.loop ?_ | refine DrawA.consD ?_ | refine DrawA.nil ?_ | refine AWq.draw (by decide +kernel) ?_ | (refine Both.mk ?_ ?_ <;> intro hc <;> (first | exact Bool.noConfusion hc | exact absurd (by assumption) hc | exact absurd hc (by assumption) | (exfalso; omega) | skip)) | (intro c hc; (try (simp only [AH.none_iff] at hc; repeat (have hn := hc.1; replace hc := hc.2))); (first | (have hc2 := Eq.trans hc (by with_reducible assumption); clear hc; subst hc2) | (refine i64_k hc ?_ ?_ ?_ ; omega; omega; (clear hc; intro hc; subst hc)) | subst hc | skip)) | (apply Exists.intro; apply And.intro; (first | (focus (repeat (first | (with_reducible assumption) | (with_reducible exact AH.set_same _ _ _))); done) | (focus (repeat (first | assumption)); done))) | (apply Exists.intro; apply And.intro; first | (with_reducible assumption) | ((try simp only [List.getElem?_drop, Nat.mul_one, Nat.add_zero, Nat.zero_add]); first | (with_reducible assumption) | assumption | rfl)) | (apply And.intro; (first | rfl | (with_reducible assumption) | exact Nat.le_of_ble_eq_true rfl | omega | assumption)))) <;> (try (conv => whnf))
      exact ⟨_, H, AVle.ovErr, by (first | ((repeat' (first | (with_reducible exact HLe.refl _) | (with_reducible assumption))); done)), rfl, rfl⟩
  have hall : okV V := ⟨by omega, by rwa [List.take_of_length_le (by omega)] at hin⟩
  rw [show ovR V = (ovE V V.length, 0) from if_pos hall]
  clear hin
  (iterate 2 ((repeat' ((conv => whnf); first | left | refine OpsA.cons ?_ | refine OpsA.nil ?_ | refine AWq.seq ?_ | refine AWq.region ?_ | refine AWq.cond ?_ | refine AWq.block ?_ | refine AWq.skip ?_ | refine AWq.ret ?_ | refine AWq.exit ?_ | refine AWq.loop ?_ | refine DrawA.consD ?_ | refine DrawA.nil ?_ | refine AWq.draw (by decide +kernel) ?_ | (refine Both.mk ?_ ?_ <;> intro hc <;> (first | exact Bool.noConfusion hc | exact absurd (by assumption) hc | exact absurd hc (by assumption) | (exfalso; omega) | skip)) | (intro c hc; (try (simp only [AH.none_iff] at hc; repeat (have hn := hc.1; replace hc := hc.2))); (first | (have hc2 := Eq.trans hc (by with_reducible assumption); clear hc; subst hc2) | (refine i64_k hc ?_ ?_ ?_ ; omega; omega; (clear hc; intro hc; subst hc)) | subst hc | skip)) | (apply Exists.intro; apply And.intro; (first | (focus (repeat (first | (with_reducible assumption) | (with_reducible exact AH.set_same _ _ _))); done) | (focus (repeat (first | assumption)); done))) | (apply Exists.intro; apply And.intro; first | (with_reducible assumption) | ((try simp only [List.getElem?_drop, Nat.mul_one, Nat.add_zero, Nat.zero_add]); first | (with_reducible assumption) | assumption | rfl)) | (apply And.intro; (first | rfl | (with_reducible assumption) | exact Nat.le_of_ble_eq_true rfl | omega | assumption)))) <;> (try (conv => whnf)); refine Then.mk ?_))
  (repeat' ((conv => whnf); first | left | refine OpsA.cons ?_ | refine OpsA.nil ?_ | refine AWq.seq ?_ | refine AWq.region ?_ | refine AWq.cond ?_ | refine AWq.block ?_ | refine AWq.skip ?_ | refine AWq.ret ?_ | refine AWq.exit ?_ | refine AWq.loop ?_ | refine DrawA.consD ?_ | refine DrawA.nil ?_ | refine AWq.draw (by decide +kernel) ?_ | (refine Both.mk ?_ ?_ <;> intro hc <;> (first | exact Bool.noConfusion hc | exact absurd (by assumption) hc | exact absurd hc (by assumption) | (exfalso; omega) | skip)) | (intro c hc; (try (simp only [AH.none_iff] at hc; repeat (have hn := hc.1; replace hc := hc.2))); (first | (have hc2 := Eq.trans hc (by with_reducible assumption); clear hc; subst hc2) | (refine i64_k hc ?_ ?_ ?_ ; omega; omega; (clear hc; intro hc; subst hc)) | subst hc | skip)) | (apply Exists.intro; apply And.intro; (first | (focus (repeat (first | (with_reducible assumption) | (with_reducible exact AH.set_same _ _ _))); done) | (focus (repeat (first | assumption)); done))) | (apply Exists.intro; apply And.intro; first | (with_reducible assumption) | ((try simp only [List.getElem?_drop, Nat.mul_one, Nat.add_zero, Nat.zero_add]); first | (with_reducible assumption) | assumption | rfl)) | (apply And.intro; (first | rfl | (with_reducible assumption) | exact Nat.le_of_ble_eq_true rfl | omega | assumption)))) <;> (try (conv => whnf))
  refine Then.mk (AWq.in ?_)
  refine AWp_nilrow1 6 4 rfl rfl fun r6 hr6 => ?_
  refine AWp.of tt_ok (dok _) rfl ?_
  (repeat' ((conv => whnf); first | refine Then.mk ?_ | left | refine OpsA.cons ?_ | refine OpsA.nil ?_ | refine AWq.seq ?_ | refine AWq.region ?_ | refine AWq.cond ?_ | refine AWq.block ?_ | refine AWq.skip ?_ | refine AWq.ret ?_ | refine AWq.exit ?_ | refine AWq.loop ?_ | refine DrawA.consD ?_ | refine DrawA.nil ?_ | refine AWq.draw (by decide +kernel) ?_ | (refine Both.mk ?_ ?_ <;> intro hc <;> (first | exact Bool.noConfusion hc | exact absurd (by assumption) hc | exact absurd hc (by assumption) | (exfalso; omega) | skip)) | (intro c hc; (try (simp only [AH.none_iff] at hc; repeat (have hn := hc.1; replace hc := hc.2))); (first | (have hc2 := Eq.trans hc (by with_reducible assumption); clear hc; subst hc2) | (refine i64_k hc ?_ ?_ ?_ ; omega; omega; (clear hc; intro hc; subst hc)) | subst hc | skip)) | (apply Exists.intro; apply And.intro; (first | (focus (repeat (first | (with_reducible assumption) | (with_reducible exact AH.set_same _ _ _))); done) | (focus (repeat (first | assumption)); done))) | (apply Exists.intro; apply And.intro; first | (with_reducible assumption) | ((try simp only [List.getElem?_drop, Nat.mul_one, Nat.add_zero, Nat.zero_add]); first | (with_reducible assumption) | assumption | rfl)) | (apply And.intro; (first | rfl | (with_reducible assumption) | exact Nat.le_of_ble_eq_true rfl | omega | assumption)))) <;> (try (conv => whnf))
  refine AWp_loop (σ := Nat) (6 :: 7 :: 8 :: 9 :: 10 :: 57 :: 58 :: 59 :: 60 :: 61 :: 62 :: 63 :: 64 :: 65 :: 66 :: 67 :: 68 :: 69 :: 70 :: 71 :: 72 :: 73 :: 74 :: 75 :: 76 :: 77 :: 78 :: 79 :: 80 :: 81 :: 82 :: 83 :: 84 :: 85 :: 86 :: 87 :: 88 :: 89 :: 90 :: 91 :: 92 :: 93 :: 94 :: 95 :: 96 :: 97 :: 98 :: 99 :: 100 :: 101 :: 102 :: 103 :: 104 :: 105 :: 106 :: 107 :: 108 :: 109 :: 110 :: 111 :: 112 :: 113 :: 114 :: 115 :: 116 :: 117 :: 118 :: 119 :: 120 :: 121 :: 122 :: 123 :: 124 :: 125 :: 126 :: 127 :: 128 :: 129 :: 130 :: 131 :: 132 :: 133 :: []) (fun i => [(7, .int .i64 i), (6, .sl r6 (ovE V i).length 4 0 (ovE V i).length none)]) (fun i => H.set r6 (.row (edL (ovE V i)) (ovE V i).length)) (fun i => i ≤ V.length) (fun i => V.length - i) 0 rfl (Nat.zero_le _) ⟨rfl, rfl, trivial⟩ (HLe.refl _) ?_
  intro i hi
  refine AWp.of tt_ok (dok _) rfl ?_
  dsimp only at hi ⊢
  by_cases hlt : i < V.length
  · have hEl := ovE_len V i
    have hEl2 : i * V.length ≤ 64 * 64 := Nat.mul_le_mul (by omega) (by omega)
    have hfl := edL_len (ovE V i)
    have hst := ovE_succ V i
    have hga : (vS V)[(i : Int).toNat]? = some (.cs (iS .i64 (V.getD i [])) (V.getD i []).length) := vS_get hlt
    have hka := hV.k _ (vgetD_mem hlt)
    have hra := hV.r _ (vgetD_mem hlt)
    have hoa := hall.2 _ (vgetD_mem hlt)
    generalize hE' : ovE V (i + 1) = E' at *
    generalize ovE V i = E at *
    (repeat' ((conv => whnf); first | refine Then.mk ?_ | left | refine OpsA.cons ?_ | refine OpsA.nil ?_ | refine AWq.seq ?_ | refine AWq.region ?_ | refine AWq.cond ?_ | refine AWq.block ?_ | refine AWq.skip ?_ | refine AWq.ret ?_ | refine AWq.exit ?_ | refine AWq.loop ?_ | refine DrawA.consD ?_ | refine DrawA.nil ?_ | refine AWq.draw (by decide +kernel) ?_ | (refine Both.mk ?_ ?_ <;> intro hc <;> (first | exact Bool.noConfusion hc | exact absurd (by assumption) hc | exact absurd hc (by assumption) | (exfalso; omega) | skip)) | (intro c hc; (try (simp only [AH.none_iff] at hc; repeat (have hn := hc.1; replace hc := hc.2))); (first | (have hc2 := Eq.trans hc (by with_reducible assumption); clear hc; subst hc2) | (refine i64_k hc ?_ ?_ ?_ ; omega; omega; (clear hc; intro hc; subst hc)) | subst hc | skip)) | (apply Exists.intro; apply And.intro; (first | (focus (repeat (first | (with_reducible assumption) | (with_reducible exact AH.set_same _ _ _))); done) | (focus (repeat (first | assumption)); done))) | (apply Exists.intro; apply And.intro; first | (with_reducible assumption) | ((try simp only [List.getElem?_drop, Nat.mul_one, Nat.add_zero, Nat.zero_add]); first | (with_reducible assumption) | assumption | rfl)) | (apply And.intro; (first | rfl | (with_reducible assumption) | exact Nat.le_of_ble_eq_true rfl | omega | assumption)))) <;> (try (conv => whnf))
    refine AWp_loop (σ := Nat) (6 :: 8 :: 9 :: 10 :: 65 :: 66 :: 67 :: 68 :: 69 :: 70 :: 71 :: 72 :: 73 :: 74 :: 75 :: 76 :: 77 :: 78 :: 79 :: 80 :: 81 :: 82 :: 83 :: 84 :: 85 :: 86 :: 87 :: 88 :: 89 :: 90 :: 91 :: 92 :: 93 :: 94 :: 95 :: 96 :: 97 :: 98 :: 99 :: 100 :: 101 :: 102 :: 103 :: 104 :: 105 :: 106 :: 107 :: 108 :: 109 :: 110 :: 111 :: 112 :: 113 :: 114 :: 115 :: 116 :: 117 :: 118 :: 119 :: 120 :: 121 :: 122 :: 123 :: 124 :: 125 :: 126 :: 127 :: 128 :: 129 :: 130 :: 131 :: 132 :: 133 :: []) (fun j => [(8, .int .i64 ((i + 1 + j : Nat) : Int)), (7, .int .i64 i), (6, .sl r6 (E ++ rowE V i j).length 4 0 (E ++ rowE V i j).length none)]) (fun j => H.set r6 (.row (edL (E ++ rowE V i j)) (E ++ rowE V i j).length)) (fun j => i + 1 + j ≤ V.length) (fun j => V.length - j) 0 rfl hlt ⟨congrArg (AV.int .i64) (by omega), rfl, ?_, trivial⟩ ?_ ?_
    · rw [show rowE V i 0 = [] from rfl, List.append_nil]; rfl
    · rw [show rowE V i 0 = [] from rfl, List.append_nil]; exact HLe.refl _
    intro j hj
    refine AWp.of tt_ok (dok _) rfl ?_
    dsimp only at hj ⊢
    by_cases hjt : i + 1 + j < V.length
    · have hFl := rowE_len V i j
      have hFe : (E ++ rowE V i j).length ≤ 5000 := by rw [List.length_append]; omega
      have hgb : (vS V)[((i + 1 + j : Nat) : Int).toNat]? = some (.cs (iS .i64 (V.getD (i + 1 + j) [])) (V.getD (i + 1 + j) []).length) := vS_get hjt
      have hob := hall.2 _ (vgetD_mem hjt)
      have hrs : E ++ rowE V i (j + 1) = E ++ rowE V i j ++ pairE (V.getD i []) (V.getD (i + 1 + j) []) i (i + 1 + j) := by rw [rowE_succ, List.append_assoc]
      generalize V.getD (i + 1 + j) [] = b at *
      generalize V.getD i [] = a at *
      generalize hF : E ++ rowE V i j = F at *
      have hfF := edL_len F
      have hab : b.length = a.length := by rw [hob.1, hoa.1]
      obtain ⟨m, hm⟩ : ∃ m : Nat, m = i + 1 + j := ⟨_, rfl⟩
      rw [← hm] at hgb hrs hjt ⊢
      clear hEl hEl2 hfl hst hra hFl
      (iterate 2 ((repeat' ((conv => whnf); first | left | refine OpsA.cons ?_ | refine OpsA.nil ?_ | refine AWq.seq ?_ | refine AWq.region ?_ | refine AWq.cond ?_ | refine AWq.block ?_ | refine AWq.skip ?_ | refine AWq.ret ?_ | refine AWq.exit ?_ | refine AWq.loop ?_ | refine DrawA.consD ?_ | refine DrawA.nil ?_ | refine AWq.draw (by decide +kernel) ?_ | (refine Both.mk ?_ ?_ <;> intro hc <;> (first | exact Bool.noConfusion hc | exact absurd (by assumption) hc | exact absurd hc (by assumption) | (exfalso; omega) | skip)) | (intro c hc; (try (simp only [AH.none_iff] at hc; repeat (have hn := hc.1; replace hc := hc.2))); (first | (have hc2 := Eq.trans hc (by with_reducible assumption); clear hc; subst hc2) | (refine i64_k hc ?_ ?_ ?_ ; omega; omega; (clear hc; intro hc; subst hc)) | subst hc | skip)) | (apply Exists.intro; apply And.intro; (first | (focus (repeat (first | (with_reducible assumption) | (with_reducible exact AH.set_same _ _ _))); done) | (focus (repeat (first | assumption)); done))) | (apply Exists.intro; apply And.intro; first | (with_reducible assumption) | ((try simp only [List.getElem?_drop, Nat.mul_one, Nat.add_zero, Nat.zero_add]); first | (with_reducible assumption) | assumption | rfl)) | (apply And.intro; (first | rfl | (with_reducible assumption) | exact Nat.le_of_ble_eq_true rfl | omega | assumption)))) <;> (try (conv => whnf)); refine Then.mk ?_))
      (repeat' ((conv => whnf); first | left | refine OpsA.cons ?_ | refine OpsA.nil ?_ | refine AWq.seq ?_ | refine AWq.region ?_ | refine AWq.cond ?_ | refine AWq.block ?_ | refine AWq.skip ?_ | refine AWq.ret ?_ | refine AWq.exit ?_ | refine AWq.loop ?_ | refine DrawA.consD ?_ | refine DrawA.nil ?_ | refine AWq.draw (by decide +kernel) ?_ | (refine Both.mk ?_ ?_ <;> intro hc <;> (first | exact Bool.noConfusion hc | exact absurd (by assumption) hc | exact absurd hc (by assumption) | (exfalso; omega) | skip)) | (intro c hc; (try (simp only [AH.none_iff] at hc; repeat (have hn := hc.1; replace hc := hc.2))); (first | (have hc2 := Eq.trans hc (by with_reducible assumption); clear hc; subst hc2) | (refine i64_k hc ?_ ?_ ?_ ; omega; omega; (clear hc; intro hc; subst hc)) | subst hc | skip)) | (apply Exists.intro; apply And.intro; (first | (focus (repeat (first | (with_reducible assumption) | (with_reducible exact AH.set_same _ _ _))); done) | (focus (repeat (first | assumption)); done))) | (apply Exists.intro; apply And.intro; first | (with_reducible assumption) | ((try simp only [List.getElem?_drop, Nat.mul_one, Nat.add_zero, Nat.zero_add]); first | (with_reducible assumption) | assumption | rfl)) | (apply And.intro; (first | rfl | (with_reducible assumption) | exact Nat.le_of_ble_eq_true rfl | omega | assumption)))) <;> (try (conv => whnf))
      refine Then.mk (AWq.in ?_)
      refine AWp_nilrow1 9 1 rfl rfl fun r9 hr9 => ?_
      refine AWp_freeze1 9 (r := r9) (v := 0) (es := 1) (n := 0) (lim := none) (cells := []) rfl rfl (AH.set_same _ _ _) rfl ?_
      rw [AH.del_set _ _ _ hr9]
      clear hr9
      refine AWp.of tt_ok (dok _) rfl ?_
      (repeat' ((conv => whnf); first | refine Then.mk ?_ | left | refine OpsA.cons ?_ | refine OpsA.nil ?_ | refine AWq.seq ?_ | refine AWq.region ?_ | refine AWq.cond ?_ | refine AWq.block ?_ | refine AWq.skip ?_ | refine AWq.ret ?_ | refine AWq.exit ?_ | refine AWq.loop ?_ | refine DrawA.consD ?_ | refine DrawA.nil ?_ | refine AWq.draw (by decide +kernel) ?_ | (refine Both.mk ?_ ?_ <;> intro hc <;> (first | exact Bool.noConfusion hc | exact absurd (by assumption) hc | exact absurd hc (by assumption) | (exfalso; omega) | skip)) | (intro c hc; (try (simp only [AH.none_iff] at hc; repeat (have hn := hc.1; replace hc := hc.2))); (first | (have hc2 := Eq.trans hc (by with_reducible assumption); clear hc; subst hc2) | (refine i64_k hc ?_ ?_ ?_ ; omega; omega; (clear hc; intro hc; subst hc)) | subst hc | skip)) | (apply Exists.intro; apply And.intro; (first | (focus (repeat (first | (with_reducible assumption) | (with_reducible exact AH.set_same _ _ _))); done) | (focus (repeat (first | assumption)); done))) | (apply Exists.intro; apply And.intro; first | (with_reducible assumption) | ((try simp only [List.getElem?_drop, Nat.mul_one, Nat.add_zero, Nat.zero_add]); first | (with_reducible assumption) | assumption | rfl)) | (apply And.intro; (first | rfl | (with_reducible assumption) | exact Nat.le_of_ble_eq_true rfl | omega | assumption)))) <;> (try (conv => whnf))
      refine AWp_loop (σ := Nat) (9 :: 10 :: 71 :: 72 :: 73 :: 74 :: 75 :: 76 :: 77 :: 78 :: 79 :: 80 :: 81 :: 82 :: 83 :: 84 :: 85 :: 86 :: 87 :: 88 :: 89 :: 90 :: 91 :: 92 :: 93 :: 94 :: 95 :: 96 :: 97 :: 98 :: 99 :: 100 :: 101 :: 102 :: 103 :: 104 :: 105 :: 106 :: 107 :: 108 :: 109 :: 110 :: 111 :: 112 :: 113 :: 114 :: []) (fun k => [(10, .int .i64 k), (9, .cs (iS .i64 (sortI (difL a b k))) (sortI (difL a b k)).length)]) (fun k => H.set r6 (.row (edL F) F.length)) (fun k => k ≤ a.length) (fun k => a.length - k) 0 rfl (Nat.zero_le _) ⟨rfl, rfl, trivial⟩ (HLe.refl _) ?_
      intro k hk
      refine AWp.of tt_ok (dok _) rfl ?_
      dsimp only at hk ⊢
      have hDl := difL_len a b k
      by_cases hkt : k < a.length
      · have hx : (iS .i64 a)[(k : Int).toNat]? = some (.int .i64 (a.getD k 0)) := iS_get hkt
        have hy : (iS .i64 b)[(k : Int).toNat]? = some (.int .i64 (b.getD k 0)) := iS_get (by omega)
        have ox := hoa.2 _ (getD_mem (l := a) (i := k) hkt)
        have oy := hob.2 _ (getD_mem (l := b) (i := k) (by omega))
        have hds := difL_succ a b k
        unfold difJ at hds
        have hil : (iS .i64 a).length = a.length := by simp
        have hib : (iS .i64 b).length = b.length := by simp
        generalize hD2 : difL a b (k + 1) = D2 at *
        generalize difL a b k = D at *
        generalize a.getD k 0 = x at *
        generalize b.getD k 0 = y at *
        unfold okI at ox oy
        have hpt := fun H => put_c (sortI D) (by rw [sortI_len]; omega) (y - x) H
        rw [← sortI_snoc] at hpt
        have hiD : (sortI D).length = D.length := by simp
        generalize hSD : sortI D = SD at *
        by_cases h1 : 0 ≤ x
        · by_cases h2 : 0 ≤ y
          · rw [if_pos ⟨h1, h2⟩] at hds
            rw [← hds] at hpt
            generalize hSD2 : sortI D2 = SD2 at *
            (repeat' ((conv => whnf); first | refine Then.mk ?_ | left | refine OpsA.cons ?_ | refine OpsA.nil ?_ | refine AWq.seq ?_ | refine AWq.region ?_ | refine AWq.cond ?_ | refine AWq.block ?_ | refine AWq.skip ?_ | refine AWq.ret ?_ | refine AWq.exit ?_ | refine AWq.loop ?_ | refine DrawA.consD ?_ | refine DrawA.nil ?_ | refine AWq.draw (by decide +kernel) ?_ | (apply Exists.intro; apply And.intro; exact hpt _) | (refine Both.mk ?_ ?_ <;> intro hc <;> (first | exact Bool.noConfusion hc | exact absurd (by assumption) hc | exact absurd hc (by assumption) | (exfalso; omega) | skip)) | (intro c hc; (try (simp only [AH.none_iff] at hc; repeat (have hn := hc.1; replace hc := hc.2))); (first | (have hc2 := Eq.trans hc (by with_reducible assumption); clear hc; subst hc2) | (refine i64_k hc ?_ ?_ ?_ ; omega; omega; (clear hc; intro hc; subst hc)) | subst hc | skip)) | (apply Exists.intro; apply And.intro; (first | (focus (repeat (first | (with_reducible assumption) | (with_reducible exact AH.set_same _ _ _))); done) | (focus (repeat (first | assumption)); done))) | (apply Exists.intro; apply And.intro; first | (with_reducible assumption) | ((try simp only [List.getElem?_drop, Nat.mul_one, Nat.add_zero, Nat.zero_add]); first | (with_reducible assumption) | assumption | rfl)) | (apply And.intro; (first | rfl | (with_reducible assumption) | exact Nat.le_of_ble_eq_true rfl | omega | assumption)))) <;> (try (conv => whnf))
            exact ⟨k + 1, hkt, show a.length - (k + 1) < a.length - k by omega, ⟨congrArg (AV.int .i64) (by omega), by rw [hD2, hSD2]; rfl, trivial⟩, HLe.refl _⟩
          · rw [if_neg (fun h => h2 h.2), List.append_nil] at hds
            clear hpt
            (repeat' ((conv => whnf); first | refine Then.mk ?_ | left | refine OpsA.cons ?_ | refine OpsA.nil ?_ | refine AWq.seq ?_ | refine AWq.region ?_ | refine AWq.cond ?_ | refine AWq.block ?_ | refine AWq.skip ?_ | refine AWq.ret ?_ | refine AWq.exit ?_ | refine AWq.loop ?_ | refine DrawA.consD ?_ | refine DrawA.nil ?_ | refine AWq.draw (by decide +kernel) ?_ | (refine Both.mk ?_ ?_ <;> intro hc <;> (first | exact Bool.noConfusion hc | exact absurd (by assumption) hc | exact absurd hc (by assumption) | (exfalso; omega) | skip)) | (intro c hc; (try (simp only [AH.none_iff] at hc; repeat (have hn := hc.1; replace hc := hc.2))); (first | (have hc2 := Eq.trans hc (by with_reducible assumption); clear hc; subst hc2) | (refine i64_k hc ?_ ?_ ?_ ; omega; omega; (clear hc; intro hc; subst hc)) | subst hc | skip)) | (apply Exists.intro; apply And.intro; (first | (focus (repeat (first | (with_reducible assumption) | (with_reducible exact AH.set_same _ _ _))); done) | (focus (repeat (first | assumption)); done))) | (apply Exists.intro; apply And.intro; first | (with_reducible assumption) | ((try simp only [List.getElem?_drop, Nat.mul_one, Nat.add_zero, Nat.zero_add]); first | (with_reducible assumption) | assumption | rfl)) | (apply And.intro; (first | rfl | (with_reducible assumption) | exact Nat.le_of_ble_eq_true rfl | omega | assumption)))) <;> (try (conv => whnf))
            exact ⟨k + 1, hkt, show a.length - (k + 1) < a.length - k by omega, ⟨congrArg (AV.int .i64) (by omega), by rw [hD2, hds, hSD]; rfl, trivial⟩, HLe.refl _⟩
        · rw [if_neg (fun h => h1 h.1), List.append_nil] at hds
          clear hpt
          (repeat' ((conv => whnf); first | refine Then.mk ?_ | left | refine OpsA.cons ?_ | refine OpsA.nil ?_ | refine AWq.seq ?_ | refine AWq.region ?_ | refine AWq.cond ?_ | refine AWq.block ?_ | refine AWq.skip ?_ | refine AWq.ret ?_ | refine AWq.exit ?_ | refine AWq.loop ?_ | refine DrawA.consD ?_ | refine DrawA.nil ?_ | refine AWq.draw (by decide +kernel) ?_ | (refine Both.mk ?_ ?_ <;> intro hc <;> (first | exact Bool.noConfusion hc | exact absurd (by assumption) hc | exact absurd hc (by assumption) | (exfalso; omega) | skip)) | (intro c hc; (try (simp only [AH.none_iff] at hc; repeat (have hn := hc.1; replace hc := hc.2))); (first | (have hc2 := Eq.trans hc (by with_reducible assumption); clear hc; subst hc2) | (refine i64_k hc ?_ ?_ ?_ ; omega; omega; (clear hc; intro hc; subst hc)) | subst hc | skip)) | (apply Exists.intro; apply And.intro; (first | (focus (repeat (first | (with_reducible assumption) | (with_reducible exact AH.set_same _ _ _))); done) | (focus (repeat (first | assumption)); done))) | (apply Exists.intro; apply And.intro; first | (with_reducible assumption) | ((try simp only [List.getElem?_drop, Nat.mul_one, Nat.add_zero, Nat.zero_add]); first | (with_reducible assumption) | assumption | rfl)) | (apply And.intro; (first | rfl | (with_reducible assumption) | exact Nat.le_of_ble_eq_true rfl | omega | assumption)))) <;> (try (conv => whnf))
          exact ⟨k + 1, hkt, show a.length - (k + 1) < a.length - k by omega, ⟨congrArg (AV.int .i64) (by omega), by rw [hD2, hds, hSD]; rfl, trivial⟩, HLe.refl _⟩
      · have hka' : k = a.length := by omega
        subst hka'
        unfold pairE at hrs
        generalize difL a b a.length = D at *
        have hiD : (iS .i64 (sortI D)).length = D.length := by simp
        rw [sortI_len]
        by_cases hD : 0 < D.length
        · rw [if_pos hD] at hrs
          have hq : IntKind.i64.wrap (((D.length : Int) - 1).tdiv 2) = (((D.length - 1) / 2 : Nat) : Int) := by
            rw [show ((D.length : Int) - 1) = ((D.length - 1 : Nat) : Int) by omega, Int.tdiv_eq_ediv_of_nonneg (by omega), IntKind.wrap_i64]; omega
          have hgm : (iS .i64 (sortI D))[(((D.length - 1) / 2 : Nat) : Int).toNat]? = some (.int .i64 (midI (sortI D))) := by
            rw [Int.toNat_natCast, iS_get (by rw [sortI_len]; omega)]
            unfold midI; rw [sortI_len]
          generalize iS .i64 (sortI D) = SD at *
          generalize midI (sortI D) = mid at *
          (repeat' ((conv => whnf); first | refine Then.mk ?_ | left | refine OpsA.cons ?_ | refine OpsA.nil ?_ | refine AWq.seq ?_ | refine AWq.region ?_ | refine AWq.cond ?_ | refine AWq.block ?_ | refine AWq.skip ?_ | refine AWq.ret ?_ | refine AWq.exit ?_ | refine AWq.loop ?_ | refine DrawA.consD ?_ | refine DrawA.nil ?_ | refine AWq.draw (by decide +kernel) ?_ | (refine Both.mk ?_ ?_ <;> intro hc <;> (first | exact Bool.noConfusion hc | exact absurd (by assumption) hc | exact absurd hc (by assumption) | (exfalso; omega) | skip)) | (intro c hc; (try (simp only [AH.none_iff] at hc; repeat (have hn := hc.1; replace hc := hc.2))); (first | (have hc2 := Eq.trans hc (by with_reducible assumption); clear hc; subst hc2) | (refine i64_k hc ?_ ?_ ?_ ; omega; omega; (clear hc; intro hc; subst hc)) | subst hc | skip)) | (apply Exists.intro; apply And.intro; (first | (focus (repeat (first | (with_reducible assumption) | (with_reducible exact AH.set_same _ _ _))); done) | (focus (repeat (first | assumption)); done))) | (apply Exists.intro; apply And.intro; first | (with_reducible assumption) | ((try simp only [List.getElem?_drop, Nat.mul_one, Nat.add_zero, Nat.zero_add]); first | (with_reducible assumption) | assumption | rfl)) | (apply And.intro; (first | rfl | (with_reducible assumption) | exact Nat.le_of_ble_eq_true rfl | omega | assumption)))) <;> (try (conv => whnf))
          refine ⟨j + 1, show i + 1 + (j + 1) ≤ V.length by omega, show V.length - (j + 1) < V.length - j by omega, ⟨congrArg (AV.int .i64) (by omega), rfl, ?_, trivial⟩, ?_⟩
          · rw [hrs, List.length_append]; rfl
          · have hX : edL (F ++ [(⟨i, m, mid, D.length⟩ : Ed)]) = edL F ++ [.int .i64 i, .int .i64 m, .int .i64 mid, .int .i64 (min (D.length : Int) 65536)] := by
              rw [show min (D.length : Int) 65536 = D.length by omega]
              exact (fL_snoc edA F _).symm
            rw [hrs, hX, List.length_append]
            exact HLe.push (HLe.refl _)
        · rw [if_neg hD, List.append_nil] at hrs
          (repeat' ((conv => whnf); first | refine Then.mk ?_ | left | refine OpsA.cons ?_ | refine OpsA.nil ?_ | refine AWq.seq ?_ | refine AWq.region ?_ | refine AWq.cond ?_ | refine AWq.block ?_ | refine AWq.skip ?_ | refine AWq.ret ?_ | refine AWq.exit ?_ | refine AWq.loop ?_ | refine DrawA.consD ?_ | refine DrawA.nil ?_ | refine AWq.draw (by decide +kernel) ?_ | (refine Both.mk ?_ ?_ <;> intro hc <;> (first | exact Bool.noConfusion hc | exact absurd (by assumption) hc | exact absurd hc (by assumption) | (exfalso; omega) | skip)) | (intro c hc; (try (simp only [AH.none_iff] at hc; repeat (have hn := hc.1; replace hc := hc.2))); (first | (have hc2 := Eq.trans hc (by with_reducible assumption); clear hc; subst hc2) | (refine i64_k hc ?_ ?_ ?_ ; omega; omega; (clear hc; intro hc; subst hc)) | subst hc | skip)) | (apply Exists.intro; apply And.intro; (first | (focus (repeat (first | (with_reducible assumption) | (with_reducible exact AH.set_same _ _ _))); done) | (focus (repeat (first | assumption)); done))) | (apply Exists.intro; apply And.intro; first | (with_reducible assumption) | ((try simp only [List.getElem?_drop, Nat.mul_one, Nat.add_zero, Nat.zero_add]); first | (with_reducible assumption) | assumption | rfl)) | (apply And.intro; (first | rfl | (with_reducible assumption) | exact Nat.le_of_ble_eq_true rfl | omega | assumption)))) <;> (try (conv => whnf))
          refine ⟨j + 1, show i + 1 + (j + 1) ≤ V.length by omega, show V.length - (j + 1) < V.length - j by omega, ⟨congrArg (AV.int .i64) (by omega), rfl, by rw [hrs]; rfl, trivial⟩, ?_⟩
          rw [hrs]
          exact HLe.refl _
    · (repeat' ((conv => whnf); first | refine Then.mk ?_ | left | refine OpsA.cons ?_ | refine OpsA.nil ?_ | refine AWq.seq ?_ | refine AWq.region ?_ | refine AWq.cond ?_ | refine AWq.block ?_ | refine AWq.skip ?_ | refine AWq.ret ?_ | refine AWq.exit ?_ | refine AWq.loop ?_ | refine DrawA.consD ?_ | refine DrawA.nil ?_ | refine AWq.draw (by decide +kernel) ?_ | (refine Both.mk ?_ ?_ <;> intro hc <;> (first | exact Bool.noConfusion hc | exact absurd (by assumption) hc | exact absurd hc (by assumption) | (exfalso; omega) | skip)) | (intro c hc; (try (simp only [AH.none_iff] at hc; repeat (have hn := hc.1; replace hc := hc.2))); (first | (have hc2 := Eq.trans hc (by with_reducible assumption); clear hc; subst hc2) | (refine i64_k hc ?_ ?_ ?_ ; omega; omega; (clear hc; intro hc; subst hc)) | subst hc | skip)) | (apply Exists.intro; apply And.intro; (first | (focus (repeat (first | (with_reducible assumption) | (with_reducible exact AH.set_same _ _ _))); done) | (focus (repeat (first | assumption)); done))) | (apply Exists.intro; apply And.intro; first | (with_reducible assumption) | ((try simp only [List.getElem?_drop, Nat.mul_one, Nat.add_zero, Nat.zero_add]); first | (with_reducible assumption) | assumption | rfl)) | (apply And.intro; (first | rfl | (with_reducible assumption) | exact Nat.le_of_ble_eq_true rfl | omega | assumption)))) <;> (try (conv => whnf))
      have hji : V.length - (i + 1) = j := by omega
      rw [hji] at hst
      refine ⟨i + 1, hlt, show V.length - (i + 1) < V.length - i by omega, ⟨congrArg (AV.int .i64) (by omega), ?_, trivial⟩, HLe.of_eq ?_⟩
      · rw [hE', hst]; rfl
      · rw [hE', hst]
  · have hie : i = V.length := by omega
    subst hie
    (repeat' ((conv => whnf); first | left | refine OpsA.cons ?_ | refine OpsA.nil ?_ | refine AWq.seq ?_ | refine AWq.region ?_ | refine AWq.cond ?_ | refine AWq.block ?_ | refine AWq.skip ?_ | refine AWq.ret ?_ | refine AWq.exit ?_ | refine AWq.loop ?_ | refine DrawA.consD ?_ | refine DrawA.nil ?_ | refine AWq.draw (by decide +kernel) ?_ | (refine Both.mk ?_ ?_ <;> intro hc <;> (first | exact Bool.noConfusion hc | exact absurd (by assumption) hc | exact absurd hc (by assumption) | (exfalso; omega) | skip)) | (intro c hc; (try (simp only [AH.none_iff] at hc; repeat (have hn := hc.1; replace hc := hc.2))); (first | (have hc2 := Eq.trans hc (by with_reducible assumption); clear hc; subst hc2) | (refine i64_k hc ?_ ?_ ?_ ; omega; omega; (clear hc; intro hc; subst hc)) | subst hc | skip)) | (apply Exists.intro; apply And.intro; (first | (focus (repeat (first | (with_reducible assumption) | (with_reducible exact AH.set_same _ _ _))); done) | (focus (repeat (first | assumption)); done))) | (apply Exists.intro; apply And.intro; first | (with_reducible assumption) | ((try simp only [List.getElem?_drop, Nat.mul_one, Nat.add_zero, Nat.zero_add]); first | (with_reducible assumption) | assumption | rfl)) | (apply And.intro; (first | rfl | (with_reducible assumption) | exact Nat.le_of_ble_eq_true rfl | omega | assumption)))) <;> (try (conv => whnf))
    refine Then.mk (AWq.in ?_)
    refine AWp_freeze1 6 (r := r6) (v := (ovE V V.length).length) (es := 4) (n := (ovE V V.length).length) (lim := none) (cells := edL (ovE V V.length)) rfl rfl (AH.set_same _ _ _) (edL_len _) ?_
    refine AWp_less H (HLe.del _ (HLe.fresh _ hr6) hr6) ?_
    refine AWp.of tt_ok (dok _) rfl ?_
    (repeat' ((conv => whnf); first | refine Then.mk ?_ | left | refine OpsA.cons ?_ | refine OpsA.nil ?_ | refine AWq.seq ?_ | refine AWq.region ?_ | refine AWq.cond ?_ | refine AWq.block ?_ | refine AWq.skip ?_ | refine AWq.ret ?_ | refine AWq.exit ?_ | refine AWq.loop ?_ | refine DrawA.consD ?_ | refine DrawA.nil ?_ | refine AWq.draw (by decide +kernel) ?_ | (refine Both.mk ?_ ?_ <;> intro hc <;> (first | exact Bool.noConfusion hc | exact absurd (by assumption) hc | exact absurd hc (by assumption) | (exfalso; omega) | skip)) | (intro c hc; (try (simp only [AH.none_iff] at hc; repeat (have hn := hc.1; replace hc := hc.2))); (first | (have hc2 := Eq.trans hc (by with_reducible assumption); clear hc; subst hc2) | (refine i64_k hc ?_ ?_ ?_ ; omega; omega; (clear hc; intro hc; subst hc)) | subst hc | skip)) | (apply Exists.intro; apply And.intro; (first | (focus (repeat (first | (with_reducible assumption) | (with_reducible exact AH.set_same _ _ _))); done) | (focus (repeat (first | assumption)); done))) | (apply Exists.intro; apply And.intro; first | (with_reducible assumption) | ((try simp only [List.getElem?_drop, Nat.mul_one, Nat.add_zero, Nat.zero_add]); first | (with_reducible assumption) | assumption | rfl)) | (apply And.intro; (first | rfl | (with_reducible assumption) | exact Nat.le_of_ble_eq_true rfl | omega | assumption)))) <;> (try (conv => whnf))
    exact ⟨_, H, AVle.refl _, by (first | ((repeat' (first | (with_reducible exact HLe.refl _) | (with_reducible assumption))); done)), rfl, rfl⟩
end Go.Proofs.Ytebflkgpbbjhnaa
/- The walks of the reference: Loose. -/
namespace Go.Proofs.Ytebflkgpbbjhnaa
open Go.Fw Go
set_option linter.unusedVariables false
set_option linter.unusedSimpArgs false

/-- Truths of a function. -/
def qL (n : Nat) (b : Nat → Bool) : List AV := fnL n fun v => AV.bool (b v)
@[simp] theorem qL_len (n : Nat) (b : Nat → Bool) : (qL n b).length = n := by simp [qL]
end Go.Proofs.Ytebflkgpbbjhnaa
/- The plain law of BalanceFits. -/
namespace Go.Proofs.Ytebflkgpbbjhnaa
open Go.Fw Go
set_option linter.unusedVariables false
set_option linter.unusedSimpArgs false

def fitE (W : Nat → Int) (x : Ed) : Ed := ⟨x.a, x.b, W x.a.toNat - W x.b.toNat, x.w⟩
def fitF (W : Nat → Int) (x : Fx) : Fx := ⟨x.a, W x.a.toNat, x.w⟩
theorem sum_zero : ∀ {l : List Int}, (∀ x ∈ l, 0 ≤ x) → l.sum ≤ 0 → ∀ x ∈ l, x = 0
  | [], _, _, x, hx => by cases hx
  | a :: l, h, hs, x, hx => by
    rw [List.sum_cons] at hs
    have ha := h a (by simp)
    have hl : 0 ≤ l.sum := by
      have : ∀ {l : List Int}, (∀ x ∈ l, 0 ≤ x) → 0 ≤ l.sum := by
        intro l
        induction l with
        | nil => intro _; simp
        | cons b l ih =>
          intro k
          rw [List.sum_cons]
          have := k b (by simp)
          have := ih fun x hx => k x (by simp [hx])
          omega
      exact this fun x hx => h x (by simp [hx])
    rcases List.mem_cons.1 hx with rfl | hx
    · omega
    · exact sum_zero (fun x hx => h x (by simp [hx])) (by omega) x hx
theorem absI_0 {z : Int} (h : absI z = 0) : z = 0 := by
  unfold absI at h; split at h <;> omega
theorem w_abs {w z : Int} (hw : 1 ≤ w) : 0 ≤ w * absI z ∧ (w * absI z = 0 → z = 0) := by
  have ha : 0 ≤ absI z := by unfold absI; split <;> omega
  refine ⟨Int.mul_nonneg (by omega) ha, fun h => absI_0 ?_⟩
  rcases Int.mul_eq_zero.1 h with h | h
  · omega
  · exact h
/-- A problem that fits has the cost 0, and its answer fits. -/
theorem fits {n : Nat} {es : List Ed} {fs : List Fx} {W : Nat → Int} {A : List Ac} {d o : Nat → Int} (h : Sv n (es.map (fitE W)) (fs.map (fitF W)) A d o) (hv : validV n (es.map (fitE W)) (fs.map (fitF W)) = 0) :
    (Proofs.Ytebflkgpbbjhnaa.costR (es.map (fitE W)) (fs.map (fitF W)) (fnL n (offS n d o))).1 = 0 ∧ (∀ x ∈ es, offS n d o x.a.toNat = W x.a.toNat ↔ offS n d o x.b.toNat = W x.b.toNat) ∧ ∀ x ∈ fs, offS n d o x.a.toNat = W x.a.toNat := by
  obtain ⟨_, _, hE, hF⟩ := validV_ok hv
  have hm := h.min hE hF W
  have hz : costP (es.map (fitE W)) (fs.map (fitF W)) W = 0 := by
    have z1 : ∀ l : List Int, (∀ x ∈ l, x = 0) → l.sum = 0 := by
      intro l
      induction l with
      | nil => intro _; rfl
      | cons a l ih => intro k; rw [List.sum_cons, k a (by simp), ih fun x hx => k x (by simp [hx])]; rfl
    unfold costP
    rw [z1 _ ?_, z1 _ ?_]
    · rfl
    · intro c hc
      obtain ⟨y, hy, rfl⟩ := List.mem_map.1 hc
      obtain ⟨x, hx, rfl⟩ := List.mem_map.1 hy
      show x.w * absI (W x.a.toNat - W x.a.toNat) = 0
      rw [Int.sub_self]; exact Int.mul_zero _
    · intro c hc
      obtain ⟨y, hy, rfl⟩ := List.mem_map.1 hc
      obtain ⟨x, hx, rfl⟩ := List.mem_map.1 hy
      show x.w * absI (W x.a.toNat - W x.b.toNat - (W x.a.toNat - W x.b.toNat)) = 0
      rw [Int.sub_self]; exact Int.mul_zero _
  rw [h.costR hE hF hv]
  rw [hz] at hm
  have n1 : ∀ c ∈ (es.map (fitE W)).map (costE (ofL (fnL n (offS n d o)))), 0 ≤ c := fun c hc => by
    obtain ⟨y, hy, rfl⟩ := List.mem_map.1 hc
    exact (w_abs (hE y hy).2.2.2.2.1).1
  have n2 : ∀ c ∈ (fs.map (fitF W)).map (costF (ofL (fnL n (offS n d o)))), 0 ≤ c := fun c hc => by
    obtain ⟨y, hy, rfl⟩ := List.mem_map.1 hc
    exact (w_abs (hF y hy).2.2.1).1
  have s1 : ∀ {l : List Int}, (∀ x ∈ l, 0 ≤ x) → 0 ≤ l.sum := by
    intro l
    induction l with
    | nil => intro _; simp
    | cons b l ih =>
      intro k
      rw [List.sum_cons]
      have := k b (by simp)
      have := ih fun x hx => k x (by simp [hx])
      omega
  have p1 := s1 n1
  have p2 := s1 n2
  have hat : ∀ v, v < n → ofL (fnL n (offS n d o)) v = offS n d o v := fun v hv => h.at hv
  refine ⟨?_, fun x hx => ?_, fun x hx => ?_⟩
  · show costP _ _ _ = 0
    unfold costP at hm ⊢
    omega
  · unfold costP at hm
    have hy : fitE W x ∈ es.map (fitE W) := List.mem_map.2 ⟨x, hx, rfl⟩
    obtain ⟨v1, v2, v3, v4, v5⟩ := hE _ hy
    have := sum_zero n1 (by omega) _ (List.mem_map.2 ⟨_, hy, rfl⟩)
    have := (w_abs v5.1).2 this
    have v1' : 0 ≤ x.a ∧ x.a < n := v1
    have v2' : 0 ≤ x.b ∧ x.b < n := v2
    rw [hat _ (show (fitE W x).a.toNat < n by show x.a.toNat < n; omega), hat _ (show (fitE W x).b.toNat < n by show x.b.toNat < n; omega)] at this
    have this : offS n d o x.a.toNat - offS n d o x.b.toNat - (W x.a.toNat - W x.b.toNat) = 0 := this
    omega
  · unfold costP at hm
    have hy : fitF W x ∈ fs.map (fitF W) := List.mem_map.2 ⟨x, hx, rfl⟩
    obtain ⟨v1, v4, v5⟩ := hF _ hy
    have := sum_zero n2 (by omega) _ (List.mem_map.2 ⟨_, hy, rfl⟩)
    have := (w_abs v5.1).2 this
    have v1' : 0 ≤ x.a ∧ x.a < n := v1
    rw [hat _ (show (fitF W x).a.toNat < n by show x.a.toNat < n; omega)] at this
    have this : offS n d o x.a.toNat - W x.a.toNat = 0 := this
    omega
end Go.Proofs.Ytebflkgpbbjhnaa
/- The plain law of BalanceOverlaps. -/
namespace Go.Proofs.Ytebflkgpbbjhnaa
open Go.Fw Go
set_option linter.unusedVariables false
set_option linter.unusedSimpArgs false

/-- Lists of the law: the values, and those of scenes that differ by constants. -/
def ovP (l : List Int) (k i j : Nat) : Nat := pickV l ((i * k + j : Nat) : Int) 1000
def ovA (l : List Int) (k i j : Nat) : Int := (ovP l k i j : Int) - 1
def ovB (l : List Int) (k c i j : Nat) : Int := if ovP l k i j % 4 = 0 then -1 else 1000 + (pickV l (j : Int) 500 : Int) + 13 * i * c
def ovVA (l : List Int) (k n : Nat) : List (List Int) := fnL n fun i => fnL k (ovA l k i)
def ovVB (l : List Int) (k c n : Nat) : List (List Int) := fnL n fun i => fnL k (ovB l k c i)
theorem ovVA_len (l : List Int) (k n : Nat) : (ovVA l k n).length = n := fnL_len _ _
theorem ovVB_len (l : List Int) (k c n : Nat) : (ovVB l k c n).length = n := fnL_len _ _
theorem fnL_mem {β : Type} {n : Nat} {g : Nat → β} {x : β} (h : x ∈ fnL n g) : ∃ i, i < n ∧ x = g i := by
  unfold fnL at h
  obtain ⟨i, hi, rfl⟩ := List.mem_map.1 h
  exact ⟨i, List.mem_range.1 hi, rfl⟩
theorem fnL_getD {β : Type} {n i : Nat} (g : Nat → β) (z : β) (h : i < n) : (fnL n g).getD i z = g i := by
  rw [List.getD_eq_getElem?_getD, fnL_get g h]; rfl
theorem ovA_r (l : List Int) (k i j : Nat) : -1 ≤ ovA l k i j ∧ ovA l k i j ≤ 998 := by
  have := pickV_lt (l := l) (i := ((i * k + j : Nat) : Int)) (m := 1000) (by decide)
  unfold ovA ovP; omega
theorem ovB_r (l : List Int) (k c i j : Nat) (hc : c < 50) (hi : i < 6) : -1 ≤ ovB l k c i j ∧ ovB l k c i j ≤ 5000 := by
  have := pickV_lt (l := l) (i := (j : Int)) (m := 500) (by decide)
  have h2 : 13 * i * c ≤ 65 * 49 := Nat.mul_le_mul (by omega) (by omega)
  have h3 : (13 * (i : Int) * c) = ((13 * i * c : Nat) : Int) := by simp
  unfold ovB; rw [h3]; split <;> omega
theorem vi_A (l : List Int) (k n : Nat) (hk : k < 9) (hn : n < 7) : VI (ovVA l k n) := by
  refine ⟨by rw [ovVA_len]; omega, fun r hr => ?_, fun r hr x hx => ?_⟩
  · obtain ⟨i, hi, rfl⟩ := fnL_mem hr
    rw [fnL_len]; omega
  · obtain ⟨i, hi, rfl⟩ := fnL_mem hr
    obtain ⟨j, hj, rfl⟩ := fnL_mem hx
    have := ovA_r l k i j; omega
theorem vi_B (l : List Int) (k c n : Nat) (hk : k < 9) (hn : n < 7) (hc : c < 50) : VI (ovVB l k c n) := by
  refine ⟨by rw [ovVB_len]; omega, fun r hr => ?_, fun r hr x hx => ?_⟩
  · obtain ⟨i, hi, rfl⟩ := fnL_mem hr
    rw [fnL_len]; omega
  · obtain ⟨i, hi, rfl⟩ := fnL_mem hr
    obtain ⟨j, hj, rfl⟩ := fnL_mem hx
    have := ovB_r l k c i j hc (by omega); omega
theorem ok_B (l : List Int) (k c n : Nat) (hn : n < 7) (hc : c < 50) : okV (ovVB l k c n) := by
  refine ⟨by rw [ovVB_len]; omega, fun r hr => ?_⟩
  obtain ⟨i, hi, rfl⟩ := fnL_mem hr
  refine ⟨?_, fun x hx => ?_⟩
  · show _ = ((fnL n fun i => fnL k (ovB l k c i)).getD 0 []).length
    rw [fnL_getD _ _ (by omega), fnL_len, fnL_len]
  · obtain ⟨j, hj, rfl⟩ := fnL_mem hx
    have := ovB_r l k c i j hc (by omega)
    unfold okI; omega
theorem vi_set {V : List (List Int)} (h : VI V) {R : List Int} {i : Nat} (h1 : R.length ≤ 12) (h2 : ∀ x ∈ R, -9223372036854775808 ≤ x ∧ x ≤ 9223372036854775807) : VI (V.set i R) := by
  refine ⟨by rw [List.length_set]; exact h.n, fun r hr => ?_, fun r hr => ?_⟩
  · rcases List.mem_or_eq_of_mem_set hr with h3 | h3
    · exact h.k r h3
    · rw [h3]; exact h1
  · rcases List.mem_or_eq_of_mem_set hr with h3 | h3
    · exact h.r r h3
    · rw [h3]; exact h2
theorem vi_nil (m : Nat) (hm : m ≤ 65) : VI (List.replicate m []) := by
  refine ⟨by simpa using hm, fun r hr => ?_, fun r hr x hx => ?_⟩
  · rw [(List.mem_replicate.1 hr).2]; simp
  · rw [(List.mem_replicate.1 hr).2] at hx; simp at hx
/-- The differences of two scenes are all one number. -/
theorem difB {l : List Int} {k c i m : Nat} {y : Int} : ∀ {K : Nat}, K ≤ k → y ∈ difL (fnL k (ovB l k c i)) (fnL k (ovB l k c m)) K → y = 13 * (m - i) * c
  | 0, _, h => by simp [difL] at h
  | K + 1, hK, h => by
    rw [difL_succ] at h
    rcases List.mem_append.1 h with h | h
    · exact difB (by omega) h
    · unfold difJ at h
      rw [fnL_getD _ _ (by omega), fnL_getD _ _ (by omega)] at h
      split at h
      · rename_i hp
        have hy := List.mem_singleton.1 h
        obtain ⟨p1, p2⟩ := hp
        have e1 : ovB l k c i K = 1000 + (pickV l (K : Int) 500 : Int) + 13 * i * c := by
          unfold ovB at p1 ⊢
          split
          · rename_i hz; rw [if_pos hz] at p1; omega
          · rfl
        have e2 : ovB l k c m K = 1000 + (pickV l (K : Int) 500 : Int) + 13 * m * c := by
          unfold ovB at p2 ⊢
          split
          · rename_i hz; rw [if_pos hz] at p2; omega
          · rfl
        rw [hy, e1, e2, Int.mul_sub, Int.sub_mul]; omega
      · simp at h
theorem midI_mem {l : List Int} (h : 0 < l.length) : midI l ∈ l := getD_mem (by omega)
/-- What the edges of the law are. -/
def ovX (n c : Nat) (x : Ed) : Prop := ∃ i m : Nat, i < m ∧ m < n ∧ x.a = i ∧ x.b = m ∧ x.d = 13 * ((m : Int) - i) * c ∧ 1 ≤ x.w ∧ x.w ≤ 12
theorem ovE_B {l : List Int} {k c n : Nat} (hk : k < 9) : ∀ x ∈ ovE (ovVB l k c n) n, ovX n c x := by
  intro x hx
  unfold ovE at hx
  obtain ⟨i, hi, hx⟩ := List.mem_flatMap.1 hx
  unfold rowE at hx
  obtain ⟨u, hu, hx⟩ := List.mem_flatMap.1 hx
  have hi := List.mem_range.1 hi
  have hu := List.mem_range.1 hu
  rw [ovVB_len] at hu
  have g : ∀ v, v < n → (ovVB l k c n).getD v [] = fnL k (ovB l k c v) := fun v hv => fnL_getD _ _ hv
  rw [g i hi, g (i + 1 + u) (by omega)] at hx
  unfold pairE at hx
  split at hx
  · rename_i hp
    have hx := List.mem_singleton.1 hx
    have hd := difL_len (fnL k (ovB l k c i)) (fnL k (ovB l k c (i + 1 + u))) (fnL k (ovB l k c i)).length
    have hm := sortI_mem.1 (midI_mem (l := sortI (difL (fnL k (ovB l k c i)) (fnL k (ovB l k c (i + 1 + u))) (fnL k (ovB l k c i)).length)) (by rw [sortI_len]; exact hp))
    have hy := difB (K := (fnL k (ovB l k c i)).length) (by rw [fnL_len]; exact Nat.le_refl _) hm
    rw [fnL_len] at hd
    rw [hx]
    refine ⟨i, i + 1 + u, by omega, by omega, rfl, rfl, hy, ?_, ?_⟩
    · dsimp only; omega
    · dsimp only; rw [fnL_len]; omega
  · simp at hx
theorem fitX {n c : Nat} {E : List Ed} (h : ∀ x ∈ E, ovX n c x) : E.map (fitE fun v => -(13 * (v : Int) * c)) = E := by
  have : ∀ x ∈ E, fitE (fun v => -(13 * (v : Int) * c)) x = x := fun x hx => by
    obtain ⟨i, m, h1, h2, h3, h4, h5, h6, h7⟩ := h x hx
    obtain ⟨a, b, d, w⟩ := x
    dsimp only at h3 h4 h5
    subst h3 h4 h5
    unfold fitE
    simp only [Int.toNat_natCast, Ed.mk.injEq, true_and, and_true]
    rw [Int.mul_sub, Int.sub_mul]; omega
  conv => rhs; rw [← List.map_id E]
  exact List.map_congr_left this
theorem ovX_valid {n c : Nat} {E : List Ed} (hn : n < 7) (hc : c < 50) (hl : E.length ≤ 100) (h : ∀ x ∈ E, ovX n c x) : validV n E [] = 0 := by
  refine valid0 (by omega) (by omega) (by simp) (fun x hx => ?_) (fun x hx => by simp at hx)
  obtain ⟨i, m, h1, h2, h3, h4, h5, h6, h7⟩ := h x hx
  have b : (m - i) * c ≤ 6 * 49 := Nat.mul_le_mul (by omega) (by omega)
  have e : 13 * ((m : Int) - i) * c = 13 * (((m - i) * c : Nat) : Int) := by
    rw [Int.mul_assoc, Int.natCast_mul, Int.natCast_sub (by omega)]
  rw [e] at h5
  unfold vE
  omega
end Go.Proofs.Ytebflkgpbbjhnaa
/- A row within a value, frozen. -/
set_option linter.unusedVariables false
namespace Go.Fw
open Go.RowKit

/-- A row in a value, told as a constant. -/
def Fr (r v : Nat) (cells : List AV) (a a' : AV) : Prop := ∀ (κ : KM) (F F' : FM) (x : Value), FLe F F' → (∀ (es m : Nat) (lim : Option Nat) (y : Value), cells.length = m * es → VR κ F (.sl r v es 0 m lim) y → VR κ F' (.cs cells m) y) → VR κ F a x → VR κ F' a' x
theorem Fr.refl {r v : Nat} {cells : List AV} (a : AV) : Fr r v cells a a := fun κ F F' x hF _ hx => hx.mono (KLe.refl _) hF
theorem Fr.sl {r v es m : Nat} {lim : Option Nat} {cells : List AV} (h : cells.length = m * es) : Fr r v cells (.sl r v es 0 m lim) (.cs cells m) := fun κ F F' x _ hs hx => hs _ _ _ _ h hx
theorem Fr.cs {r v n : Nat} {cells l m : List AV} (hl : m.length = l.length) (h : ∀ i (hi : i < l.length) (hj : i < m.length), Fr r v cells l[i] m[i]) : Fr r v cells (.cs l n) (.cs m n) := fun κ F F' x hF hs hx => by
  cases hx with
  | cs0 a c =>
    have : m = [] := by apply List.eq_nil_of_length_eq_zero; rw [hl]; rfl
    rw [this]; exact .cs0 _ _
  | cs hFb hle hc hi => exact .cs (hF _ _ hFb) (by rw [hl]; exact hle) hc fun i hj => h i (by rw [← hl]; exact hj) hj κ F F' _ hF hs (hi i (by rw [← hl]; exact hj))
theorem AWp_freezeIn {P : Program} {N : Nat} {ro : Option Nat} {ws : Nat → Bool} {c : Code} {K R : St → AH → Prop} {X : Nat → St → AH → Prop} {s : St} {H : AH} (t : Nat) {r v : Nat} {cells : List AV} {a a' : AV} (hts : ws t = true)
    (he : s.e t = a) (hH : H r = some (.row cells v)) (hfr : Fr r v cells a a')
    (h : AWp N P ro ws c K R X ⟨retold [t] a' s.e, s.d⟩ (H.del r)) : AWp N P ro ws c K R X s H := by
  refine ⟨fun κ F B w0 w a I hE => ?_⟩
  obtain ⟨F', hF, I', hall⟩ := I.coolAll hH
  have hag : Agree ws s ⟨retold [t] a' s.e, s.d⟩ := by
    intro u hu
    simp only [retold]
    cases hm : memA [t] u with
    | false => rfl
    | true =>
      have : u = t := by have := (memA_iff _ _).1 hm; simpa using this
      rw [this, hts] at hu; cases hu
  have hE' : ER κ F' N ⟨retold [t] a' s.e, s.d⟩ a := by
    refine ⟨fun u => ?_, hE.size, hE.d⟩
    simp only [retold]
    cases hm : memA [t] u with
    | false => exact (hE.e u).mono (KLe.refl _) hF
    | true =>
      have hut : u = t := by have := (memA_iff _ _).1 hm; simpa using this
      have hx := hE.e u
      rw [hut, he] at hx
      rw [hut]
      exact hfr κ F F' _ hF (fun es m lim y hl hy => hall _ _ _ _ _ hl hy) hx
  exact wpIn_mono (h.out κ F' B w0 w a I' hE') (fun e a w hq => QOk.from (KLe.refl _) hF hag hq)

end Go.Fw
/- The law BalanceOverlaps: the contract of the law's function. -/
namespace Go.Proofs.Ytebflkgpbbjhnaa
open Go.Fw Go
set_option linter.unusedVariables false
set_option linter.unusedSimpArgs false

theorem vS_snoc (V : List (List Int)) (r : List Int) : vS V ++ [.cs (iS .i64 r) r.length] = vS (V ++ [r]) := by simp [vS]
theorem vS_wr {V : List (List Int)} {i : Nat} (c : AV) (h : i < V.length) : wrA (vS V) (0 + (i : Int).toNat * 1) [c] = vS (V.take i) ++ c :: vS (V.drop (i + 1)) := by
  rw [show 0 + (i : Int).toNat * 1 = i by omega]
  unfold wrA vS
  rw [List.map_take, List.map_drop, List.append_assoc]; rfl
theorem vS_set {V : List (List Int)} {i : Nat} (R : List Int) (h : i < V.length) : vS (V.set i R) = vS (V.take i) ++ .cs (iS .i64 R) R.length :: vS (V.drop (i + 1)) := by
  unfold vS
  rw [List.set_eq_take_append_cons_drop, if_pos h, List.map_append, List.map_cons]
theorem vS_at {V : List (List Int)} {i : Nat} (c : AV) (h : i < V.length) : (vS (V.take i) ++ c :: vS (V.drop (i + 1)))[(i : Int).toNat]? = some c := by
  rw [Int.toNat_natCast, List.getElem?_append_right (by rw [vS_len, List.length_take]; omega), vS_len, List.length_take, Nat.min_eq_left (by omega), Nat.sub_self]; rfl
theorem vS_cl {V : List (List Int)} {i : Nat} (c : AV) (h : i < V.length) : (vS (V.take i) ++ c :: vS (V.drop (i + 1))).length = V.length := by
  rw [List.length_append, List.length_cons, vS_len, vS_len, List.length_take, List.length_drop]; omega
theorem AH.swap3 {H : AH} {a b r : Nat} (oa1 oa2 ob orr orr2 : AO) (hab : b ≠ a) (hra : r ≠ a) (hrb : r ≠ b) (hr : H r = none) :
    HLe (AH.set (AH.set H b ob) a oa2) ((AH.del (AH.set (AH.set (AH.set (AH.set H b ob) r orr) a oa1) r orr2) r).set a oa2) := by
  refine ⟨fun s x hs => ?_⟩
  by_cases e : s = r
  · subst e; rw [AH.set_ne _ _ hra, AH.set_ne _ _ hrb, hr] at hs; cases hs
  · by_cases e1 : s = a
    · subst e1; rw [AH.set_same] at hs ⊢; exact hs
    · rw [AH.set_ne _ _ e1] at hs
      rw [AH.set_ne _ _ e1, AH.del_ne _ e, AH.set_ne _ _ e, AH.set_ne _ _ e1, AH.set_ne _ _ e]; exact hs
theorem AH.swap2 {H : AH} {a b r : Nat} (oa1 oa2 ob orr : AO) (hab : b ≠ a) (hra : r ≠ a) (hrb : r ≠ b) (hr : H r = none) :
    HLe (AH.set (AH.set H b ob) a oa2) ((AH.del (AH.set (AH.set (AH.set H b ob) r orr) a oa1) r).set a oa2) := by
  have h := AH.swap3 (H := H) (a := a) (b := b) (r := r) oa1 oa2 ob orr orr hab hra hrb hr
  rwa [AH.set_back _ hra] at h
theorem vS_nils : ∀ m : Nat, AVles (List.replicate m [AV.nils]).flatten (vS (List.replicate m []))
  | 0 => AVles.nil
  | m + 1 => by
    rw [List.replicate_succ, List.flatten_cons, List.replicate_succ]
    exact AVles.cons AVle.nils (vS_nils m)
theorem vS_one (V : List (List Int)) : (vS V).all one = true := by
  unfold vS; rw [List.all_map]; exact List.all_eq_true.2 fun x _ => rfl
set_option maxHeartbeats 8000000 in
set_option maxRecDepth 8000 in
theorem BalanceOverlaps_c (l0 : List Int) (hl0 : l0.length ≤ maxLen) (hr0 : ∀ n ∈ l0, -9223372036854775808 ≤ n ∧ n ≤ 9223372036854775807) (x1 : Int) (hx1 : -9223372036854775808 ≤ x1 ∧ x1 ≤ 9223372036854775807) (x2 : Int) (hx2 : -9223372036854775808 ≤ x2 ∧ x2 ≤ 9223372036854775807) (x3 : Int) (hx3 : -9223372036854775808 ≤ x3 ∧ x3 ≤ 9223372036854775807) (x4 : Int) (hx4 : -9223372036854775808 ≤ x4 ∧ x4 ≤ 9223372036854775807) :
    ACall Try.prog 10 [.cs (iS .i64 l0) l0.length, .int .i64 x1, .int .i64 x2, .int .i64 x3, .int .i64 x4] (fun _ => none) (fun y _ => y = .bool true) := by
  have ha1 : ∀ H, ACall Try.prog 11 [.int .i64 x1, .int .i64 7] H (fun y H' => y = .int .i64 (aro x1 7) ∧ H' = H) := fun H => around_f x1 hx1.1 hx1.2 7 (by decide) (by decide) H
  have ha2 : ∀ H, ACall Try.prog 11 [.int .i64 x2, .int .i64 9] H (fun y H' => y = .int .i64 (aro x2 9) ∧ H' = H) := fun H => around_f x2 hx2.1 hx2.2 9 (by decide) (by decide) H
  have ha4 : ∀ H, ACall Try.prog 11 [.int .i64 x4, .int .i64 50] H (fun y H' => y = .int .i64 (aro x4 50) ∧ H' = H) := fun H => around_f x4 hx4.1 hx4.2 50 (by decide) (by decide) H
  have hn := aro_lt (n := x1) (m := 7) (by decide)
  have hk := aro_lt (n := x2) (m := 9) (by decide)
  have hcc := aro_lt (n := x4) (m := 50) (by decide)
  generalize aro x1 7 = n at *
  generalize aro x2 9 = k at *
  generalize aro x4 50 = cc at *
  have hll2 : l0.length ≤ 9223372036854775807 := by unfold maxLen at hl0; omega
  have hp := fun (i : Nat) (hi : i ≤ 1000) m hm1 hm2 H => pick_f l0 hr0 hll2 (i : Int) (by omega) m hm1 hm2 H
  generalize (fun _ => none : AH) = H0
  refine ACall_of tt_ok (dok _) Try.func10 rfl (by decide) rfl ?_
  (repeat' ((conv => whnf); first | left | refine OpsA.cons ?_ | refine OpsA.nil ?_ | refine AWq.seq ?_ | refine AWq.region ?_ | refine AWq.cond ?_ | refine AWq.block ?_ | refine AWq.skip ?_ | refine AWq.ret ?_ | refine AWq.exit ?_ | refine AWq.loop ?_ | refine DrawA.consD ?_ | refine DrawA.nil ?_ | refine AWq.draw (by decide +kernel) ?_ | (refine Both.mk ?_ ?_ <;> intro hc <;> (first | exact Bool.noConfusion hc | exact absurd (by with_reducible rfl) hc | (exfalso; omega) | skip)) | (intro c hc; (try (simp only [AH.none_iff] at hc; repeat (have hn := hc.1; replace hc := hc.2))); (first | (have hc2 := Eq.trans hc (by with_reducible assumption); clear hc; subst hc2) | (refine i64_k hc ?_ ?_ ?_ ; omega; omega; (clear hc; intro hc; subst hc)) | subst hc | skip)) | (apply Exists.intro; apply And.intro; (first | (focus (repeat (first | (with_reducible assumption) | (with_reducible exact AH.set_same _ _ _) | ((first | refine AH.get_ne ?_ ?_); (first | (with_reducible assumption) | exact Ne.symm (by with_reducible assumption))))); done))) | (apply Exists.intro; apply And.intro; first | (with_reducible assumption) | ((try simp only [List.getElem?_drop, Nat.mul_one, Nat.add_zero, Nat.zero_add]); first | (with_reducible assumption) | rfl)) | (apply And.intro; (first | rfl | (with_reducible assumption) | exact Nat.le_of_ble_eq_true rfl | omega | (simp <;> omega) | (focus (repeat' (first | (with_reducible assumption) | exact one_iS _ _ | rfl)); done))) | (refine ACall.to (ha1 _) ?_) | (refine ACall.to (ha2 _) ?_))) <;> (try (conv => whnf))
  refine Then.mk ?_
  (repeat' ((conv => whnf); first | left | refine OpsA.cons ?_ | refine OpsA.nil ?_ | refine AWq.seq ?_ | refine AWq.region ?_ | refine AWq.cond ?_ | refine AWq.block ?_ | refine AWq.skip ?_ | refine AWq.ret ?_ | refine AWq.exit ?_ | refine AWq.loop ?_ | refine DrawA.consD ?_ | refine DrawA.nil ?_ | refine AWq.draw (by decide +kernel) ?_ | (refine Both.mk ?_ ?_ <;> intro hc <;> (first | exact Bool.noConfusion hc | exact absurd (by with_reducible rfl) hc | (exfalso; omega) | skip)) | (intro c hc; (try (simp only [AH.none_iff] at hc; repeat (have hn := hc.1; replace hc := hc.2))); (first | (have hc2 := Eq.trans hc (by with_reducible assumption); clear hc; subst hc2) | (refine i64_k hc ?_ ?_ ?_ ; omega; omega; (clear hc; intro hc; subst hc)) | subst hc | skip)) | (apply Exists.intro; apply And.intro; (first | (focus (repeat (first | (with_reducible assumption) | (with_reducible exact AH.set_same _ _ _) | ((first | refine AH.get_ne ?_ ?_); (first | (with_reducible assumption) | exact Ne.symm (by with_reducible assumption))))); done))) | (apply Exists.intro; apply And.intro; first | (with_reducible assumption) | ((try simp only [List.getElem?_drop, Nat.mul_one, Nat.add_zero, Nat.zero_add]); first | (with_reducible assumption) | rfl)) | (apply And.intro; (first | rfl | (with_reducible assumption) | exact Nat.le_of_ble_eq_true rfl | omega | (simp <;> omega) | (focus (repeat' (first | (with_reducible assumption) | exact one_iS _ _ | rfl)); done))) | (refine ACall.to (ha1 _) ?_) | (refine ACall.to (ha2 _) ?_))) <;> (try (conv => whnf))
  refine Then.mk ?_
  (repeat' ((conv => whnf); first | left | refine OpsA.cons ?_ | refine OpsA.nil ?_ | refine AWq.seq ?_ | refine AWq.region ?_ | refine AWq.cond ?_ | refine AWq.block ?_ | refine AWq.skip ?_ | refine AWq.ret ?_ | refine AWq.exit ?_ | refine AWq.loop ?_ | refine DrawA.consD ?_ | refine DrawA.nil ?_ | refine AWq.draw (by decide +kernel) ?_ | (refine Both.mk ?_ ?_ <;> intro hc <;> (first | exact Bool.noConfusion hc | exact absurd (by with_reducible rfl) hc | (exfalso; omega) | skip)) | (intro c hc; (try (simp only [AH.none_iff] at hc; repeat (have hn := hc.1; replace hc := hc.2))); (first | (have hc2 := Eq.trans hc (by with_reducible assumption); clear hc; subst hc2) | (refine i64_k hc ?_ ?_ ?_ ; omega; omega; (clear hc; intro hc; subst hc)) | subst hc | skip)) | (apply Exists.intro; apply And.intro; (first | (focus (repeat (first | (with_reducible assumption) | (with_reducible exact AH.set_same _ _ _) | ((first | refine AH.get_ne ?_ ?_); (first | (with_reducible assumption) | exact Ne.symm (by with_reducible assumption))))); done))) | (apply Exists.intro; apply And.intro; first | (with_reducible assumption) | ((try simp only [List.getElem?_drop, Nat.mul_one, Nat.add_zero, Nat.zero_add]); first | (with_reducible assumption) | rfl)) | (apply And.intro; (first | rfl | (with_reducible assumption) | exact Nat.le_of_ble_eq_true rfl | omega | (simp <;> omega) | (focus (repeat' (first | (with_reducible assumption) | exact one_iS _ _ | rfl)); done))) | (refine ACall.to (ha1 _) ?_) | (refine ACall.to (ha2 _) ?_))) <;> (try (conv => whnf))
  refine Then.mk ?_
  (repeat' ((conv => whnf); first | left | refine OpsA.cons ?_ | refine OpsA.nil ?_ | refine AWq.seq ?_ | refine AWq.region ?_ | refine AWq.cond ?_ | refine AWq.block ?_ | refine AWq.skip ?_ | refine AWq.ret ?_ | refine AWq.exit ?_ | refine AWq.loop ?_ | refine DrawA.consD ?_ | refine DrawA.nil ?_ | refine AWq.draw (by decide +kernel) ?_ | (refine Both.mk ?_ ?_ <;> intro hc <;> (first | exact Bool.noConfusion hc | exact absurd (by with_reducible rfl) hc | (exfalso; omega) | skip)) | (intro c hc; (try (simp only [AH.none_iff] at hc; repeat (have hn := hc.1; replace hc := hc.2))); (first | (have hc2 := Eq.trans hc (by with_reducible assumption); clear hc; subst hc2) | (refine i64_k hc ?_ ?_ ?_ ; omega; omega; (clear hc; intro hc; subst hc)) | subst hc | skip)) | (apply Exists.intro; apply And.intro; (first | (focus (repeat (first | (with_reducible assumption) | (with_reducible exact AH.set_same _ _ _) | ((first | refine AH.get_ne ?_ ?_); (first | (with_reducible assumption) | exact Ne.symm (by with_reducible assumption))))); done))) | (apply Exists.intro; apply And.intro; first | (with_reducible assumption) | ((try simp only [List.getElem?_drop, Nat.mul_one, Nat.add_zero, Nat.zero_add]); first | (with_reducible assumption) | rfl)) | (apply And.intro; (first | rfl | (with_reducible assumption) | exact Nat.le_of_ble_eq_true rfl | omega | (simp <;> omega) | (focus (repeat' (first | (with_reducible assumption) | exact one_iS _ _ | rfl)); done))))) <;> (try (conv => whnf))
  refine Then.mk (AWq.in ?_)
  refine AWp_nilrow1 13 1 rfl rfl fun r13 hr13 => ?_
  refine AWp_nilrow1 14 1 rfl rfl fun r14 hr14 => ?_
  obtain ⟨hne, hr14⟩ := AH.none_set hr14
  refine AWp.of tt_ok (dok _) rfl ?_
  (repeat' ((conv => whnf); first | refine Then.mk ?_ | left | refine OpsA.cons ?_ | refine OpsA.nil ?_ | refine AWq.seq ?_ | refine AWq.region ?_ | refine AWq.cond ?_ | refine AWq.block ?_ | refine AWq.skip ?_ | refine AWq.ret ?_ | refine AWq.exit ?_ | refine AWq.loop ?_ | refine DrawA.consD ?_ | refine DrawA.nil ?_ | refine AWq.draw (by decide +kernel) ?_ | (refine Both.mk ?_ ?_ <;> intro hc <;> (first | exact Bool.noConfusion hc | exact absurd (by with_reducible rfl) hc | (exfalso; omega) | skip)) | (intro c hc; (try (simp only [AH.none_iff] at hc; repeat (have hn := hc.1; replace hc := hc.2))); (first | (have hc2 := Eq.trans hc (by with_reducible assumption); clear hc; subst hc2) | (refine i64_k hc ?_ ?_ ?_ ; omega; omega; (clear hc; intro hc; subst hc)) | subst hc | skip)) | (apply Exists.intro; apply And.intro; (first | (focus (repeat (first | (with_reducible assumption) | (with_reducible exact AH.set_same _ _ _) | ((first | refine AH.get_ne ?_ ?_); (first | (with_reducible assumption) | exact Ne.symm (by with_reducible assumption))))); done))) | (apply Exists.intro; apply And.intro; first | (with_reducible assumption) | ((try simp only [List.getElem?_drop, Nat.mul_one, Nat.add_zero, Nat.zero_add]); first | (with_reducible assumption) | rfl)) | (apply And.intro; (first | rfl | (with_reducible assumption) | exact Nat.le_of_ble_eq_true rfl | omega | (simp <;> omega) | (focus (repeat' (first | (with_reducible assumption) | exact one_iS _ _ | rfl)); done))))) <;> (try (conv => whnf))
  refine AWp_loop (σ := Nat) (13 :: 14 :: 15 :: 16 :: 17 :: 18 :: 19 :: 39 :: 40 :: 41 :: 42 :: 43 :: 44 :: 45 :: 46 :: 47 :: 48 :: 49 :: 50 :: 51 :: 52 :: 53 :: 54 :: 55 :: 56 :: 57 :: 58 :: 59 :: 60 :: 61 :: 62 :: 63 :: 64 :: 65 :: 66 :: 67 :: 68 :: 69 :: 70 :: 71 :: 72 :: 73 :: 74 :: 75 :: 76 :: 77 :: 78 :: 79 :: 80 :: 81 :: 82 :: 83 :: 84 :: 85 :: 86 :: 87 :: []) (fun i => [(15, .int .i64 i), (13, .sl r13 i 1 0 i none), (14, .sl r14 i 1 0 i none)]) (fun i => AH.set (AH.set H0 r13 (.row (vS (ovVA l0 k i)) i)) r14 (.row (vS (ovVB l0 k cc i)) i)) (fun i => i ≤ n) (fun i => n - i) 0 rfl (Nat.zero_le _) ⟨rfl, rfl, rfl, trivial⟩ (HLe.refl _) ?_
  intro i hi
  refine AWp.of tt_ok (dok _) rfl ?_
  dsimp only at hi ⊢
  by_cases hit : i < n
  · obtain ⟨G, hG⟩ : ∃ G, G = AH.set (AH.set H0 r13 (.row (vS (ovVA l0 k i)) i)) r14 (.row (vS (ovVB l0 k cc i)) i) := ⟨_, rfl⟩
    rw [← hG]
    have hg13 : G r13 = some (.row (vS (ovVA l0 k i)) i) := by rw [hG, AH.set_ne _ _ (Ne.symm hne), AH.set_same]
    have hg14 : G r14 = some (.row (vS (ovVB l0 k cc i)) i) := by rw [hG, AH.set_same]
    have hlA : (vS (ovVA l0 k i)).length = i := by rw [vS_len, ovVA_len]
    have hlB : (vS (ovVB l0 k cc i)).length = i := by rw [vS_len, ovVB_len]
    (iterate 2 ((repeat' ((conv => whnf); first | left | refine OpsA.cons ?_ | refine OpsA.nil ?_ | refine AWq.seq ?_ | refine AWq.region ?_ | refine AWq.cond ?_ | refine AWq.block ?_ | refine AWq.skip ?_ | refine AWq.ret ?_ | refine AWq.exit ?_ | refine AWq.loop ?_ | refine DrawA.consD ?_ | refine DrawA.nil ?_ | refine AWq.draw (by decide +kernel) ?_ | (refine Both.mk ?_ ?_ <;> intro hc <;> (first | exact Bool.noConfusion hc | exact absurd (by with_reducible rfl) hc | (exfalso; omega) | skip)) | (intro c hc; (try (simp only [AH.none_iff] at hc; repeat (have hn := hc.1; replace hc := hc.2))); (first | (have hc2 := Eq.trans hc (by with_reducible assumption); clear hc; subst hc2) | (refine i64_k hc ?_ ?_ ?_ ; omega; omega; (clear hc; intro hc; subst hc)) | subst hc | skip)) | (apply Exists.intro; apply And.intro; (first | (focus (repeat (first | (with_reducible assumption) | (with_reducible exact AH.set_same _ _ _) | ((first | refine AH.get_ne ?_ ?_); (first | (with_reducible assumption) | exact Ne.symm (by with_reducible assumption))))); done))) | (apply Exists.intro; apply And.intro; first | (with_reducible assumption) | ((try simp only [List.getElem?_drop, Nat.mul_one, Nat.add_zero, Nat.zero_add]); first | (with_reducible assumption) | rfl)) | (apply And.intro; (first | rfl | (with_reducible assumption) | exact Nat.le_of_ble_eq_true rfl | omega | (simp <;> omega) | (focus (repeat' (first | (with_reducible assumption) | exact one_iS _ _ | rfl)); done))))) <;> (try (conv => whnf)); refine Then.mk ?_))
    (repeat' ((conv => whnf); first | left | refine OpsA.cons ?_ | refine OpsA.nil ?_ | refine AWq.seq ?_ | refine AWq.region ?_ | refine AWq.cond ?_ | refine AWq.block ?_ | refine AWq.skip ?_ | refine AWq.ret ?_ | refine AWq.exit ?_ | refine AWq.loop ?_ | refine DrawA.consD ?_ | refine DrawA.nil ?_ | refine AWq.draw (by decide +kernel) ?_ | (refine Both.mk ?_ ?_ <;> intro hc <;> (first | exact Bool.noConfusion hc | exact absurd (by with_reducible rfl) hc | (exfalso; omega) | skip)) | (intro c hc; (try (simp only [AH.none_iff] at hc; repeat (have hn := hc.1; replace hc := hc.2))); (first | (have hc2 := Eq.trans hc (by with_reducible assumption); clear hc; subst hc2) | (refine i64_k hc ?_ ?_ ?_ ; omega; omega; (clear hc; intro hc; subst hc)) | subst hc | skip)) | (apply Exists.intro; apply And.intro; (first | (focus (repeat (first | (with_reducible assumption) | (with_reducible exact AH.set_same _ _ _) | ((first | refine AH.get_ne ?_ ?_); (first | (with_reducible assumption) | exact Ne.symm (by with_reducible assumption))))); done))) | (apply Exists.intro; apply And.intro; first | (with_reducible assumption) | ((try simp only [List.getElem?_drop, Nat.mul_one, Nat.add_zero, Nat.zero_add]); first | (with_reducible assumption) | rfl)) | (apply And.intro; (first | rfl | (with_reducible assumption) | exact Nat.le_of_ble_eq_true rfl | omega | (simp <;> omega) | (focus (repeat' (first | (with_reducible assumption) | exact one_iS _ _ | rfl)); done))))) <;> (try (conv => whnf))
    refine Then.mk (AWq.in ?_)
    refine AWp_nilrow1 16 1 rfl rfl fun ra hra => ?_
    refine AWp_nilrow1 17 1 rfl rfl fun rb hrb => ?_
    obtain ⟨hab, hrb⟩ := AH.none_set hrb
    refine AWp.of tt_ok (dok _) rfl ?_
    (repeat' ((conv => whnf); first | refine Then.mk ?_ | left | refine OpsA.cons ?_ | refine OpsA.nil ?_ | refine AWq.seq ?_ | refine AWq.region ?_ | refine AWq.cond ?_ | refine AWq.block ?_ | refine AWq.skip ?_ | refine AWq.ret ?_ | refine AWq.exit ?_ | refine AWq.loop ?_ | refine DrawA.consD ?_ | refine DrawA.nil ?_ | refine AWq.draw (by decide +kernel) ?_ | (refine Both.mk ?_ ?_ <;> intro hc <;> (first | exact Bool.noConfusion hc | exact absurd (by with_reducible rfl) hc | (exfalso; omega) | skip)) | (intro c hc; (try (simp only [AH.none_iff] at hc; repeat (have hn := hc.1; replace hc := hc.2))); (first | (have hc2 := Eq.trans hc (by with_reducible assumption); clear hc; subst hc2) | (refine i64_k hc ?_ ?_ ?_ ; omega; omega; (clear hc; intro hc; subst hc)) | subst hc | skip)) | (apply Exists.intro; apply And.intro; (first | (focus (repeat (first | (with_reducible assumption) | (with_reducible exact AH.set_same _ _ _) | ((first | refine AH.get_ne ?_ ?_); (first | (with_reducible assumption) | exact Ne.symm (by with_reducible assumption))))); done))) | (apply Exists.intro; apply And.intro; first | (with_reducible assumption) | ((try simp only [List.getElem?_drop, Nat.mul_one, Nat.add_zero, Nat.zero_add]); first | (with_reducible assumption) | rfl)) | (apply And.intro; (first | rfl | (with_reducible assumption) | exact Nat.le_of_ble_eq_true rfl | omega | (simp <;> omega) | (focus (repeat' (first | (with_reducible assumption) | exact one_iS _ _ | rfl)); done))))) <;> (try (conv => whnf))
    refine AWp_loop (σ := Nat) (16 :: 17 :: 18 :: 19 :: 44 :: 45 :: 46 :: 47 :: 48 :: 49 :: 50 :: 51 :: 52 :: 53 :: 54 :: 55 :: 56 :: 57 :: 58 :: 59 :: 60 :: 61 :: 62 :: 63 :: 64 :: 65 :: 66 :: 67 :: 68 :: 69 :: 70 :: 71 :: 72 :: 73 :: 74 :: 75 :: 76 :: 77 :: 78 :: 79 :: []) (fun j => [(18, .int .i64 j), (16, .sl ra j 1 0 j none), (17, .sl rb j 1 0 j none)]) (fun j => (G.set ra (.row (iS .i64 (fnL j (ovA l0 k i))) j)).set rb (.row (iS .i64 (fnL j (ovB l0 k cc i))) j)) (fun j => j ≤ k) (fun j => k - j) 0 rfl (Nat.zero_le _) ⟨rfl, rfl, rfl, trivial⟩ (HLe.refl _) ?_
    intro j hj
    refine AWp.of tt_ok (dok _) rfl ?_
    dsimp only at hj ⊢
    have hga : ((G.set ra (.row (iS .i64 (fnL j (ovA l0 k i))) j)).set rb (.row (iS .i64 (fnL j (ovB l0 k cc i))) j)) ra = some (.row (iS .i64 (fnL j (ovA l0 k i))) j) := by rw [AH.set_ne _ _ (Ne.symm hab), AH.set_same]
    have hgb : ((G.set ra (.row (iS .i64 (fnL j (ovA l0 k i))) j)).set rb (.row (iS .i64 (fnL j (ovB l0 k cc i))) j)) rb = some (.row (iS .i64 (fnL j (ovB l0 k cc i))) j) := AH.set_same _ _ _
    by_cases hjt : j < k
    · clear hg13 hg14 hG
      have hsA : iS .i64 (fnL (j + 1) (ovA l0 k i)) = iS .i64 (fnL j (ovA l0 k i)) ++ [.int .i64 (ovA l0 k i j)] := by rw [fnL_snoc, ← iS_snoc]
      have hsB : iS .i64 (fnL (j + 1) (ovB l0 k cc i)) = iS .i64 (fnL j (ovB l0 k cc i)) ++ [.int .i64 (ovB l0 k cc i j)] := by rw [fnL_snoc, ← iS_snoc]
      rw [show ovA l0 k i j = (pickV l0 ((i * k + j : Nat) : Int) 1000 : Int) - 1 from rfl] at hsA
      rw [show ovB l0 k cc i j = if pickV l0 ((i * k + j : Nat) : Int) 1000 % 4 = 0 then -1 else 1000 + (pickV l0 (j : Int) 500 : Int) + 13 * i * cc from rfl] at hsB
      have hlA3 : (iS .i64 (fnL j (ovA l0 k i))).length = j := by simp
      have hlB3 : (iS .i64 (fnL j (ovB l0 k cc i))).length = j := by simp
      have hikb : i * k ≤ 6 * 9 := Nat.mul_le_mul (by omega) (by omega)
      have hzb : 13 * i * cc ≤ 65 * 49 := Nat.mul_le_mul (by omega) (by omega)
      have pA := fun H => hp (i * k + j) (by omega) 1000 (by decide) (by decide) H
      have pB := fun H => hp j (by omega) 500 (by decide) (by decide) H
      have wk : IntKind.i64.wrap ((i : Int) * k) = ((i * k : Nat) : Int) := by rw [← Int.natCast_mul, IntKind.wrap_i64]; omega
      have wz : IntKind.i64.wrap (13 * (i : Int) * cc) = ((13 * i * cc : Nat) : Int) := by
        rw [show 13 * (i : Int) * cc = ((13 * i * cc : Nat) : Int) by simp, IntKind.wrap_i64]; omega
      have ez : 13 * (i : Int) * cc = ((13 * i * cc : Nat) : Int) := by simp
      rw [ez] at hsB
      have lA := pickV_lt (l := l0) (i := ((i * k + j : Nat) : Int)) (m := 1000) (by decide)
      have lB := pickV_lt (l := l0) (i := (j : Int)) (m := 500) (by decide)
      generalize pickV l0 ((i * k + j : Nat) : Int) 1000 = p at *
      generalize pickV l0 (j : Int) 500 = q at *
      generalize 13 * i * cc = z at *
      rw [show ((i * k + j : Nat) : Int) = ((i * k : Nat) : Int) + j by omega] at pA
      generalize i * k = ik at *
      have e4 : ((p : Int).tmod 4) = ((p % 4 : Nat) : Int) := by rw [Int.tmod_eq_emod_of_nonneg (by omega)]; omega
      generalize hA2 : iS .i64 (fnL (j + 1) (ovA l0 k i)) = A2 at *
      generalize iS .i64 (fnL j (ovA l0 k i)) = A1 at *
      generalize hB2 : iS .i64 (fnL (j + 1) (ovB l0 k cc i)) = B2 at *
      generalize iS .i64 (fnL j (ovB l0 k cc i)) = B1 at *
      by_cases h4 : p % 4 = 0
      · rw [if_pos h4] at hsB
        (repeat' ((conv => whnf); first | refine Then.mk ?_ | left | refine OpsA.cons ?_ | refine OpsA.nil ?_ | refine AWq.seq ?_ | refine AWq.region ?_ | refine AWq.cond ?_ | refine AWq.block ?_ | refine AWq.skip ?_ | refine AWq.ret ?_ | refine AWq.exit ?_ | refine AWq.loop ?_ | refine DrawA.consD ?_ | refine DrawA.nil ?_ | refine AWq.draw (by decide +kernel) ?_ | (apply Exists.intro; apply And.intro; exact ha4 _) | (refine Both.mk ?_ ?_ <;> intro hc <;> (first | exact Bool.noConfusion hc | exact absurd (by with_reducible rfl) hc | (exfalso; omega) | skip)) | (intro c hc; (try (simp only [AH.none_iff] at hc; repeat (have hn := hc.1; replace hc := hc.2))); (first | (have hc2 := Eq.trans hc (by with_reducible assumption); clear hc; subst hc2) | (refine i64_k hc ?_ ?_ ?_ ; omega; omega; (clear hc; intro hc; subst hc)) | subst hc | skip)) | (apply Exists.intro; apply And.intro; (first | (focus (repeat (first | (with_reducible assumption) | (with_reducible exact AH.set_same _ _ _) | ((first | refine AH.get_ne ?_ ?_); (first | (with_reducible assumption) | exact Ne.symm (by with_reducible assumption))))); done))) | (apply Exists.intro; apply And.intro; first | (with_reducible assumption) | ((try simp only [List.getElem?_drop, Nat.mul_one, Nat.add_zero, Nat.zero_add]); first | (with_reducible assumption) | rfl)) | (apply And.intro; (first | rfl | (with_reducible assumption) | exact Nat.le_of_ble_eq_true rfl | omega | (simp <;> omega) | (focus (repeat' (first | (with_reducible assumption) | exact one_iS _ _ | rfl)); done))) | (refine ACall.to (pA _) ?_) | (refine ACall.to (pB _) ?_) | (refine ACall.to (ha4 _) ?_))) <;> (try (conv => whnf))
        refine ⟨j + 1, hjt, show k - (j + 1) < k - j by omega, ⟨congrArg (AV.int .i64) (by omega), rfl, rfl, trivial⟩, HLe.of_eq ?_⟩
        rw [hA2, hB2, hsA, hsB, AH.set_back _ (Ne.symm hab), AH.set_set]
      · rw [if_neg h4] at hsB
        (repeat' ((conv => whnf); first | refine Then.mk ?_ | left | refine OpsA.cons ?_ | refine OpsA.nil ?_ | refine AWq.seq ?_ | refine AWq.region ?_ | refine AWq.cond ?_ | refine AWq.block ?_ | refine AWq.skip ?_ | refine AWq.ret ?_ | refine AWq.exit ?_ | refine AWq.loop ?_ | refine DrawA.consD ?_ | refine DrawA.nil ?_ | refine AWq.draw (by decide +kernel) ?_ | (apply Exists.intro; apply And.intro; exact ha4 _) | (refine Both.mk ?_ ?_ <;> intro hc <;> (first | exact Bool.noConfusion hc | exact absurd (by with_reducible rfl) hc | (exfalso; omega) | skip)) | (intro c hc; (try (simp only [AH.none_iff] at hc; repeat (have hn := hc.1; replace hc := hc.2))); (first | (have hc2 := Eq.trans hc (by with_reducible assumption); clear hc; subst hc2) | (refine i64_k hc ?_ ?_ ?_ ; omega; omega; (clear hc; intro hc; subst hc)) | subst hc | skip)) | (apply Exists.intro; apply And.intro; (first | (focus (repeat (first | (with_reducible assumption) | (with_reducible exact AH.set_same _ _ _) | ((first | refine AH.get_ne ?_ ?_); (first | (with_reducible assumption) | exact Ne.symm (by with_reducible assumption))))); done))) | (apply Exists.intro; apply And.intro; first | (with_reducible assumption) | ((try simp only [List.getElem?_drop, Nat.mul_one, Nat.add_zero, Nat.zero_add]); first | (with_reducible assumption) | rfl)) | (apply And.intro; (first | rfl | (with_reducible assumption) | exact Nat.le_of_ble_eq_true rfl | omega | (simp <;> omega) | (focus (repeat' (first | (with_reducible assumption) | exact one_iS _ _ | rfl)); done))) | (refine ACall.to (pA _) ?_) | (refine ACall.to (pB _) ?_) | (refine ACall.to (ha4 _) ?_))) <;> (try (conv => whnf))
        refine ⟨j + 1, hjt, show k - (j + 1) < k - j by omega, ⟨congrArg (AV.int .i64) (by omega), rfl, rfl, trivial⟩, HLe.of_eq ?_⟩
        rw [hA2, hB2, hsA, hsB, AH.set_back _ (Ne.symm hab), AH.set_set]
    · have hjk : j = k := by omega
      subst hjk
      (repeat' ((conv => whnf); first | left | refine OpsA.cons ?_ | refine OpsA.nil ?_ | refine AWq.seq ?_ | refine AWq.region ?_ | refine AWq.cond ?_ | refine AWq.block ?_ | refine AWq.skip ?_ | refine AWq.ret ?_ | refine AWq.exit ?_ | refine AWq.loop ?_ | refine DrawA.consD ?_ | refine DrawA.nil ?_ | refine AWq.draw (by decide +kernel) ?_ | (refine Both.mk ?_ ?_ <;> intro hc <;> (first | exact Bool.noConfusion hc | exact absurd (by with_reducible rfl) hc | (exfalso; omega) | skip)) | (intro c hc; (try (simp only [AH.none_iff] at hc; repeat (have hn := hc.1; replace hc := hc.2))); (first | (have hc2 := Eq.trans hc (by with_reducible assumption); clear hc; subst hc2) | (refine i64_k hc ?_ ?_ ?_ ; omega; omega; (clear hc; intro hc; subst hc)) | subst hc | skip)) | (apply Exists.intro; apply And.intro; (first | (focus (repeat (first | (with_reducible assumption) | (with_reducible exact AH.set_same _ _ _) | ((first | refine AH.get_ne ?_ ?_); (first | (with_reducible assumption) | exact Ne.symm (by with_reducible assumption))))); done))) | (apply Exists.intro; apply And.intro; first | (with_reducible assumption) | ((try simp only [List.getElem?_drop, Nat.mul_one, Nat.add_zero, Nat.zero_add]); first | (with_reducible assumption) | rfl)) | (apply And.intro; (first | rfl | (with_reducible assumption) | exact Nat.le_of_ble_eq_true rfl | omega | (simp <;> omega) | (focus (repeat' (first | (with_reducible assumption) | exact one_iS _ _ | rfl)); done))))) <;> (try (conv => whnf))
      refine Then.mk (AWq.in ?_)
      refine AWp_freeze1 16 (r := ra) (v := j) (es := 1) (n := j) (lim := none) (cells := iS .i64 (fnL j (ovA l0 j i))) rfl rfl hga (by simp) ?_
      refine AWp_freeze1 17 (r := rb) (v := j) (es := 1) (n := j) (lim := none) (cells := iS .i64 (fnL j (ovB l0 j cc i))) rfl rfl (by rw [AH.del_ne _ hab]; exact hgb) (by simp) ?_
      refine AWp_less G (HLe.del _ (HLe.del _ (HLe.set_of _ _ (HLe.set_of _ _ (HLe.refl _) hra) hrb) hra) hrb) ?_
      clear hga hgb
      have hsA : vS (ovVA l0 j (i + 1)) = vS (ovVA l0 j i) ++ [.cs (iS .i64 (fnL j (ovA l0 j i))) j] := by
        have := vS_snoc (ovVA l0 j i) (fnL j (ovA l0 j i))
        rw [fnL_len] at this
        rw [this]; unfold ovVA; rw [fnL_snoc]
      have hsB : vS (ovVB l0 j cc (i + 1)) = vS (ovVB l0 j cc i) ++ [.cs (iS .i64 (fnL j (ovB l0 j cc i))) j] := by
        have := vS_snoc (ovVB l0 j cc i) (fnL j (ovB l0 j cc i))
        rw [fnL_len] at this
        rw [this]; unfold ovVB; rw [fnL_snoc]
      generalize iS .i64 (fnL j (ovA l0 j i)) = RA at *
      generalize iS .i64 (fnL j (ovB l0 j cc i)) = RB at *
      refine AWp.of tt_ok (dok _) rfl ?_
      (repeat' ((conv => whnf); first | refine Then.mk ?_ | left | refine OpsA.cons ?_ | refine OpsA.nil ?_ | refine AWq.seq ?_ | refine AWq.region ?_ | refine AWq.cond ?_ | refine AWq.block ?_ | refine AWq.skip ?_ | refine AWq.ret ?_ | refine AWq.exit ?_ | refine AWq.loop ?_ | refine DrawA.consD ?_ | refine DrawA.nil ?_ | refine AWq.draw (by decide +kernel) ?_ | (refine Both.mk ?_ ?_ <;> intro hc <;> (first | exact Bool.noConfusion hc | exact absurd (by with_reducible rfl) hc | (exfalso; omega) | skip)) | (intro c hc; (try (simp only [AH.none_iff] at hc; repeat (have hn := hc.1; replace hc := hc.2))); (first | (have hc2 := Eq.trans hc (by with_reducible assumption); clear hc; subst hc2) | (refine i64_k hc ?_ ?_ ?_ ; omega; omega; (clear hc; intro hc; subst hc)) | subst hc | skip)) | (apply Exists.intro; apply And.intro; (first | (focus (repeat (first | (with_reducible assumption) | (with_reducible exact AH.set_same _ _ _) | ((first | refine AH.get_ne ?_ ?_); (first | (with_reducible assumption) | exact Ne.symm (by with_reducible assumption))))); done))) | (apply Exists.intro; apply And.intro; first | (with_reducible assumption) | ((try simp only [List.getElem?_drop, Nat.mul_one, Nat.add_zero, Nat.zero_add]); first | (with_reducible assumption) | rfl)) | (apply And.intro; (first | rfl | (with_reducible assumption) | exact Nat.le_of_ble_eq_true rfl | omega | (simp <;> omega) | (focus (repeat' (first | (with_reducible assumption) | exact one_iS _ _ | rfl)); done))))) <;> (try (conv => whnf))
      refine ⟨i + 1, hit, show n - (i + 1) < n - i by omega, ⟨congrArg (AV.int .i64) (by omega), rfl, rfl, trivial⟩, HLe.of_eq ?_⟩
      rw [hsA, hsB, hG, AH.set_back _ (Ne.symm hne), AH.set_set]
  · have hin : i = n := by omega
    subst hin
    (iterate 1 ((repeat' ((conv => whnf); first | left | refine OpsA.cons ?_ | refine OpsA.nil ?_ | refine AWq.seq ?_ | refine AWq.region ?_ | refine AWq.cond ?_ | refine AWq.block ?_ | refine AWq.skip ?_ | refine AWq.ret ?_ | refine AWq.exit ?_ | refine AWq.loop ?_ | refine DrawA.consD ?_ | refine DrawA.nil ?_ | refine AWq.draw (by decide +kernel) ?_ | (refine Both.mk ?_ ?_ <;> intro hc <;> (first | exact Bool.noConfusion hc | exact absurd (by with_reducible rfl) hc | (exfalso; omega) | skip)) | (intro c hc; (try (simp only [AH.none_iff] at hc; repeat (have hn := hc.1; replace hc := hc.2))); (first | (have hc2 := Eq.trans hc (by with_reducible assumption); clear hc; subst hc2) | (refine i64_k hc ?_ ?_ ?_ ; omega; omega; (clear hc; intro hc; subst hc)) | subst hc | skip)) | (apply Exists.intro; apply And.intro; (first | (focus (repeat (first | (with_reducible assumption) | (with_reducible exact AH.set_same _ _ _) | ((first | refine AH.get_ne ?_ ?_); (first | (with_reducible assumption) | exact Ne.symm (by with_reducible assumption))))); done))) | (apply Exists.intro; apply And.intro; first | (with_reducible assumption) | ((try simp only [List.getElem?_drop, Nat.mul_one, Nat.add_zero, Nat.zero_add]); first | (with_reducible assumption) | rfl)) | (apply And.intro; (first | rfl | (with_reducible assumption) | exact Nat.le_of_ble_eq_true rfl | omega | (simp <;> omega) | (focus (repeat' (first | (with_reducible assumption) | exact one_iS _ _ | rfl)); done))))) <;> (try (conv => whnf)); refine Then.mk ?_))
    (repeat' ((conv => whnf); first | left | refine OpsA.cons ?_ | refine OpsA.nil ?_ | refine AWq.seq ?_ | refine AWq.region ?_ | refine AWq.cond ?_ | refine AWq.block ?_ | refine AWq.skip ?_ | refine AWq.ret ?_ | refine AWq.exit ?_ | refine AWq.loop ?_ | refine DrawA.consD ?_ | refine DrawA.nil ?_ | refine AWq.draw (by decide +kernel) ?_ | (refine Both.mk ?_ ?_ <;> intro hc <;> (first | exact Bool.noConfusion hc | exact absurd (by with_reducible rfl) hc | (exfalso; omega) | skip)) | (intro c hc; (try (simp only [AH.none_iff] at hc; repeat (have hn := hc.1; replace hc := hc.2))); (first | (have hc2 := Eq.trans hc (by with_reducible assumption); clear hc; subst hc2) | (refine i64_k hc ?_ ?_ ?_ ; omega; omega; (clear hc; intro hc; subst hc)) | subst hc | skip)) | (apply Exists.intro; apply And.intro; (first | (focus (repeat (first | (with_reducible assumption) | (with_reducible exact AH.set_same _ _ _) | ((first | refine AH.get_ne ?_ ?_); (first | (with_reducible assumption) | exact Ne.symm (by with_reducible assumption))))); done))) | (apply Exists.intro; apply And.intro; first | (with_reducible assumption) | ((try simp only [List.getElem?_drop, Nat.mul_one, Nat.add_zero, Nat.zero_add]); first | (with_reducible assumption) | rfl)) | (apply And.intro; (first | rfl | (with_reducible assumption) | exact Nat.le_of_ble_eq_true rfl | omega | (simp <;> omega) | (focus (repeat' (first | (with_reducible assumption) | exact one_iS _ _ | rfl)); done))))) <;> (try (conv => whnf))
    refine Then.mk (AWq.in ?_)
    refine AWp_freeze1 13 (r := r13) (v := i) (es := 1) (n := i) (lim := none) (cells := vS (ovVA l0 k i)) rfl rfl (by rw [AH.set_ne _ _ (Ne.symm hne), AH.set_same]) (by rw [vS_len, ovVA_len]; omega) ?_
    refine AWp_freeze1 14 (r := r14) (v := i) (es := 1) (n := i) (lim := none) (cells := vS (ovVB l0 k cc i)) rfl rfl (by rw [AH.del_ne _ hne, AH.set_same]) (by rw [vS_len, ovVB_len]; omega) ?_
    refine AWp_less H0 (HLe.del _ (HLe.del _ (HLe.set_of _ _ (HLe.set_of _ _ (HLe.refl _) hr13) hr14) hr13) hr14) ?_
    refine AWp.of tt_ok (dok _) rfl ?_
    have viA := vi_A l0 k i hk hn
    have viB := vi_B l0 k cc i hk hn hcc
    have okB := ok_B l0 k cc i hn hcc
    have hX := ovE_B (l := l0) (k := k) (c := cc) (n := i) hk
    have lA := ovVA_len l0 k i
    have lB := ovVB_len l0 k cc i
    have hrA : ∀ v, v < i → (ovVA l0 k i)[v]? = some (fnL k (ovA l0 k v)) := fun v hv => fnL_get _ hv
    generalize ovVA l0 k i = VA at *
    generalize ovVB l0 k cc i = VB at *
    have ha3 := fun (m : Nat) (h1 : 1 ≤ m) (h2 : m ≤ 1000000) H => around_f x3 hx3.1 hx3.2 m h1 h2 H
    have hvl := vS_len VA
    have hvo := vS_one VA
    have hn7 := hn
    (repeat' ((conv => whnf); first | refine Or.inr (Or.inr (And.intro rfl ?_)) | left | refine OpsA.cons ?_ | refine OpsA.nil ?_ | refine AWq.seq ?_ | refine AWq.region ?_ | refine AWq.cond ?_ | refine AWq.block ?_ | refine AWq.skip ?_ | refine AWq.ret ?_ | refine AWq.exit ?_ | refine AWq.loop ?_ | refine DrawA.consD ?_ | refine DrawA.nil ?_ | refine AWq.draw (by decide +kernel) ?_ | (refine Both.mk ?_ ?_ <;> intro hc <;> (first | exact Bool.noConfusion hc | exact absurd (by with_reducible rfl) hc | (exfalso; omega) | skip)) | (intro c hc; (try (simp only [AH.none_iff] at hc; repeat (have hn := hc.1; replace hc := hc.2))); (first | (have hc2 := Eq.trans hc (by with_reducible assumption); clear hc; subst hc2) | (refine i64_k hc ?_ ?_ ?_ ; omega; omega; (clear hc; intro hc; subst hc)) | subst hc | skip)) | (apply Exists.intro; apply And.intro; (first | (focus (repeat (first | (with_reducible assumption) | (with_reducible exact AH.set_same _ _ _) | ((first | refine AH.get_ne ?_ ?_); (first | (with_reducible assumption) | exact Ne.symm (by with_reducible assumption))))); done))) | (apply Exists.intro; apply And.intro; first | (with_reducible assumption) | ((try simp only [List.getElem?_drop, Nat.mul_one, Nat.add_zero, Nat.zero_add]); first | (with_reducible assumption) | rfl)) | (apply And.intro; (first | rfl | (with_reducible assumption) | exact Nat.le_of_ble_eq_true rfl | omega | (simp <;> omega) | (focus (repeat' (first | (with_reducible assumption) | exact one_iS _ _ | rfl)); done))))) <;> (try (conv => whnf))
    (obtain ⟨q20, hq_⟩ : ∃ q20, q20 = c := ⟨_, rfl⟩); subst hq_
    have hq20 : H0 q20 = none := hc
    refine Then.mk ?_
    (repeat' ((conv => whnf); first | refine Or.inr (Or.inr (And.intro rfl ?_)) | left | refine OpsA.cons ?_ | refine OpsA.nil ?_ | refine AWq.seq ?_ | refine AWq.region ?_ | refine AWq.cond ?_ | refine AWq.block ?_ | refine AWq.skip ?_ | refine AWq.ret ?_ | refine AWq.exit ?_ | refine AWq.loop ?_ | refine DrawA.consD ?_ | refine DrawA.nil ?_ | refine AWq.draw (by decide +kernel) ?_ | (refine Both.mk ?_ ?_ <;> intro hc <;> (first | exact Bool.noConfusion hc | exact absurd (by with_reducible rfl) hc | (exfalso; omega) | skip)) | (intro c hc; (try (simp only [AH.none_iff] at hc; repeat (have hn := hc.1; replace hc := hc.2))); (first | (have hc2 := Eq.trans hc (by with_reducible assumption); clear hc; subst hc2) | (refine i64_k hc ?_ ?_ ?_ ; omega; omega; (clear hc; intro hc; subst hc)) | subst hc | skip)) | (apply Exists.intro; apply And.intro; (first | (focus (repeat (first | (with_reducible assumption) | (with_reducible exact AH.set_same _ _ _) | ((first | refine AH.get_ne ?_ ?_); (first | (with_reducible assumption) | exact Ne.symm (by with_reducible assumption))))); done))) | (apply Exists.intro; apply And.intro; first | (with_reducible assumption) | ((try simp only [List.getElem?_drop, Nat.mul_one, Nat.add_zero, Nat.zero_add]); first | (with_reducible assumption) | rfl)) | (apply And.intro; (first | rfl | (with_reducible assumption) | exact Nat.le_of_ble_eq_true rfl | omega | (simp <;> omega) | (focus (repeat' (first | (with_reducible assumption) | exact one_iS _ _ | rfl)); done))))) <;> (try (conv => whnf))
    (obtain ⟨q21, hq_⟩ : ∃ q21, q21 = c := ⟨_, rfl⟩); subst hq_
    have hne2 : q21 ≠ q20 := hn
    have hq21 : H0 q21 = none := hc
    clear hc hn
    refine Then.mk ?_
    obtain ⟨B, hB⟩ : ∃ B, B = if 0 < i ∧ 0 < k then VA.set (aro x3 i) ((fnL k (ovA l0 k (aro x3 i))).set (aro x3 k) x4) else VA := ⟨_, rfl⟩
    obtain ⟨L, hL⟩ : ∃ L, L = if 0 < i ∧ 0 < k then VA.set (aro x3 i) (fnL k (ovA l0 k (aro x3 i)) ++ [7]) else VA := ⟨_, rfl⟩
    have hBl : B.length = i := by rw [hB]; split <;> simp [lA]
    have hLl : L.length = i := by rw [hL]; split <;> simp [lA]
    have viB2 : VI B := by
      rw [hB]; split
      · refine vi_set viA (by rw [List.length_set, fnL_len]; omega) fun x hx => ?_
        rcases List.mem_or_eq_of_mem_set hx with h | h
        · obtain ⟨j, hj, rfl⟩ := fnL_mem h
          have := ovA_r l0 k (aro x3 i) j; omega
        · rw [h]; exact hx4
      · exact viA
    have viL : VI L := by
      rw [hL]; split
      · refine vi_set viA (by rw [List.length_append, fnL_len]; simp; omega) fun x hx => ?_
        rcases List.mem_append.1 hx with h | h
        · obtain ⟨j, hj, rfl⟩ := fnL_mem h
          have := ovA_r l0 k (aro x3 i) j; omega
        · rw [List.mem_singleton.1 h]; decide
      · exact viA
    apply Kept_split
    case main =>
      intro tail
      by_cases h1 : 0 < i
      · by_cases h2 : 0 < k
        · have hB1 : B = VA.set (aro x3 i) ((fnL k (ovA l0 k (aro x3 i))).set (aro x3 k) x4) := by rw [hB, if_pos ⟨h1, h2⟩]
          have hL1 : L = VA.set (aro x3 i) (fnL k (ovA l0 k (aro x3 i)) ++ [7]) := by rw [hL, if_pos ⟨h1, h2⟩]
          have a1 := fun H => ha3 i (by omega) (by omega) H
          have a2 := fun H => ha3 k (by omega) (by omega) H
          have b1 := aro_lt (n := x3) (m := i) (by omega)
          have b2 := aro_lt (n := x3) (m := k) (by omega)
          obtain ⟨i0, hi0⟩ : ∃ i0, i0 = aro x3 i := ⟨_, rfl⟩
          obtain ⟨j0, hj0⟩ : ∃ j0, j0 = aro x3 k := ⟨_, rfl⟩
          rw [← hi0, ← hj0] at hB1
          rw [← hi0] at hL1 a1 b1
          rw [← hj0] at a2 b2
          have hg : (vS VA)[(i0 : Int).toNat]? = some (.cs (iS .i64 (fnL k (ovA l0 k i0))) k) := by
            have := vS_get (V := VA) (i := i0) (by omega)
            rw [List.getD_eq_getElem?_getD, hrA i0 b1] at this
            rw [Int.toNat_natCast, this]
            show some (AV.cs (iS .i64 (fnL k (ovA l0 k i0))) (fnL k (ovA l0 k i0)).length) = _
            rw [fnL_len]
          have hl0 : (iS .i64 (fnL k (ovA l0 k i0))).length = k := by simp
          (iterate 1 ((repeat' ((conv => whnf); first | left | refine OpsA.cons ?_ | refine OpsA.nil ?_ | refine AWq.seq ?_ | refine AWq.region ?_ | refine AWq.cond ?_ | refine AWq.block ?_ | refine AWq.skip ?_ | refine AWq.ret ?_ | refine AWq.exit ?_ | refine AWq.loop ?_ | refine DrawA.consD ?_ | refine DrawA.nil ?_ | refine AWq.draw (by decide +kernel) ?_ | (refine Both.mk ?_ ?_ <;> intro hc <;> (first | exact Bool.noConfusion hc | exact absurd (by with_reducible rfl) hc | (exfalso; omega) | skip)) | (intro c hc; (try (simp only [AH.none_iff] at hc; repeat (have hn := hc.1; replace hc := hc.2))); (first | (have hc2 := Eq.trans hc (by with_reducible assumption); clear hc; subst hc2) | (refine i64_k hc ?_ ?_ ?_ ; omega; omega; (clear hc; intro hc; subst hc)) | subst hc | skip)) | (apply Exists.intro; apply And.intro; (first | (focus (repeat (first | (with_reducible assumption) | (with_reducible exact AH.set_same _ _ _) | ((first | refine AH.get_ne ?_ ?_); (first | (with_reducible assumption) | exact Ne.symm (by with_reducible assumption))))); done))) | (apply Exists.intro; apply And.intro; first | (with_reducible assumption) | ((try simp only [List.getElem?_drop, Nat.mul_one, Nat.add_zero, Nat.zero_add]); first | (with_reducible assumption) | rfl)) | (apply And.intro; (first | rfl | (with_reducible assumption) | exact Nat.le_of_ble_eq_true rfl | omega | (simp <;> omega) | (focus (repeat' (first | (with_reducible assumption) | exact one_iS _ _ | rfl)); done))))) <;> (try (conv => whnf)); refine Then.mk ?_))
          (repeat' ((conv => whnf); first | left | refine OpsA.cons ?_ | refine OpsA.nil ?_ | refine AWq.seq ?_ | refine AWq.region ?_ | refine AWq.cond ?_ | refine AWq.block ?_ | refine AWq.skip ?_ | refine AWq.ret ?_ | refine AWq.exit ?_ | refine AWq.loop ?_ | refine DrawA.consD ?_ | refine DrawA.nil ?_ | refine AWq.draw (by decide +kernel) ?_ | (refine Both.mk ?_ ?_ <;> intro hc <;> (first | exact Bool.noConfusion hc | exact absurd (by with_reducible rfl) hc | (exfalso; omega) | skip)) | (intro c hc; (try (simp only [AH.none_iff] at hc; repeat (have hn := hc.1; replace hc := hc.2))); (first | (have hc2 := Eq.trans hc (by with_reducible assumption); clear hc; subst hc2) | (refine i64_k hc ?_ ?_ ?_ ; omega; omega; (clear hc; intro hc; subst hc)) | subst hc | skip)) | (apply Exists.intro; apply And.intro; (first | (focus (repeat (first | (with_reducible assumption) | (with_reducible exact AH.set_same _ _ _) | ((first | refine AH.get_ne ?_ ?_); (first | (with_reducible assumption) | exact Ne.symm (by with_reducible assumption))))); done))) | (apply Exists.intro; apply And.intro; first | (with_reducible assumption) | ((try simp only [List.getElem?_drop, Nat.mul_one, Nat.add_zero, Nat.zero_add]); first | (with_reducible assumption) | rfl)) | (apply And.intro; (first | rfl | (with_reducible assumption) | exact Nat.le_of_ble_eq_true rfl | omega | (simp <;> omega) | (focus (repeat' (first | (with_reducible assumption) | exact one_iS _ _ | rfl)); done))) | (refine ACall.to (a1 _) ?_))) <;> (try (conv => whnf))
          refine Then.mk ?_
          (repeat' ((conv => whnf); first | refine Or.inr (Or.inr (And.intro rfl ?_)) | left | refine OpsA.cons ?_ | refine OpsA.nil ?_ | refine AWq.seq ?_ | refine AWq.region ?_ | refine AWq.cond ?_ | refine AWq.block ?_ | refine AWq.skip ?_ | refine AWq.ret ?_ | refine AWq.exit ?_ | refine AWq.loop ?_ | refine DrawA.consD ?_ | refine DrawA.nil ?_ | refine AWq.draw (by decide +kernel) ?_ | (refine Both.mk ?_ ?_ <;> intro hc <;> (first | exact Bool.noConfusion hc | exact absurd (by with_reducible rfl) hc | (exfalso; omega) | skip)) | (intro c hc; (try (simp only [AH.none_iff] at hc; repeat (have hn := hc.1; replace hc := hc.2))); (first | (have hc2 := Eq.trans hc (by with_reducible assumption); clear hc; subst hc2) | (refine i64_k hc ?_ ?_ ?_ ; omega; omega; (clear hc; intro hc; subst hc)) | subst hc | skip)) | (apply Exists.intro; apply And.intro; (first | (focus (repeat (first | (with_reducible assumption) | (with_reducible exact AH.set_same _ _ _) | ((first | refine AH.get_ne ?_ ?_); (first | (with_reducible assumption) | exact Ne.symm (by with_reducible assumption))))); done))) | (apply Exists.intro; apply And.intro; first | (with_reducible assumption) | ((try simp only [List.getElem?_drop, Nat.mul_one, Nat.add_zero, Nat.zero_add]); first | (with_reducible assumption) | rfl)) | (apply And.intro; (first | rfl | (with_reducible assumption) | exact Nat.le_of_ble_eq_true rfl | omega | (simp <;> omega) | (focus (repeat' (first | (with_reducible assumption) | exact one_iS _ _ | rfl)); done))))) <;> (try (conv => whnf))
          (obtain ⟨ra, hq_⟩ : ∃ ra, ra = c := ⟨_, rfl⟩); subst hq_
          have hra21 : ra ≠ q21 := by assumption
          have hra20 : ra ≠ q20 := by assumption
          have hra : H0 ra = none := by assumption
          refine Then.mk (AWq.in ?_)
          have hiVA : i0 < VA.length := by omega
          obtain ⟨G1, hG1⟩ : ∃ G1, G1 = AH.set (AH.set (AH.set H0 q21 (.row (vS VA) 0)) ra (.row (iS .i64 (fnL k (ovA l0 k i0))) 0)) q20 (.row (vS (VA.take i0) ++ .sl ra 0 1 0 k none :: vS (VA.drop (i0 + 1))) 0) := ⟨_, rfl⟩
          refine AWp_less G1 (HLe.of_eq (by rw [hG1, ← vS_wr _ hiVA]; ((funext s; simp only [AH.set, AH.del]; repeat' split) <;> (first | rfl | (exfalso; omega))))) ?_
          have g20 : G1 q20 = some (.row (vS (VA.take i0) ++ .sl ra 0 1 0 k none :: vS (VA.drop (i0 + 1))) 0) := by rw [hG1, AH.set_same]
          have gra : G1 ra = some (.row (iS .i64 (fnL k (ovA l0 k i0))) 0) := by rw [hG1, AH.set_ne _ _ hra20, AH.set_same]
          have hca := vS_at (.sl ra 0 1 0 k none) hiVA
          have hcl := vS_cl (.sl ra 0 1 0 k none) hiVA
          have hw := wr_iS (K := .i64) (a := fnL k (ovA l0 k i0)) (k := j0) (v := x4) (by simp; exact b2)
          refine AWp.of tt_ok (dok _) rfl ?_
          (repeat' ((conv => whnf); first | left | refine OpsA.cons ?_ | refine OpsA.nil ?_ | refine AWq.seq ?_ | refine AWq.region ?_ | refine AWq.cond ?_ | refine AWq.block ?_ | refine AWq.skip ?_ | refine AWq.ret ?_ | refine AWq.exit ?_ | refine AWq.loop ?_ | refine DrawA.consD ?_ | refine DrawA.nil ?_ | refine AWq.draw (by decide +kernel) ?_ | (apply Exists.intro; apply And.intro; exact a2 _) | (refine Both.mk ?_ ?_ <;> intro hc <;> (first | exact Bool.noConfusion hc | exact absurd (by with_reducible rfl) hc | (exfalso; omega) | skip)) | (intro c hc; (try (simp only [AH.none_iff] at hc; repeat (have hn := hc.1; replace hc := hc.2))); (first | (have hc2 := Eq.trans hc (by with_reducible assumption); clear hc; subst hc2) | (refine i64_k hc ?_ ?_ ?_ ; omega; omega; (clear hc; intro hc; subst hc)) | subst hc | skip)) | (apply Exists.intro; apply And.intro; (first | (focus (repeat (first | (with_reducible assumption) | (with_reducible exact AH.set_same _ _ _) | ((first | refine AH.get_ne ?_ ?_); (first | (with_reducible assumption) | exact Ne.symm (by with_reducible assumption))))); done))) | (apply Exists.intro; apply And.intro; first | (with_reducible assumption) | ((try simp only [List.getElem?_drop, Nat.mul_one, Nat.add_zero, Nat.zero_add]); first | (with_reducible assumption) | rfl)) | (apply And.intro; (first | rfl | (with_reducible assumption) | exact Nat.le_of_ble_eq_true rfl | omega | (simp <;> omega) | (focus (repeat' (first | (with_reducible assumption) | exact one_iS _ _ | rfl)); done))))) <;> (try (conv => whnf))
          refine Then.mk (AWq.in ?_)
          refine AWp_freezeC (p := q20) (u := 0) (r := ra) (v := 0) (es := 1) (n := k) (lim := none) (cells := iS .i64 ((fnL k (ovA l0 k i0)).set j0 x4)) (vS (VA.take i0)) (vS (VA.drop (i0 + 1))) (Ne.symm hra20) (by rw [AH.set_ne _ _ (Ne.symm hra20)]; exact g20) ?_ (by simp) ?_
          · rw [← hw, AH.set_same, show 0 + (j0 : Int).toNat * 1 = j0 by omega]; rfl
          refine AWp_less (AH.set (AH.set H0 q21 (.row (vS VA) 0)) q20 (.row (vS B) 0)) ?_ ?_
          · rw [hB1, vS_set _ hiVA, hG1]
            have hl9 : ((fnL k (ovA l0 k i0)).set j0 x4).length = k := by simp
            rw [hl9]
            exact AH.swap3 _ _ _ _ _ hne2 hra20 hra21 hra
          clear hG1 g20 gra hca hcl hw
          refine AWp.of tt_ok (dok _) rfl ?_
          (repeat' ((conv => whnf); first | refine Or.inr (Or.inr (And.intro rfl ?_)) | left | refine OpsA.cons ?_ | refine OpsA.nil ?_ | refine AWq.seq ?_ | refine AWq.region ?_ | refine AWq.cond ?_ | refine AWq.block ?_ | refine AWq.skip ?_ | refine AWq.ret ?_ | refine AWq.exit ?_ | refine AWq.loop ?_ | refine DrawA.consD ?_ | refine DrawA.nil ?_ | refine AWq.draw (by decide +kernel) ?_ | (refine Both.mk ?_ ?_ <;> intro hc <;> (first | exact Bool.noConfusion hc | exact absurd (by with_reducible rfl) hc | (exfalso; omega) | skip)) | (intro c hc; (try (simp only [AH.none_iff] at hc; repeat (have hn := hc.1; replace hc := hc.2))); (first | (have hc2 := Eq.trans hc (by with_reducible assumption); clear hc; subst hc2) | (refine i64_k hc ?_ ?_ ?_ ; omega; omega; (clear hc; intro hc; subst hc)) | subst hc | skip)) | (apply Exists.intro; apply And.intro; (first | (focus (repeat (first | (with_reducible assumption) | (with_reducible exact AH.set_same _ _ _) | ((first | refine AH.get_ne ?_ ?_); (first | (with_reducible assumption) | exact Ne.symm (by with_reducible assumption))))); done))) | (apply Exists.intro; apply And.intro; first | (with_reducible assumption) | ((try simp only [List.getElem?_drop, Nat.mul_one, Nat.add_zero, Nat.zero_add]); first | (with_reducible assumption) | rfl)) | (apply And.intro; (first | rfl | (with_reducible assumption) | exact Nat.le_of_ble_eq_true rfl | omega | (simp <;> omega) | (focus (repeat' (first | (with_reducible assumption) | exact one_iS _ _ | rfl)); done))))) <;> (try (conv => whnf))
          (obtain ⟨rb, hq_⟩ : ∃ rb, rb = c := ⟨_, rfl⟩); subst hq_
          have hrb21 : rb ≠ q21 := by assumption
          have hrb20 : rb ≠ q20 := by assumption
          have hrb : H0 rb = none := by assumption
          refine Then.mk (AWq.in ?_)
          obtain ⟨G3, hG3⟩ : ∃ G3, G3 = AH.set (AH.set (AH.set H0 q20 (.row (vS B) 0)) rb (.row (iS .i64 (fnL k (ovA l0 k i0) ++ [7])) 1)) q21 (.row (vS (VA.take i0) ++ .sl rb 1 1 0 (k + 1) none :: vS (VA.drop (i0 + 1))) 0) := ⟨_, rfl⟩
          refine AWp_less G3 (HLe.of_eq (by rw [hG3, ← vS_wr _ hiVA, ← iS_snoc]; ((funext s; simp only [AH.set, AH.del]; repeat' split) <;> (first | rfl | (exfalso; omega))))) ?_
          refine AWp_freezeC (p := q21) (u := 0) (r := rb) (v := 1) (es := 1) (n := k + 1) (lim := none) (cells := iS .i64 (fnL k (ovA l0 k i0) ++ [7])) (vS (VA.take i0)) (vS (VA.drop (i0 + 1))) (Ne.symm hrb21) (by rw [hG3, AH.set_same]) (by rw [hG3, AH.set_ne _ _ hrb21, AH.set_same]) (by simp) ?_
          refine AWp_less (AH.set (AH.set H0 q20 (.row (vS B) 0)) q21 (.row (vS L) 0)) ?_ ?_
          · rw [hL1, vS_set _ hiVA, hG3]
            have hl9 : (fnL k (ovA l0 k i0) ++ [7]).length = k + 1 := by simp
            rw [hl9]
            exact AH.swap2 _ _ _ _ (Ne.symm hne2) hrb21 hrb20 hrb
          clear hG3
          refine AWp_freeze1 20 (r := q20) (v := 0) (es := 1) (n := i) (lim := none) (cells := vS B) rfl rfl (by rw [AH.set_ne _ _ (Ne.symm hne2), AH.set_same]) (by rw [vS_len]; omega) ?_
          refine AWp_freeze1 21 (r := q21) (v := 0) (es := 1) (n := i) (lim := none) (cells := vS L) rfl rfl (by rw [AH.del_ne _ hne2, AH.set_same]) (by rw [vS_len]; omega) ?_
          refine AWp_less H0 (HLe.del _ (HLe.del _ (HLe.set_of _ _ (HLe.set_of _ _ (HLe.refl _) hq20) hq21) hq20) hq21) ?_
          refine AWp_cutd [(3, .int .i64 x3), (4, .int .i64 x4), (11, .int .i64 i), (13, .cs (vS VA) i), (14, .cs (vS VB) i), (20, .cs (vS B) i), (21, .cs (vS L) i)] rfl ⟨rfl, rfl, rfl, rfl, rfl, rfl, rfl, trivial⟩ (fun _ => rfl) (HLe.refl _) ?_
          exact tail.out
        · skip
          have hB1 : B = VA := by rw [hB, if_neg (by omega)]
          have hL1 : L = VA := by rw [hL, if_neg (by omega)]
          (iterate 1 ((repeat' ((conv => whnf); first | left | refine OpsA.cons ?_ | refine OpsA.nil ?_ | refine AWq.seq ?_ | refine AWq.region ?_ | refine AWq.cond ?_ | refine AWq.block ?_ | refine AWq.skip ?_ | refine AWq.ret ?_ | refine AWq.exit ?_ | refine AWq.loop ?_ | refine DrawA.consD ?_ | refine DrawA.nil ?_ | refine AWq.draw (by decide +kernel) ?_ | (refine Both.mk ?_ ?_ <;> intro hc <;> (first | exact Bool.noConfusion hc | exact absurd (by with_reducible rfl) hc | (exfalso; omega) | skip)) | (intro c hc; (try (simp only [AH.none_iff] at hc; repeat (have hn := hc.1; replace hc := hc.2))); (first | (have hc2 := Eq.trans hc (by with_reducible assumption); clear hc; subst hc2) | (refine i64_k hc ?_ ?_ ?_ ; omega; omega; (clear hc; intro hc; subst hc)) | subst hc | skip)) | (apply Exists.intro; apply And.intro; (first | (focus (repeat (first | (with_reducible assumption) | (with_reducible exact AH.set_same _ _ _) | ((first | refine AH.get_ne ?_ ?_); (first | (with_reducible assumption) | exact Ne.symm (by with_reducible assumption))))); done))) | (apply Exists.intro; apply And.intro; first | (with_reducible assumption) | ((try simp only [List.getElem?_drop, Nat.mul_one, Nat.add_zero, Nat.zero_add]); first | (with_reducible assumption) | rfl)) | (apply And.intro; (first | rfl | (with_reducible assumption) | exact Nat.le_of_ble_eq_true rfl | omega | (simp <;> omega) | (focus (repeat' (first | (with_reducible assumption) | exact one_iS _ _ | rfl)); done))))) <;> (try (conv => whnf)); refine Then.mk ?_))
          (repeat' ((conv => whnf); first | left | refine OpsA.cons ?_ | refine OpsA.nil ?_ | refine AWq.seq ?_ | refine AWq.region ?_ | refine AWq.cond ?_ | refine AWq.block ?_ | refine AWq.skip ?_ | refine AWq.ret ?_ | refine AWq.exit ?_ | refine AWq.loop ?_ | refine DrawA.consD ?_ | refine DrawA.nil ?_ | refine AWq.draw (by decide +kernel) ?_ | (refine Both.mk ?_ ?_ <;> intro hc <;> (first | exact Bool.noConfusion hc | exact absurd (by with_reducible rfl) hc | (exfalso; omega) | skip)) | (intro c hc; (try (simp only [AH.none_iff] at hc; repeat (have hn := hc.1; replace hc := hc.2))); (first | (have hc2 := Eq.trans hc (by with_reducible assumption); clear hc; subst hc2) | (refine i64_k hc ?_ ?_ ?_ ; omega; omega; (clear hc; intro hc; subst hc)) | subst hc | skip)) | (apply Exists.intro; apply And.intro; (first | (focus (repeat (first | (with_reducible assumption) | (with_reducible exact AH.set_same _ _ _) | ((first | refine AH.get_ne ?_ ?_); (first | (with_reducible assumption) | exact Ne.symm (by with_reducible assumption))))); done))) | (apply Exists.intro; apply And.intro; first | (with_reducible assumption) | ((try simp only [List.getElem?_drop, Nat.mul_one, Nat.add_zero, Nat.zero_add]); first | (with_reducible assumption) | rfl)) | (apply And.intro; (first | rfl | (with_reducible assumption) | exact Nat.le_of_ble_eq_true rfl | omega | (simp <;> omega) | (focus (repeat' (first | (with_reducible assumption) | exact one_iS _ _ | rfl)); done))))) <;> (try (conv => whnf))
          refine Then.mk (AWq.in ?_)
          refine AWp_freeze1 20 (r := q20) (v := 0) (es := 1) (n := i) (lim := none) (cells := vS B) rfl rfl (by rw [hB1, AH.set_ne _ _ (Ne.symm hne2), AH.set_same]) (by rw [vS_len]; omega) ?_
          refine AWp_freeze1 21 (r := q21) (v := 0) (es := 1) (n := i) (lim := none) (cells := vS L) rfl rfl (by rw [hL1, AH.del_ne _ hne2, AH.set_same]) (by rw [vS_len]; omega) ?_
          refine AWp_less H0 (HLe.del _ (HLe.del _ (HLe.set_of _ _ (HLe.set_of _ _ (HLe.refl _) hq20) hq21) hq20) hq21) ?_
          refine AWp_cutd [(3, .int .i64 x3), (4, .int .i64 x4), (11, .int .i64 i), (13, .cs (vS VA) i), (14, .cs (vS VB) i), (20, .cs (vS B) i), (21, .cs (vS L) i)] rfl ⟨rfl, rfl, rfl, rfl, rfl, rfl, rfl, trivial⟩ (fun _ => rfl) (HLe.refl _) ?_
          exact tail.out
      · skip
        have hB1 : B = VA := by rw [hB, if_neg (by omega)]
        have hL1 : L = VA := by rw [hL, if_neg (by omega)]
        (iterate 1 ((repeat' ((conv => whnf); first | left | refine OpsA.cons ?_ | refine OpsA.nil ?_ | refine AWq.seq ?_ | refine AWq.region ?_ | refine AWq.cond ?_ | refine AWq.block ?_ | refine AWq.skip ?_ | refine AWq.ret ?_ | refine AWq.exit ?_ | refine AWq.loop ?_ | refine DrawA.consD ?_ | refine DrawA.nil ?_ | refine AWq.draw (by decide +kernel) ?_ | (refine Both.mk ?_ ?_ <;> intro hc <;> (first | exact Bool.noConfusion hc | exact absurd (by with_reducible rfl) hc | (exfalso; omega) | skip)) | (intro c hc; (try (simp only [AH.none_iff] at hc; repeat (have hn := hc.1; replace hc := hc.2))); (first | (have hc2 := Eq.trans hc (by with_reducible assumption); clear hc; subst hc2) | (refine i64_k hc ?_ ?_ ?_ ; omega; omega; (clear hc; intro hc; subst hc)) | subst hc | skip)) | (apply Exists.intro; apply And.intro; (first | (focus (repeat (first | (with_reducible assumption) | (with_reducible exact AH.set_same _ _ _) | ((first | refine AH.get_ne ?_ ?_); (first | (with_reducible assumption) | exact Ne.symm (by with_reducible assumption))))); done))) | (apply Exists.intro; apply And.intro; first | (with_reducible assumption) | ((try simp only [List.getElem?_drop, Nat.mul_one, Nat.add_zero, Nat.zero_add]); first | (with_reducible assumption) | rfl)) | (apply And.intro; (first | rfl | (with_reducible assumption) | exact Nat.le_of_ble_eq_true rfl | omega | (simp <;> omega) | (focus (repeat' (first | (with_reducible assumption) | exact one_iS _ _ | rfl)); done))))) <;> (try (conv => whnf)); refine Then.mk ?_))
        (repeat' ((conv => whnf); first | left | refine OpsA.cons ?_ | refine OpsA.nil ?_ | refine AWq.seq ?_ | refine AWq.region ?_ | refine AWq.cond ?_ | refine AWq.block ?_ | refine AWq.skip ?_ | refine AWq.ret ?_ | refine AWq.exit ?_ | refine AWq.loop ?_ | refine DrawA.consD ?_ | refine DrawA.nil ?_ | refine AWq.draw (by decide +kernel) ?_ | (refine Both.mk ?_ ?_ <;> intro hc <;> (first | exact Bool.noConfusion hc | exact absurd (by with_reducible rfl) hc | (exfalso; omega) | skip)) | (intro c hc; (try (simp only [AH.none_iff] at hc; repeat (have hn := hc.1; replace hc := hc.2))); (first | (have hc2 := Eq.trans hc (by with_reducible assumption); clear hc; subst hc2) | (refine i64_k hc ?_ ?_ ?_ ; omega; omega; (clear hc; intro hc; subst hc)) | subst hc | skip)) | (apply Exists.intro; apply And.intro; (first | (focus (repeat (first | (with_reducible assumption) | (with_reducible exact AH.set_same _ _ _) | ((first | refine AH.get_ne ?_ ?_); (first | (with_reducible assumption) | exact Ne.symm (by with_reducible assumption))))); done))) | (apply Exists.intro; apply And.intro; first | (with_reducible assumption) | ((try simp only [List.getElem?_drop, Nat.mul_one, Nat.add_zero, Nat.zero_add]); first | (with_reducible assumption) | rfl)) | (apply And.intro; (first | rfl | (with_reducible assumption) | exact Nat.le_of_ble_eq_true rfl | omega | (simp <;> omega) | (focus (repeat' (first | (with_reducible assumption) | exact one_iS _ _ | rfl)); done))))) <;> (try (conv => whnf))
        refine Then.mk (AWq.in ?_)
        refine AWp_freeze1 20 (r := q20) (v := 0) (es := 1) (n := i) (lim := none) (cells := vS B) rfl rfl (by rw [hB1, AH.set_ne _ _ (Ne.symm hne2), AH.set_same]) (by rw [vS_len]; omega) ?_
        refine AWp_freeze1 21 (r := q21) (v := 0) (es := 1) (n := i) (lim := none) (cells := vS L) rfl rfl (by rw [hL1, AH.del_ne _ hne2, AH.set_same]) (by rw [vS_len]; omega) ?_
        refine AWp_less H0 (HLe.del _ (HLe.del _ (HLe.set_of _ _ (HLe.set_of _ _ (HLe.refl _) hq20) hq21) hq20) hq21) ?_
        refine AWp_cutd [(3, .int .i64 x3), (4, .int .i64 x4), (11, .int .i64 i), (13, .cs (vS VA) i), (14, .cs (vS VB) i), (20, .cs (vS B) i), (21, .cs (vS L) i)] rfl ⟨rfl, rfl, rfl, rfl, rfl, rfl, rfl, trivial⟩ (fun _ => rfl) (HLe.refl _) ?_
        exact tail.out
    case tl =>
    clear hB hL
    have e2 : -1 ≤ x3.tmod 2 ∧ x3.tmod 2 ≤ 1 := by
      have h1 := Int.tmod_lt_of_pos x3 (show (0 : Int) < 2 by decide)
      have h2 := Int.tmod_lt_of_pos (-x3) (show (0 : Int) < 2 by decide)
      rw [Int.neg_tmod] at h2
      omega
    obtain ⟨m, hm⟩ : ∃ m : Nat, (m : Int) = 64 + x3.tmod 2 := ⟨(64 + x3.tmod 2).toNat, by omega⟩
    have hmb : m ≤ 65 := by omega
    refine AWp.of tt_ok (dok _) rfl ?_
    (repeat' ((conv => whnf); first | left | refine OpsA.cons ?_ | refine OpsA.nil ?_ | refine AWq.seq ?_ | refine AWq.region ?_ | refine AWq.cond ?_ | refine AWq.block ?_ | refine AWq.skip ?_ | refine AWq.ret ?_ | refine AWq.exit ?_ | refine AWq.loop ?_ | refine DrawA.consD ?_ | refine DrawA.nil ?_ | refine AWq.draw (by decide +kernel) ?_ | (refine Both.mk ?_ ?_ <;> intro hc <;> (first | exact Bool.noConfusion hc | exact absurd (by with_reducible rfl) hc | (exfalso; omega) | skip)) | (intro c hc; (try (simp only [AH.none_iff] at hc; repeat (have hn := hc.1; replace hc := hc.2))); (first | (have hc2 := Eq.trans hc (by with_reducible assumption); clear hc; subst hc2) | (refine i64_k hc ?_ ?_ ?_ ; omega; omega; (clear hc; intro hc; subst hc)) | subst hc | skip)) | (apply Exists.intro; apply And.intro; (first | (focus (repeat (first | (with_reducible assumption) | (with_reducible exact AH.set_same _ _ _) | ((first | refine AH.get_ne ?_ ?_); (first | (with_reducible assumption) | exact Ne.symm (by with_reducible assumption))))); done))) | (apply Exists.intro; apply And.intro; first | (with_reducible assumption) | ((try simp only [List.getElem?_drop, Nat.mul_one, Nat.add_zero, Nat.zero_add]); first | (with_reducible assumption) | rfl)) | (apply And.intro; (first | rfl | (with_reducible assumption) | exact Nat.le_of_ble_eq_true rfl | omega | (simp <;> omega) | (focus (repeat' (first | (with_reducible assumption) | exact one_iS _ _ | rfl)); done))))) <;> (try (conv => whnf))
    (obtain ⟨rm, hq_⟩ : ∃ rm, rm = c := ⟨_, rfl⟩); subst hq_
    have hrm : H0 rm = none := by assumption
    refine Then.mk (AWq.in ?_)
    have hmt : (64 + x3.tmod 2).toNat = m := by omega
    obtain ⟨R0, hR0⟩ : ∃ R0, R0 = AV.cs (vS VA) i := ⟨_, rfl⟩
    obtain ⟨R1, hR1⟩ : ∃ R1, R1 = AV.cs (vS VB) i := ⟨_, rfl⟩
    obtain ⟨R2, hR2⟩ : ∃ R2, R2 = AV.cs (vS B) i := ⟨_, rfl⟩
    obtain ⟨R3, hR3⟩ : ∃ R3, R3 = AV.cs (vS L) i := ⟨_, rfl⟩
    obtain ⟨R4, hR4⟩ : ∃ R4, R4 = AV.cs (vS (List.replicate m [])) m := ⟨_, rfl⟩
    refine AWp_rowTo (p := rm) (u := 0) (cells := (List.replicate m [AV.nils]).flatten) (vS (List.replicate m [])) (by rw [AH.set_same, hmt]) (vS_nils m) ?_
    refine AWp_freezeIn 23 (r := rm) (v := 0) (cells := vS (List.replicate m [])) (a := .cs [R0, R1, R2, R3, .sl rm 0 1 0 m none] 5) (a' := .cs [R0, R1, R2, R3, R4] 5) rfl ?_ (AH.set_same _ _ _) ?_ ?_
    · rw [hR0, hR1, hR2, hR3, ← hmt]; rfl
    · rw [hR4]
      refine Fr.cs rfl fun i hi hj => ?_
      rcases i with _ | _ | _ | _ | _ | i
      · exact Fr.refl _
      · exact Fr.refl _
      · exact Fr.refl _
      · exact Fr.refl _
      · exact Fr.sl (by simp)
      · exact absurd hi (by simp)
    refine AWp_less H0 (HLe.del _ (HLe.set_of _ _ (HLe.fresh _ hrm) hrm) hrm) ?_
    have hrows : ∀ u : Nat, u < 5 → ∃ V : List (List Int), [R0, R1, R2, R3, R4][(u : Int).toNat]? = some (.cs (vS V) V.length) ∧ VI V := by
      intro u hu
      rcases u with _ | _ | _ | _ | _ | u
      · exact ⟨VA, by rw [hR0, lA]; rfl, viA⟩
      · exact ⟨VB, by rw [hR1, lB]; rfl, viB⟩
      · exact ⟨B, by rw [hR2, hBl]; rfl, viB2⟩
      · exact ⟨L, by rw [hR3, hLl]; rfl, viL⟩
      · exact ⟨List.replicate m [], by rw [hR4, List.length_replicate]; rfl, vi_nil m hmb⟩
      · omega
    have hrw : [R0, R1, R2, R3, R4].length = 5 := rfl
    clear hR0 hR1 hR2 hR3 hR4
    generalize [R0, R1, R2, R3, R4] = rows at *
    refine AWp.of tt_ok (dok _) rfl ?_
    (repeat' ((conv => whnf); first | refine Then.mk ?_ | left | refine OpsA.cons ?_ | refine OpsA.nil ?_ | refine AWq.seq ?_ | refine AWq.region ?_ | refine AWq.cond ?_ | refine AWq.block ?_ | refine AWq.skip ?_ | refine AWq.ret ?_ | refine AWq.exit ?_ | refine AWq.loop ?_ | refine DrawA.consD ?_ | refine DrawA.nil ?_ | refine AWq.draw (by decide +kernel) ?_ | (refine Both.mk ?_ ?_ <;> intro hc <;> (first | exact Bool.noConfusion hc | exact absurd (by with_reducible rfl) hc | (exfalso; omega) | skip)) | (intro c hc; (try (simp only [AH.none_iff] at hc; repeat (have hn := hc.1; replace hc := hc.2))); (first | (have hc2 := Eq.trans hc (by with_reducible assumption); clear hc; subst hc2) | (refine i64_k hc ?_ ?_ ?_ ; omega; omega; (clear hc; intro hc; subst hc)) | subst hc | skip)) | (apply Exists.intro; apply And.intro; (first | (focus (repeat (first | (with_reducible assumption) | (with_reducible exact AH.set_same _ _ _) | ((first | refine AH.get_ne ?_ ?_); (first | (with_reducible assumption) | exact Ne.symm (by with_reducible assumption))))); done))) | (apply Exists.intro; apply And.intro; first | (with_reducible assumption) | ((try simp only [List.getElem?_drop, Nat.mul_one, Nat.add_zero, Nat.zero_add]); first | (with_reducible assumption) | rfl)) | (apply And.intro; (first | rfl | (with_reducible assumption) | exact Nat.le_of_ble_eq_true rfl | omega | (simp <;> omega) | (focus (repeat' (first | (with_reducible assumption) | exact one_iS _ _ | rfl)); done))))) <;> (try (conv => whnf))
    refine AWp_loop (σ := Nat) (10 :: 24 :: 25 :: 26 :: 27 :: 28 :: 29 :: 141 :: 142 :: 143 :: 144 :: 145 :: 146 :: 147 :: 148 :: 149 :: 150 :: 151 :: 152 :: 153 :: 154 :: 155 :: 156 :: 157 :: 158 :: 159 :: 160 :: 161 :: 162 :: 163 :: 164 :: 165 :: 166 :: 167 :: 168 :: 169 :: 170 :: 171 :: 172 :: 173 :: 174 :: 175 :: 176 :: 177 :: 178 :: 179 :: 180 :: 181 :: 182 :: 183 :: 184 :: 185 :: 186 :: 187 :: 188 :: 189 :: 190 :: 191 :: 192 :: 193 :: 194 :: 195 :: 196 :: 197 :: 198 :: 199 :: 200 :: 201 :: 202 :: 203 :: 204 :: 205 :: 206 :: 207 :: 208 :: 209 :: 210 :: 211 :: 212 :: 213 :: 214 :: 215 :: 216 :: 217 :: 218 :: 219 :: 220 :: 221 :: 222 :: 223 :: 224 :: 225 :: 226 :: 227 :: 228 :: []) (fun u => [(24, .int .i64 u)]) (fun _ => H0) (fun u => u ≤ 5) (fun u => 5 - u) 0 rfl (Nat.zero_le _) ⟨rfl, trivial⟩ (HLe.refl _) ?_
    intro u hu
    dsimp only at hu ⊢
    refine AWp.of tt_ok (dok _) rfl ?_
    by_cases h5 : u < 5
    · obtain ⟨V, hg, hV⟩ := hrows u h5
      have o1 := fun H => overlap_c V hV H
      have o2 := fun H => roverlap_c V hV H
      have hE : (ovR V).1.length ≤ 10000 := by
        unfold ovR; split
        · have := ovE_len V V.length
          have h2 : V.length * V.length ≤ 65 * 65 := Nat.mul_le_mul hV.n hV.n
          show (ovE V V.length).length ≤ 10000
          omega
        · simp
      generalize (ovR V).2 = er at *
      generalize (ovR V).1 = E at *
      have hel := edL_len E
      (repeat' ((conv => whnf); first | refine Then.mk ?_ | left | refine OpsA.cons ?_ | refine OpsA.nil ?_ | refine AWq.seq ?_ | refine AWq.region ?_ | refine AWq.cond ?_ | refine AWq.block ?_ | refine AWq.skip ?_ | refine AWq.ret ?_ | refine AWq.exit ?_ | refine AWq.loop ?_ | refine DrawA.consD ?_ | refine DrawA.nil ?_ | refine AWq.draw (by decide +kernel) ?_ | (refine Both.mk ?_ ?_ <;> intro hc <;> (first | exact Bool.noConfusion hc | exact absurd (by with_reducible rfl) hc | (exfalso; omega) | skip)) | (intro c hc; (try (simp only [AH.none_iff] at hc; repeat (have hn := hc.1; replace hc := hc.2))); (first | (have hc2 := Eq.trans hc (by with_reducible assumption); clear hc; subst hc2) | (refine i64_k hc ?_ ?_ ?_ ; omega; omega; (clear hc; intro hc; subst hc)) | subst hc | skip)) | (apply Exists.intro; apply And.intro; (first | (focus (repeat (first | (with_reducible assumption) | (with_reducible exact AH.set_same _ _ _) | ((first | refine AH.get_ne ?_ ?_); (first | (with_reducible assumption) | exact Ne.symm (by with_reducible assumption))))); done))) | (apply Exists.intro; apply And.intro; first | (with_reducible assumption) | ((try simp only [List.getElem?_drop, Nat.mul_one, Nat.add_zero, Nat.zero_add]); first | (with_reducible assumption) | rfl)) | (apply And.intro; (first | rfl | (with_reducible assumption) | exact Nat.le_of_ble_eq_true rfl | omega | (simp <;> omega) | (focus (repeat' (first | (with_reducible assumption) | exact one_iS _ _ | rfl)); done))) | (refine ACall.to (o1 _) ?_) | (refine ACall.to (o2 _) ?_))) <;> (try (conv => whnf))
      refine AWp_loop (σ := Nat) (10 :: 29 :: 173 :: 174 :: 175 :: 176 :: 177 :: 178 :: 179 :: 180 :: 181 :: 182 :: 183 :: 184 :: 185 :: 186 :: 187 :: 188 :: 189 :: 190 :: 191 :: 192 :: 193 :: 194 :: 195 :: 196 :: 197 :: 198 :: 199 :: 200 :: 201 :: 202 :: 203 :: 204 :: 205 :: 206 :: 207 :: 208 :: 209 :: 210 :: 211 :: 212 :: 213 :: 214 :: 215 :: 216 :: 217 :: 218 :: 219 :: 220 :: 221 :: 222 :: 223 :: 224 :: 225 :: 226 :: 227 :: 228 :: []) (fun w => [(29, .int .i64 w)]) (fun _ => H0) (fun w => w ≤ E.length) (fun w => E.length - w) 0 rfl (Nat.zero_le _) ⟨rfl, trivial⟩ (HLe.refl _) ?_
      intro w hw
      dsimp only at hw ⊢
      refine AWp.of tt_ok (dok _) rfl ?_
      by_cases hwt : w < E.length
      · obtain ⟨x, hx⟩ : ∃ x, E[w]? = some x := ⟨_, List.getElem?_eq_getElem hwt⟩
        have g0 : (edL E)[(w : Int).toNat * 4]? = some (.int .i64 x.a) := edL_get hx 0 (by decide)
        have g1 : (edL E)[(w : Int).toNat * 4 + 1]? = some (.int .i64 x.b) := edL_get hx 1 (by decide)
        have g2 : (edL E)[(w : Int).toNat * 4 + 2]? = some (.int .i64 x.d) := edL_get hx 2 (by decide)
        have g3 : (edL E)[(w : Int).toNat * 4 + 3]? = some (.int .i64 x.w) := edL_get hx 3 (by decide)
        (repeat' ((conv => whnf); first | refine Then.mk ?_ | left | refine OpsA.cons ?_ | refine OpsA.nil ?_ | refine AWq.seq ?_ | refine AWq.region ?_ | refine AWq.cond ?_ | refine AWq.block ?_ | refine AWq.skip ?_ | refine AWq.ret ?_ | refine AWq.exit ?_ | refine AWq.loop ?_ | refine DrawA.consD ?_ | refine DrawA.nil ?_ | refine AWq.draw (by decide +kernel) ?_ | (refine Both.mk ?_ ?_ <;> intro hc <;> (first | exact Bool.noConfusion hc | exact absurd (by with_reducible rfl) hc | (exfalso; omega) | skip)) | (intro c hc; (try (simp only [AH.none_iff] at hc; repeat (have hn := hc.1; replace hc := hc.2))); (first | (have hc2 := Eq.trans hc (by with_reducible assumption); clear hc; subst hc2) | (refine i64_k hc ?_ ?_ ?_ ; omega; omega; (clear hc; intro hc; subst hc)) | subst hc | skip)) | (apply Exists.intro; apply And.intro; (first | (focus (repeat (first | (with_reducible assumption) | (with_reducible exact AH.set_same _ _ _) | ((first | refine AH.get_ne ?_ ?_); (first | (with_reducible assumption) | exact Ne.symm (by with_reducible assumption))))); done))) | (apply Exists.intro; apply And.intro; first | (with_reducible assumption) | ((try simp only [List.getElem?_drop, Nat.mul_one, Nat.add_zero, Nat.zero_add]); first | (with_reducible assumption) | rfl)) | (apply And.intro; (first | rfl | (with_reducible assumption) | exact Nat.le_of_ble_eq_true rfl | omega | (simp <;> omega) | (focus (repeat' (first | (with_reducible assumption) | exact one_iS _ _ | rfl)); done))))) <;> (try (conv => whnf))
        exact ⟨w + 1, hwt, show E.length - (w + 1) < E.length - w by omega, ⟨congrArg (AV.int .i64) (by omega), trivial⟩, HLe.refl _⟩
      · (repeat' ((conv => whnf); first | refine Then.mk ?_ | left | refine OpsA.cons ?_ | refine OpsA.nil ?_ | refine AWq.seq ?_ | refine AWq.region ?_ | refine AWq.cond ?_ | refine AWq.block ?_ | refine AWq.skip ?_ | refine AWq.ret ?_ | refine AWq.exit ?_ | refine AWq.loop ?_ | refine DrawA.consD ?_ | refine DrawA.nil ?_ | refine AWq.draw (by decide +kernel) ?_ | (refine Both.mk ?_ ?_ <;> intro hc <;> (first | exact Bool.noConfusion hc | exact absurd (by with_reducible rfl) hc | (exfalso; omega) | skip)) | (intro c hc; (try (simp only [AH.none_iff] at hc; repeat (have hn := hc.1; replace hc := hc.2))); (first | (have hc2 := Eq.trans hc (by with_reducible assumption); clear hc; subst hc2) | (refine i64_k hc ?_ ?_ ?_ ; omega; omega; (clear hc; intro hc; subst hc)) | subst hc | skip)) | (apply Exists.intro; apply And.intro; (first | (focus (repeat (first | (with_reducible assumption) | (with_reducible exact AH.set_same _ _ _) | ((first | refine AH.get_ne ?_ ?_); (first | (with_reducible assumption) | exact Ne.symm (by with_reducible assumption))))); done))) | (apply Exists.intro; apply And.intro; first | (with_reducible assumption) | ((try simp only [List.getElem?_drop, Nat.mul_one, Nat.add_zero, Nat.zero_add]); first | (with_reducible assumption) | rfl)) | (apply And.intro; (first | rfl | (with_reducible assumption) | exact Nat.le_of_ble_eq_true rfl | omega | (simp <;> omega) | (focus (repeat' (first | (with_reducible assumption) | exact one_iS _ _ | rfl)); done))))) <;> (try (conv => whnf))
        exact ⟨u + 1, h5, show 5 - (u + 1) < 5 - u by omega, ⟨congrArg (AV.int .i64) (by omega), trivial⟩, HLe.refl _⟩
    · have o1 := fun H => overlap_c VB viB H
      have hov : ovR VB = (ovE VB i, 0) := by
        unfold ovR; rw [if_pos okB, lB]
      rw [hov, lB] at o1
      have hEl := ovE_len VB i
      have hEl2 : i * VB.length ≤ 7 * 7 := Nat.mul_le_mul (by omega) (by omega)
      generalize ovE VB i = E at *
      have hel := edL_len E
      clear hrows hrw
      (repeat' ((conv => whnf); first | refine Then.mk ?_ | left | refine OpsA.cons ?_ | refine OpsA.nil ?_ | refine AWq.seq ?_ | refine AWq.region ?_ | refine AWq.cond ?_ | refine AWq.block ?_ | refine AWq.skip ?_ | refine AWq.ret ?_ | refine AWq.exit ?_ | refine AWq.loop ?_ | refine DrawA.consD ?_ | refine DrawA.nil ?_ | refine AWq.draw (by decide +kernel) ?_ | (refine Both.mk ?_ ?_ <;> intro hc <;> (first | exact Bool.noConfusion hc | exact absurd (by with_reducible rfl) hc | (exfalso; omega) | skip)) | (intro c hc; (try (simp only [AH.none_iff] at hc; repeat (have hn := hc.1; replace hc := hc.2))); (first | (have hc2 := Eq.trans hc (by with_reducible assumption); clear hc; subst hc2) | (refine i64_k hc ?_ ?_ ?_ ; omega; omega; (clear hc; intro hc; subst hc)) | subst hc | skip)) | (apply Exists.intro; apply And.intro; (first | (focus (repeat (first | (with_reducible assumption) | (with_reducible exact AH.set_same _ _ _) | ((first | refine AH.get_ne ?_ ?_); (first | (with_reducible assumption) | exact Ne.symm (by with_reducible assumption))))); done))) | (apply Exists.intro; apply And.intro; first | (with_reducible assumption) | ((try simp only [List.getElem?_drop, Nat.mul_one, Nat.add_zero, Nat.zero_add]); first | (with_reducible assumption) | rfl)) | (apply And.intro; (first | rfl | (with_reducible assumption) | exact Nat.le_of_ble_eq_true rfl | omega | (simp <;> omega) | (focus (repeat' (first | (with_reducible assumption) | exact one_iS _ _ | rfl)); done))) | (refine ACall.to (o1 _) ?_))) <;> (try (conv => whnf))
      refine AWp_loop (σ := Nat) (10 :: 32 :: 236 :: 237 :: 238 :: 239 :: 240 :: 241 :: 242 :: 243 :: 244 :: 245 :: 246 :: 247 :: 248 :: 249 :: 250 :: 251 :: 252 :: 253 :: 254 :: 255 :: 256 :: 257 :: 258 :: 259 :: 260 :: 261 :: 262 :: []) (fun w => [(32, .int .i64 w)]) (fun _ => H0) (fun w => w ≤ E.length) (fun w => E.length - w) 0 rfl (Nat.zero_le _) ⟨rfl, trivial⟩ (HLe.refl _) ?_
      intro w hw
      dsimp only at hw ⊢
      refine AWp.of tt_ok (dok _) rfl ?_
      by_cases hwt : w < E.length
      · obtain ⟨x, hx⟩ : ∃ x, E[w]? = some x := ⟨_, List.getElem?_eq_getElem hwt⟩
        have g0 : (edL E)[(w : Int).toNat * 4]? = some (.int .i64 x.a) := edL_get hx 0 (by decide)
        have g1 : (edL E)[(w : Int).toNat * 4 + 1]? = some (.int .i64 x.b) := edL_get hx 1 (by decide)
        have g2 : (edL E)[(w : Int).toNat * 4 + 2]? = some (.int .i64 x.d) := edL_get hx 2 (by decide)
        obtain ⟨e1, e2', f1, f2, f3, f4, f5, f6, f7⟩ := hX x (List.mem_of_getElem? hx)
        rw [f3] at g0
        rw [f4] at g1
        rw [f5] at g2
        have zb : (e2' - e1) * cc ≤ 7 * 50 := Nat.mul_le_mul (by omega) (by omega)
        have ez : 13 * ((e2' : Int) - e1) * cc = ((13 * ((e2' - e1) * cc) : Nat) : Int) := by
          rw [Int.natCast_mul, Int.natCast_mul, Int.natCast_sub (by omega), Int.mul_assoc]; rfl
        have wz : IntKind.i64.wrap (13 * ((e2' : Int) - e1) * cc) = 13 * ((e2' : Int) - e1) * cc := by
          rw [IntKind.wrap_i64, ez]; omega
        generalize hz : 13 * ((e2' : Int) - e1) * cc = z at *
        (repeat' ((conv => whnf); first | refine Then.mk ?_ | left | refine OpsA.cons ?_ | refine OpsA.nil ?_ | refine AWq.seq ?_ | refine AWq.region ?_ | refine AWq.cond ?_ | refine AWq.block ?_ | refine AWq.skip ?_ | refine AWq.ret ?_ | refine AWq.exit ?_ | refine AWq.loop ?_ | refine DrawA.consD ?_ | refine DrawA.nil ?_ | refine AWq.draw (by decide +kernel) ?_ | (apply Exists.intro; apply And.intro; exact ha4 _) | (refine Both.mk ?_ ?_ <;> intro hc <;> (first | exact Bool.noConfusion hc | exact absurd (by with_reducible rfl) hc | (exfalso; omega) | skip)) | (intro c hc; (try (simp only [AH.none_iff] at hc; repeat (have hn := hc.1; replace hc := hc.2))); (first | (have hc2 := Eq.trans hc (by with_reducible assumption); clear hc; subst hc2) | (refine i64_k hc ?_ ?_ ?_ ; omega; omega; (clear hc; intro hc; subst hc)) | subst hc | skip)) | (apply Exists.intro; apply And.intro; (first | (focus (repeat (first | (with_reducible assumption) | (with_reducible exact AH.set_same _ _ _) | ((first | refine AH.get_ne ?_ ?_); (first | (with_reducible assumption) | exact Ne.symm (by with_reducible assumption))))); done))) | (apply Exists.intro; apply And.intro; first | (with_reducible assumption) | ((try simp only [List.getElem?_drop, Nat.mul_one, Nat.add_zero, Nat.zero_add]); first | (with_reducible assumption) | rfl)) | (apply And.intro; (first | rfl | (with_reducible assumption) | exact Nat.le_of_ble_eq_true rfl | omega | (simp <;> omega) | (focus (repeat' (first | (with_reducible assumption) | exact one_iS _ _ | rfl)); done))) | (refine ACall.to (ha4 _) ?_))) <;> (try (conv => whnf))
        exact ⟨w + 1, hwt, show E.length - (w + 1) < E.length - w by omega, ⟨congrArg (AV.int .i64) (by omega), trivial⟩, HLe.refl _⟩
      · (repeat' ((conv => whnf); first | refine Then.mk ?_ | left | refine OpsA.cons ?_ | refine OpsA.nil ?_ | refine AWq.seq ?_ | refine AWq.region ?_ | refine AWq.cond ?_ | refine AWq.block ?_ | refine AWq.skip ?_ | refine AWq.ret ?_ | refine AWq.exit ?_ | refine AWq.loop ?_ | refine DrawA.consD ?_ | refine DrawA.nil ?_ | refine AWq.draw (by decide +kernel) ?_ | (refine Both.mk ?_ ?_ <;> intro hc <;> (first | exact Bool.noConfusion hc | exact absurd (by with_reducible rfl) hc | (exfalso; omega) | skip)) | (intro c hc; (try (simp only [AH.none_iff] at hc; repeat (have hn := hc.1; replace hc := hc.2))); (first | (have hc2 := Eq.trans hc (by with_reducible assumption); clear hc; subst hc2) | (refine i64_k hc ?_ ?_ ?_ ; omega; omega; (clear hc; intro hc; subst hc)) | subst hc | skip)) | (apply Exists.intro; apply And.intro; (first | (focus (repeat (first | (with_reducible assumption) | (with_reducible exact AH.set_same _ _ _) | ((first | refine AH.get_ne ?_ ?_); (first | (with_reducible assumption) | exact Ne.symm (by with_reducible assumption))))); done))) | (apply Exists.intro; apply And.intro; first | (with_reducible assumption) | ((try simp only [List.getElem?_drop, Nat.mul_one, Nat.add_zero, Nat.zero_add]); first | (with_reducible assumption) | rfl)) | (apply And.intro; (first | rfl | (with_reducible assumption) | exact Nat.le_of_ble_eq_true rfl | omega | (simp <;> omega) | (focus (repeat' (first | (with_reducible assumption) | exact one_iS _ _ | rfl)); done))))) <;> (try (conv => whnf))
        refine ACall.nils (pre := [.int .i64 i, .cs (edL E) E.length]) (post := []) ?_
        have hval := ovX_valid (n := i) (c := cc) hn7 hcc (by omega) hX
        refine ACall.mono (solve_c i E [] hval H0) ?_
        rintro y H2 ⟨A, dd, oo, hSv, rfl, rfl⟩
        have hf := fitX hX
        have hfit := (fits (n := i) (es := E) (fs := []) (W := fun v => -(13 * (v : Int) * cc)) (A := A) (d := dd) (o := oo) (by rw [hf]; exact hSv) (by rw [hf]; exact hval)).1
        rw [hf] at hfit
        unfold solV
        rw [show (costR E [] (fnL i (offS i dd oo))).1 = 0 from hfit]
        clear hSv hfit hf hX
        (repeat' ((conv => whnf); first | refine Then.mk ?_ | left | refine OpsA.cons ?_ | refine OpsA.nil ?_ | refine AWq.seq ?_ | refine AWq.region ?_ | refine AWq.cond ?_ | refine AWq.block ?_ | refine AWq.skip ?_ | refine AWq.ret ?_ | refine AWq.exit ?_ | refine AWq.loop ?_ | refine DrawA.consD ?_ | refine DrawA.nil ?_ | refine AWq.draw (by decide +kernel) ?_ | (refine Both.mk ?_ ?_ <;> intro hc <;> (first | exact Bool.noConfusion hc | exact absurd (by with_reducible rfl) hc | (exfalso; omega) | skip)) | (intro c hc; (try (simp only [AH.none_iff] at hc; repeat (have hn := hc.1; replace hc := hc.2))); (first | (have hc2 := Eq.trans hc (by with_reducible assumption); clear hc; subst hc2) | (refine i64_k hc ?_ ?_ ?_ ; omega; omega; (clear hc; intro hc; subst hc)) | subst hc | skip)) | (apply Exists.intro; apply And.intro; (first | (focus (repeat (first | (with_reducible assumption) | (with_reducible exact AH.set_same _ _ _) | ((first | refine AH.get_ne ?_ ?_); (first | (with_reducible assumption) | exact Ne.symm (by with_reducible assumption))))); done))) | (apply Exists.intro; apply And.intro; first | (with_reducible assumption) | ((try simp only [List.getElem?_drop, Nat.mul_one, Nat.add_zero, Nat.zero_add]); first | (with_reducible assumption) | rfl)) | (apply And.intro; (first | rfl | (with_reducible assumption) | exact Nat.le_of_ble_eq_true rfl | omega | (simp <;> omega) | (focus (repeat' (first | (with_reducible assumption) | exact one_iS _ _ | rfl)); done))) | (refine ACall.to (lives17_c _) ?_))) <;> (try (conv => whnf))
end Go.Proofs.Ytebflkgpbbjhnaa
