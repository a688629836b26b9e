/- For the law BalanceFits, part 5 of 6: the frame of the walk, the walks of the functions, the plain law, the row. No conditions. -/
import Derived.Test.YtebflkgpbbjhnaaBalanceFitsM4
/- The walks of balance: real, plain. -/
namespace Go.Proofs.Ytebflkgpbbjhnaa
open Go.Fw Go
set_option linter.unusedVariables false
set_option linter.unusedSimpArgs false

theorem edL_get {l : List Ed} {i : Nat} {x : Ed} (h : l[i]? = some x) (j : Nat) (hj : j < 4) : (edL l)[i * 4 + j]? = (edA x)[j]? := fL_get edA_len h hj
theorem fxL_get {l : List Fx} {i : Nat} {x : Fx} (h : l[i]? = some x) (j : Nat) (hj : j < 3) : (fxL l)[i * 3 + j]? = (fxA x)[j]? := fL_get fxA_len h hj
set_option maxHeartbeats 4000000 in
set_option maxRecDepth 8000 in
theorem real_s (es : List Ed) (fs : List Fx) (he : es.length ≤ 1000000) (hf : fs.length ≤ 1000000) (H : AH) :
    ACall Try.prog 13 [.cs (edL es) es.length, .cs (fxL fs) fs.length] H (fun y H' => ∃ r1 r2 v1 v2, H r1 = none ∧ H r2 = none ∧ r1 ≠ r2 ∧ y = .tup [.sl r1 v1 4 0 es.length none, .sl r2 v2 3 0 fs.length none] ∧ H' = (H.set r1 (.row (edL es) v1)).set r2 (.row (fxL fs) v2)) := by
  have hel := edL_len es
  have hfl := fxL_len fs
  refine ACall_of tt_ok (dok _) Try.func13 rfl (by decide) rfl ?_
  (iterate 3 ((repeat' ((conv => whnf); first | left | refine OpsA.cons ?_ | refine OpsA.nil ?_ | refine AWq.seq ?_ | refine AWq.region ?_ | refine AWq.cond ?_ | refine AWq.block ?_ | refine AWq.skip ?_ | refine AWq.ret ?_ | refine AWq.exit ?_ | refine AWq.loop ?_ | refine DrawA.consD ?_ | refine DrawA.nil ?_ | refine AWq.draw (by decide +kernel) ?_ | (refine Both.mk ?_ ?_ <;> intro hc <;> (first | exact Bool.noConfusion hc | (exfalso; omega) | skip)) | (intro c hc; (try (simp only [AH.none_iff] at hc; repeat (have hn := hc.1; replace hc := hc.2))); (first | (refine i64_k hc ?_ ?_ ?_ ; omega; omega; (clear hc; intro hc; subst hc)) | skip)) | (apply Exists.intro; apply And.intro; (first | (focus (repeat (first | (with_reducible assumption) | (with_reducible exact AH.set_same _ _ _) | ((first | refine AH.get_ne ?_ ?_); (first | (with_reducible assumption) | exact Ne.symm (by with_reducible assumption))))); done))) | (apply Exists.intro; apply And.intro; first | (with_reducible assumption) | ((try simp only [List.getElem?_drop, Nat.mul_one, Nat.add_zero, Nat.zero_add]); first | (with_reducible assumption) | rfl)) | (apply And.intro; (first | rfl | (with_reducible assumption) | exact Nat.le_of_ble_eq_true rfl | omega | (simp <;> omega))))) <;> (try (conv => whnf)); refine Then.mk ?_))
  refine AWq.in ?_
  refine AWp_nilrow1 6 4 rfl rfl fun r1 hr1 => ?_
  refine AWp_nilrow1 7 3 rfl rfl fun r2 hr2 => ?_
  obtain ⟨hne, hr2⟩ := AH.none_set hr2
  refine AWp.of tt_ok (dok _) rfl ?_
  (repeat' ((conv => whnf); first | refine Then.mk ?_ | left | refine OpsA.cons ?_ | refine OpsA.nil ?_ | refine AWq.seq ?_ | refine AWq.region ?_ | refine AWq.cond ?_ | refine AWq.block ?_ | refine AWq.skip ?_ | refine AWq.ret ?_ | refine AWq.exit ?_ | refine AWq.loop ?_ | refine DrawA.consD ?_ | refine DrawA.nil ?_ | refine AWq.draw (by decide +kernel) ?_ | (refine Both.mk ?_ ?_ <;> intro hc <;> (first | exact Bool.noConfusion hc | (exfalso; omega) | skip)) | (intro c hc; (try (simp only [AH.none_iff] at hc; repeat (have hn := hc.1; replace hc := hc.2))); (first | (refine i64_k hc ?_ ?_ ?_ ; omega; omega; (clear hc; intro hc; subst hc)) | skip)) | (apply Exists.intro; apply And.intro; (first | (focus (repeat (first | (with_reducible assumption) | (with_reducible exact AH.set_same _ _ _) | ((first | refine AH.get_ne ?_ ?_); (first | (with_reducible assumption) | exact Ne.symm (by with_reducible assumption))))); done))) | (apply Exists.intro; apply And.intro; first | (with_reducible assumption) | ((try simp only [List.getElem?_drop, Nat.mul_one, Nat.add_zero, Nat.zero_add]); first | (with_reducible assumption) | rfl)) | (apply And.intro; (first | rfl | (with_reducible assumption) | exact Nat.le_of_ble_eq_true rfl | omega | (simp <;> omega))))) <;> (try (conv => whnf))
  refine AWp_loop (σ := Nat) (6 :: 8 :: 10 :: 11 :: 12 :: 13 :: 14 :: 15 :: 16 :: 17 :: 18 :: 19 :: 20 :: 21 :: 22 :: 23 :: 24 :: 25 :: 26 :: 27 :: 28 :: 29 :: 30 :: 31 :: 32 :: 33 :: 34 :: 35 :: 36 :: 37 :: 38 :: 39 :: []) (fun i => [(8, .int .i64 i), (6, .sl r1 i 4 0 i none)]) (fun i => (H.set r1 (.row (edL (es.take i)) i)).set r2 (.row [] 0)) (fun i => i ≤ es.length) (fun i => es.length - i) 0 rfl (Nat.zero_le _) ⟨rfl, rfl, trivial⟩ (HLe.refl _) ?_
  intro i hi
  refine AWp.of tt_ok (dok _) rfl ?_
  dsimp only at hi ⊢
  have hfi : (edL (es.take i)).length = i * 4 := by rw [edL_len, List.length_take, Nat.min_eq_left hi]
  have hg1 : ((H.set r1 (.row (edL (es.take i)) i)).set r2 (.row [] 0)) r1 = some (.row (edL (es.take i)) i) := by (focus (repeat (first | (with_reducible assumption) | (with_reducible exact AH.set_same _ _ _) | ((first | refine AH.get_ne ?_ ?_); (first | (with_reducible assumption) | exact Ne.symm (by with_reducible assumption))))); done)
  by_cases hilt : i < es.length
  · obtain ⟨x, hx⟩ : ∃ x, es[i]? = some x := ⟨_, List.getElem?_eq_getElem hilt⟩
    have g0 : (edL es)[(i : Int).toNat * 4]? = some (.int .i64 x.a) := edL_get hx 0 (by decide)
    have g1 : (edL es)[(i : Int).toNat * 4 + 1]? = some (.int .i64 x.b) := edL_get hx 1 (by decide)
    have g2 : (edL es)[(i : Int).toNat * 4 + 2]? = some (.int .i64 x.d) := edL_get hx 2 (by decide)
    have g3 : (edL es)[(i : Int).toNat * 4 + 3]? = some (.int .i64 x.w) := edL_get hx 3 (by decide)
    have hst : edL (es.take (i + 1)) = edL (es.take i) ++ [.int .i64 x.a, .int .i64 x.b, .int .i64 x.d, .int .i64 x.w] := by rw [take_snoc hx]; exact (fL_snoc edA _ _).symm
    generalize edL (es.take i) = R1 at *
    generalize hR2 : edL (es.take (i + 1)) = R2 at *
    (repeat' ((conv => whnf); first | refine Then.mk ?_ | left | refine OpsA.cons ?_ | refine OpsA.nil ?_ | refine AWq.seq ?_ | refine AWq.region ?_ | refine AWq.cond ?_ | refine AWq.block ?_ | refine AWq.skip ?_ | refine AWq.ret ?_ | refine AWq.exit ?_ | refine AWq.loop ?_ | refine DrawA.consD ?_ | refine DrawA.nil ?_ | refine AWq.draw (by decide +kernel) ?_ | (refine Both.mk ?_ ?_ <;> intro hc <;> (first | exact Bool.noConfusion hc | (exfalso; omega) | skip)) | (intro c hc; (try (simp only [AH.none_iff] at hc; repeat (have hn := hc.1; replace hc := hc.2))); (first | (refine i64_k hc ?_ ?_ ?_ ; omega; omega; (clear hc; intro hc; subst hc)) | skip)) | (apply Exists.intro; apply And.intro; (first | (focus (repeat (first | (with_reducible assumption) | (with_reducible exact AH.set_same _ _ _) | ((first | refine AH.get_ne ?_ ?_); (first | (with_reducible assumption) | exact Ne.symm (by with_reducible assumption))))); done))) | (apply Exists.intro; apply And.intro; first | (with_reducible assumption) | ((try simp only [List.getElem?_drop, Nat.mul_one, Nat.add_zero, Nat.zero_add]); first | (with_reducible assumption) | rfl)) | (apply And.intro; (first | rfl | (with_reducible assumption) | exact Nat.le_of_ble_eq_true rfl | omega | (simp <;> omega))))) <;> (try (conv => whnf))
    refine ⟨i + 1, hilt, by omega, ⟨congrArg (AV.int .i64) (by omega), rfl, trivial⟩, HLe.of_eq ?_⟩
    rw [hR2, hst]
    exact (AH.set_back _ (Ne.symm hne) _ _ _).symm
  · have hie : i = es.length := by omega
    have hte : es.take i = es := List.take_of_length_le (by omega)
    rw [hte]
    clear hfi hg1 hte
    (repeat' ((conv => whnf); first | refine Then.mk ?_ | left | refine OpsA.cons ?_ | refine OpsA.nil ?_ | refine AWq.seq ?_ | refine AWq.region ?_ | refine AWq.cond ?_ | refine AWq.block ?_ | refine AWq.skip ?_ | refine AWq.ret ?_ | refine AWq.exit ?_ | refine AWq.loop ?_ | refine DrawA.consD ?_ | refine DrawA.nil ?_ | refine AWq.draw (by decide +kernel) ?_ | (refine Both.mk ?_ ?_ <;> intro hc <;> (first | exact Bool.noConfusion hc | (exfalso; omega) | skip)) | (intro c hc; (try (simp only [AH.none_iff] at hc; repeat (have hn := hc.1; replace hc := hc.2))); (first | (refine i64_k hc ?_ ?_ ?_ ; omega; omega; (clear hc; intro hc; subst hc)) | skip)) | (apply Exists.intro; apply And.intro; (first | (focus (repeat (first | (with_reducible assumption) | (with_reducible exact AH.set_same _ _ _) | ((first | refine AH.get_ne ?_ ?_); (first | (with_reducible assumption) | exact Ne.symm (by with_reducible assumption))))); done))) | (apply Exists.intro; apply And.intro; first | (with_reducible assumption) | ((try simp only [List.getElem?_drop, Nat.mul_one, Nat.add_zero, Nat.zero_add]); first | (with_reducible assumption) | rfl)) | (apply And.intro; (first | rfl | (with_reducible assumption) | exact Nat.le_of_ble_eq_true rfl | omega | (simp <;> omega))))) <;> (try (conv => whnf))
    refine AWp_loop (σ := Nat) (7 :: 9 :: 40 :: 41 :: 42 :: 43 :: 44 :: 45 :: 46 :: 47 :: 48 :: 49 :: 50 :: 51 :: 52 :: 53 :: 54 :: 55 :: 56 :: 57 :: 58 :: 59 :: 60 :: 61 :: 62 :: 63 :: 64 :: []) (fun j => [(9, .int .i64 j), (7, .sl r2 j 3 0 j none)]) (fun j => (H.set r1 (.row (edL es) i)).set r2 (.row (fxL (fs.take j)) j)) (fun j => j ≤ fs.length) (fun j => fs.length - j) 0 rfl (Nat.zero_le _) ⟨rfl, rfl, trivial⟩ (HLe.refl _) ?_
    intro j hj
    refine AWp.of tt_ok (dok _) rfl ?_
    dsimp only at hj ⊢
    have hfj : (fxL (fs.take j)).length = j * 3 := by rw [fxL_len, List.length_take, Nat.min_eq_left hj]
    have hg2 : ((H.set r1 (.row (edL es) i)).set r2 (.row (fxL (fs.take j)) j)) r2 = some (.row (fxL (fs.take j)) j) := AH.set_same _ _ _
    by_cases hjlt : j < fs.length
    · obtain ⟨x, hx⟩ : ∃ x, fs[j]? = some x := ⟨_, List.getElem?_eq_getElem hjlt⟩
      have g0 : (fxL fs)[(j : Int).toNat * 3]? = some (.int .i64 x.a) := fxL_get hx 0 (by decide)
      have g1 : (fxL fs)[(j : Int).toNat * 3 + 1]? = some (.int .i64 x.v) := fxL_get hx 1 (by decide)
      have g2 : (fxL fs)[(j : Int).toNat * 3 + 2]? = some (.int .i64 x.w) := fxL_get hx 2 (by decide)
      have hst : fxL (fs.take (j + 1)) = fxL (fs.take j) ++ [.int .i64 x.a, .int .i64 x.v, .int .i64 x.w] := by rw [take_snoc hx]; exact (fL_snoc fxA _ _).symm
      generalize fxL (fs.take j) = R1 at *
      generalize hR2 : fxL (fs.take (j + 1)) = R2 at *
      (repeat' ((conv => whnf); first | refine Then.mk ?_ | left | refine OpsA.cons ?_ | refine OpsA.nil ?_ | refine AWq.seq ?_ | refine AWq.region ?_ | refine AWq.cond ?_ | refine AWq.block ?_ | refine AWq.skip ?_ | refine AWq.ret ?_ | refine AWq.exit ?_ | refine AWq.loop ?_ | refine DrawA.consD ?_ | refine DrawA.nil ?_ | refine AWq.draw (by decide +kernel) ?_ | (refine Both.mk ?_ ?_ <;> intro hc <;> (first | exact Bool.noConfusion hc | (exfalso; omega) | skip)) | (intro c hc; (try (simp only [AH.none_iff] at hc; repeat (have hn := hc.1; replace hc := hc.2))); (first | (refine i64_k hc ?_ ?_ ?_ ; omega; omega; (clear hc; intro hc; subst hc)) | skip)) | (apply Exists.intro; apply And.intro; (first | (focus (repeat (first | (with_reducible assumption) | (with_reducible exact AH.set_same _ _ _) | ((first | refine AH.get_ne ?_ ?_); (first | (with_reducible assumption) | exact Ne.symm (by with_reducible assumption))))); done))) | (apply Exists.intro; apply And.intro; first | (with_reducible assumption) | ((try simp only [List.getElem?_drop, Nat.mul_one, Nat.add_zero, Nat.zero_add]); first | (with_reducible assumption) | rfl)) | (apply And.intro; (first | rfl | (with_reducible assumption) | exact Nat.le_of_ble_eq_true rfl | omega | (simp <;> omega))))) <;> (try (conv => whnf))
      refine ⟨j + 1, hjlt, by omega, ⟨congrArg (AV.int .i64) (by omega), rfl, trivial⟩, HLe.of_eq ?_⟩
      rw [hR2, hst]
      exact (AH.set_set _ _ _ _).symm
    · have hje : j = fs.length := by omega
      (repeat' ((conv => whnf); first | refine Then.mk ?_ | left | refine OpsA.cons ?_ | refine OpsA.nil ?_ | refine AWq.seq ?_ | refine AWq.region ?_ | refine AWq.cond ?_ | refine AWq.block ?_ | refine AWq.skip ?_ | refine AWq.ret ?_ | refine AWq.exit ?_ | refine AWq.loop ?_ | refine DrawA.consD ?_ | refine DrawA.nil ?_ | refine AWq.draw (by decide +kernel) ?_ | (refine Both.mk ?_ ?_ <;> intro hc <;> (first | exact Bool.noConfusion hc | (exfalso; omega) | skip)) | (intro c hc; (try (simp only [AH.none_iff] at hc; repeat (have hn := hc.1; replace hc := hc.2))); (first | (refine i64_k hc ?_ ?_ ?_ ; omega; omega; (clear hc; intro hc; subst hc)) | skip)) | (apply Exists.intro; apply And.intro; (first | (focus (repeat (first | (with_reducible assumption) | (with_reducible exact AH.set_same _ _ _) | ((first | refine AH.get_ne ?_ ?_); (first | (with_reducible assumption) | exact Ne.symm (by with_reducible assumption))))); done))) | (apply Exists.intro; apply And.intro; first | (with_reducible assumption) | ((try simp only [List.getElem?_drop, Nat.mul_one, Nat.add_zero, Nat.zero_add]); first | (with_reducible assumption) | rfl)) | (apply And.intro; (first | rfl | (with_reducible assumption) | exact Nat.le_of_ble_eq_true rfl | omega | (simp <;> omega))))) <;> (try (conv => whnf))
      refine ⟨r1, r2, i, j, hr1, hr2, Ne.symm hne, ?_, ?_⟩
      · rw [← hje, ← hie]
      · rw [show fs.take j = fs from List.take_of_length_le (by omega)]
theorem real_c (es : List Ed) (fs : List Fx) (he : es.length ≤ 1000000) (hf : fs.length ≤ 1000000) (H : AH) :
    ACall Try.prog 13 [.cs (edL es) es.length, .cs (fxL fs) fs.length] H (fun y H' => y = .tup [.cs (edL es) es.length, .cs (fxL fs) fs.length] ∧ H' = H) :=
  ACall.cold2 (e1 := 4) (e2 := 3) (by simp) (by simp) (real_s es fs he hf H)
/-- A list of which some elements are changed. -/
def stepL {α : Type} (f : α → α) (l : List α) (i : Nat) : List α := (l.take i).map f ++ l.drop i
theorem stepL_len {α : Type} (f : α → α) (l : List α) (i : Nat) : (stepL f l i).length = l.length := by
  unfold stepL; rw [List.length_append, List.length_map, List.length_take, List.length_drop]; omega
theorem stepL_0 {α : Type} (f : α → α) (l : List α) : stepL f l 0 = l := by simp [stepL]
theorem stepL_all {α : Type} (f : α → α) (l : List α) (i : Nat) (h : l.length ≤ i) : stepL f l i = l.map f := by
  unfold stepL; rw [List.take_of_length_le h, List.drop_of_length_le h, List.append_nil]
theorem stepL_get {α : Type} (f : α → α) {l : List α} {i : Nat} {x : α} (h : l[i]? = some x) : (stepL f l i)[i]? = some x := by
  have hl : i < l.length := (List.getElem?_eq_some_iff.1 h).1
  unfold stepL
  rw [List.getElem?_append_right (by rw [List.length_map, List.length_take]; omega), List.getElem?_drop, List.length_map, List.length_take, ← h]
  congr 1; omega
theorem stepL_set {α : Type} (f : α → α) {l : List α} {i : Nat} {x : α} (h : l[i]? = some x) : (stepL f l i).set i (f x) = stepL f l (i + 1) := by
  have hl : i < l.length := (List.getElem?_eq_some_iff.1 h).1
  have hx : l[i] = x := by rw [List.getElem?_eq_getElem hl] at h; exact Option.some.inj h
  unfold stepL
  rw [List.set_append_right (h := by rw [List.length_map, List.length_take]; omega), List.length_map, List.length_take, Nat.min_eq_left (by omega), Nat.sub_self, List.drop_eq_getElem_cons hl, List.set_cons_zero, take_snoc h, List.map_append, List.append_assoc]
  rfl
theorem fxL_wrZ {l : List Fx} {i : Nat} {x b : Fx} (h : l[i]? = some x) {j : Nat} {a : AV} (hj : j < 3) (hb : fxA b = (fxA x).set j a) : wrA (fxL l) (0 + (i : Int).toNat * 3 + j) [a] = fxL (l.set i b) := by
  rw [show 0 + (i : Int).toNat * 3 + j = i * 3 + j by omega]; exact fL_wr1 fxA_len h hj hb
theorem edL_wrZ {l : List Ed} {i : Nat} {x b : Ed} (h : l[i]? = some x) {j : Nat} {a : AV} (hj : j < 4) (hb : edA b = (edA x).set j a) : wrA (edL l) (0 + (i : Int).toNat * 4 + j) [a] = edL (l.set i b) := by
  rw [show 0 + (i : Int).toNat * 4 + j = i * 4 + j by omega]; exact fL_wr1 edA_len h hj hb
/-- Two rows. -/
def twoH (H : AH) (r1 u1 r2 u2 : Nat) (es : List Ed) (fs : List Fx) : AH := (H.set r1 (.row (edL es) u1)).set r2 (.row (fxL fs) u2)
end Go.Proofs.Ytebflkgpbbjhnaa
/- The walks of the reference: Loose. -/
namespace Go.Proofs.Ytebflkgpbbjhnaa
open Go.Fw Go
set_option linter.unusedVariables false
set_option linter.unusedSimpArgs false

/-- Truths of a function. -/
def qL (n : Nat) (b : Nat → Bool) : List AV := fnL n fun v => AV.bool (b v)
@[simp] theorem qL_len (n : Nat) (b : Nat → Bool) : (qL n b).length = n := by simp [qL]
def putB (b : Nat → Bool) (i : Nat) : Nat → Bool := fun v => if v = i then true else b v
theorem qL_get {n i : Nat} (b : Nat → Bool) (h : i < n) : (qL n b)[i]? = some (.bool (b i)) := fnL_get _ h
theorem qL_wr {n i : Nat} (b : Nat → Bool) (h : i < n) : wrA (qL n b) (0 + i * 1) [.bool true] = qL n (putB b i) := by
  rw [show 0 + i * 1 = i by omega]
  unfold wrA
  have e : (qL n b).set i (.bool true) = qL n (putB b i) := by
    unfold qL
    rw [fnL_set]
    refine fnL_congr fun u _ => ?_
    unfold putB
    by_cases hu : u = i
    · rw [if_pos hu, if_pos hu]
    · rw [if_neg hu, if_neg hu]
  rw [← e, List.set_eq_take_append_cons_drop, if_pos (by simpa using h)]
  simp
theorem qL_zero (n : Nat) : (List.replicate n [AV.bool false]).flatten = qL n fun _ => false := by
  have : (List.replicate n [AV.bool false]).flatten = List.replicate n (AV.bool false) := by
    induction n with
    | zero => rfl
    | succ n ih => rw [List.replicate_succ, List.flatten_cons, ih, List.replicate_succ]; rfl
  rw [this, fnL_rep]; rfl
end Go.Proofs.Ytebflkgpbbjhnaa
/- The law BalanceScales: the contract of the law's function. -/
namespace Go.Proofs.Ytebflkgpbbjhnaa
open Go.Fw Go
set_option linter.unusedVariables false
set_option linter.unusedSimpArgs false

/-- Solve's cost, the least one. -/
structure Least (es : List Ed) (fs : List Fx) (c : Int) : Prop where
  hit : ∃ q, costP es fs q = c
  low : ∀ q, c ≤ costP es fs q
theorem Least.one {es : List Ed} {fs : List Fx} {c d : Int} (h : Least es fs c) (k : Least es fs d) : c = d := by
  obtain ⟨p, hp⟩ := h.hit
  obtain ⟨q, hq⟩ := k.hit
  have := h.low q
  have := k.low p
  omega
theorem pr_valid {n most : Nat} (hn : n ≤ 10) (hm : most ≤ 65535) (l : List Int) : (∀ x ∈ prES n most l, (vE n x ∧ (-(most : Int) ≤ x.d ∧ x.d ≤ most) ∧ x.w ≤ 9)) ∧ (∀ x ∈ prFS n most l, (vF n x ∧ (-(most : Int) ≤ x.v ∧ x.v ≤ most) ∧ x.w ≤ 9)) ∧ (prES n most l).length ≤ 12 ∧ (prFS n most l).length ≤ 5 := by
  have p0 := pickV_lt (l := l) (i := 0) (m := 12) (by decide)
  have p1 := pickV_lt (l := l) (i := 1) (m := 5) (by decide)
  refine ⟨fun x hx => ?_, fun x hx => ?_, ?_, ?_⟩
  · obtain ⟨i, hi, rfl⟩ := List.mem_map.1 hx
    have hi : i < prN n l := by simpa using hi
    have h1n : 1 < n := by unfold prN at hi; split at hi <;> omega
    have lA := pickV_lt (l := l) (i := 4 * (i : Int) + 1) (m := n) (by omega)
    have lB := pickV_lt (l := l) (i := 4 * (i : Int) + 2) (m := n - 1) (by omega)
    have lD := pickV_lt (l := l) (i := 4 * (i : Int) + 3) (m := 2 * most + 1) (by omega)
    have lW := pickV_lt (l := l) (i := 4 * (i : Int) + 4) (m := 9) (by omega)
    unfold prE vE
    dsimp only
    generalize pickV l (4 * (i : Int) + 1) n = a at *
    generalize pickV l (4 * (i : Int) + 2) (n - 1) = b at *
    have hab : a ≠ (a + 1 + b) % n := by
      by_cases h : a + 1 + b < n
      · rw [Nat.mod_eq_of_lt h]; omega
      · rw [Nat.mod_eq_sub_mod (by omega), Nat.mod_eq_of_lt (by omega)]; omega
    have hlt := Nat.mod_lt (a + 1 + b) (show n > 0 by omega)
    generalize (a + 1 + b) % n = m at *
    refine ⟨⟨by omega, by omega, by omega, by omega, by omega⟩, by omega, by omega⟩
  · obtain ⟨i, hi, rfl⟩ := List.mem_map.1 hx
    have hi : i < prM n l := by simpa using hi
    have h1n : 0 < n := by unfold prM at hi; split at hi <;> omega
    have lA := pickV_lt (l := l) (i := 3 * (i : Int) + 2) (m := n) (by omega)
    have lD := pickV_lt (l := l) (i := 3 * (i : Int) + 5) (m := 2 * most + 1) (by omega)
    have lW := pickV_lt (l := l) (i := 3 * (i : Int) + 4) (m := 7) (by omega)
    unfold prF vF
    dsimp only
    refine ⟨⟨by omega, by omega, by omega⟩, by omega, by omega⟩
  · unfold prES; rw [fnL_len]; unfold prN; split <;> omega
  · unfold prFS; rw [fnL_len]; unfold prM; split <;> omega
theorem valid0 {n : Nat} {es : List Ed} {fs : List Fx} (hn : n ≤ 64) (he : es.length ≤ 8192) (hf : fs.length ≤ 8192) (hE : ∀ x ∈ es, vE n x) (hF : ∀ x ∈ fs, vF n x) : validV n es fs = 0 := by
  unfold validV
  rw [if_neg (by omega), if_neg (by omega), if_pos ⟨hE, hF⟩]
end Go.Proofs.Ytebflkgpbbjhnaa
/- The plain law of BalanceFits. -/
namespace Go.Proofs.Ytebflkgpbbjhnaa
open Go.Fw Go
set_option linter.unusedVariables false
set_option linter.unusedSimpArgs false

def fitE (W : Nat → Int) (x : Ed) : Ed := ⟨x.a, x.b, W x.a.toNat - W x.b.toNat, x.w⟩
def fitF (W : Nat → Int) (x : Fx) : Fx := ⟨x.a, W x.a.toNat, x.w⟩
def waC (m : List Int) (i : Nat) : Int := (pickV m i 60000 : Int) - 30000
theorem sum_zero : ∀ {l : List Int}, (∀ x ∈ l, 0 ≤ x) → l.sum ≤ 0 → ∀ x ∈ l, x = 0
  | [], _, _, x, hx => by cases hx
  | a :: l, h, hs, x, hx => by
    rw [List.sum_cons] at hs
    have ha := h a (by simp)
    have hl : 0 ≤ l.sum := by
      have : ∀ {l : List Int}, (∀ x ∈ l, 0 ≤ x) → 0 ≤ l.sum := by
        intro l
        induction l with
        | nil => intro _; simp
        | cons b l ih =>
          intro k
          rw [List.sum_cons]
          have := k b (by simp)
          have := ih fun x hx => k x (by simp [hx])
          omega
      exact this fun x hx => h x (by simp [hx])
    rcases List.mem_cons.1 hx with rfl | hx
    · omega
    · exact sum_zero (fun x hx => h x (by simp [hx])) (by omega) x hx
theorem absI_0 {z : Int} (h : absI z = 0) : z = 0 := by
  unfold absI at h; split at h <;> omega
theorem w_abs {w z : Int} (hw : 1 ≤ w) : 0 ≤ w * absI z ∧ (w * absI z = 0 → z = 0) := by
  have ha : 0 ≤ absI z := by unfold absI; split <;> omega
  refine ⟨Int.mul_nonneg (by omega) ha, fun h => absI_0 ?_⟩
  rcases Int.mul_eq_zero.1 h with h | h
  · omega
  · exact h
/-- A problem that fits has the cost 0, and its answer fits. -/
theorem fits {n : Nat} {es : List Ed} {fs : List Fx} {W : Nat → Int} {A : List Ac} {d o : Nat → Int} (h : Sv n (es.map (fitE W)) (fs.map (fitF W)) A d o) (hv : validV n (es.map (fitE W)) (fs.map (fitF W)) = 0) :
    (Proofs.Ytebflkgpbbjhnaa.costR (es.map (fitE W)) (fs.map (fitF W)) (fnL n (offS n d o))).1 = 0 ∧ (∀ x ∈ es, offS n d o x.a.toNat = W x.a.toNat ↔ offS n d o x.b.toNat = W x.b.toNat) ∧ ∀ x ∈ fs, offS n d o x.a.toNat = W x.a.toNat := by
  obtain ⟨_, _, hE, hF⟩ := validV_ok hv
  have hm := h.min hE hF W
  have hz : costP (es.map (fitE W)) (fs.map (fitF W)) W = 0 := by
    have z1 : ∀ l : List Int, (∀ x ∈ l, x = 0) → l.sum = 0 := by
      intro l
      induction l with
      | nil => intro _; rfl
      | cons a l ih => intro k; rw [List.sum_cons, k a (by simp), ih fun x hx => k x (by simp [hx])]; rfl
    unfold costP
    rw [z1 _ ?_, z1 _ ?_]
    · rfl
    · intro c hc
      obtain ⟨y, hy, rfl⟩ := List.mem_map.1 hc
      obtain ⟨x, hx, rfl⟩ := List.mem_map.1 hy
      show x.w * absI (W x.a.toNat - W x.a.toNat) = 0
      rw [Int.sub_self]; exact Int.mul_zero _
    · intro c hc
      obtain ⟨y, hy, rfl⟩ := List.mem_map.1 hc
      obtain ⟨x, hx, rfl⟩ := List.mem_map.1 hy
      show x.w * absI (W x.a.toNat - W x.b.toNat - (W x.a.toNat - W x.b.toNat)) = 0
      rw [Int.sub_self]; exact Int.mul_zero _
  rw [h.costR hE hF hv]
  rw [hz] at hm
  have n1 : ∀ c ∈ (es.map (fitE W)).map (costE (ofL (fnL n (offS n d o)))), 0 ≤ c := fun c hc => by
    obtain ⟨y, hy, rfl⟩ := List.mem_map.1 hc
    exact (w_abs (hE y hy).2.2.2.2.1).1
  have n2 : ∀ c ∈ (fs.map (fitF W)).map (costF (ofL (fnL n (offS n d o)))), 0 ≤ c := fun c hc => by
    obtain ⟨y, hy, rfl⟩ := List.mem_map.1 hc
    exact (w_abs (hF y hy).2.2.1).1
  have s1 : ∀ {l : List Int}, (∀ x ∈ l, 0 ≤ x) → 0 ≤ l.sum := by
    intro l
    induction l with
    | nil => intro _; simp
    | cons b l ih =>
      intro k
      rw [List.sum_cons]
      have := k b (by simp)
      have := ih fun x hx => k x (by simp [hx])
      omega
  have p1 := s1 n1
  have p2 := s1 n2
  have hat : ∀ v, v < n → ofL (fnL n (offS n d o)) v = offS n d o v := fun v hv => h.at hv
  refine ⟨?_, fun x hx => ?_, fun x hx => ?_⟩
  · show costP _ _ _ = 0
    unfold costP at hm ⊢
    omega
  · unfold costP at hm
    have hy : fitE W x ∈ es.map (fitE W) := List.mem_map.2 ⟨x, hx, rfl⟩
    obtain ⟨v1, v2, v3, v4, v5⟩ := hE _ hy
    have := sum_zero n1 (by omega) _ (List.mem_map.2 ⟨_, hy, rfl⟩)
    have := (w_abs v5.1).2 this
    have v1' : 0 ≤ x.a ∧ x.a < n := v1
    have v2' : 0 ≤ x.b ∧ x.b < n := v2
    rw [hat _ (show (fitE W x).a.toNat < n by show x.a.toNat < n; omega), hat _ (show (fitE W x).b.toNat < n by show x.b.toNat < n; omega)] at this
    have this : offS n d o x.a.toNat - offS n d o x.b.toNat - (W x.a.toNat - W x.b.toNat) = 0 := this
    omega
  · unfold costP at hm
    have hy : fitF W x ∈ fs.map (fitF W) := List.mem_map.2 ⟨x, hx, rfl⟩
    obtain ⟨v1, v4, v5⟩ := hF _ hy
    have := sum_zero n2 (by omega) _ (List.mem_map.2 ⟨_, hy, rfl⟩)
    have := (w_abs v5.1).2 this
    have v1' : 0 ≤ x.a ∧ x.a < n := v1
    rw [hat _ (show (fitF W x).a.toNat < n by show x.a.toNat < n; omega)] at this
    have this : offS n d o x.a.toNat - W x.a.toNat = 0 := this
    omega
/-- What is known follows from the fixes along the edges. -/
def Kn (es : List Ed) (fs : List Fx) (b : Nat → Bool) : Prop := ∀ P : Nat → Prop, (∀ x ∈ es, P x.a.toNat ↔ P x.b.toNat) → (∀ x ∈ fs, P x.a.toNat) → ∀ v, b v = true → P v
theorem Kn.fx {es : List Ed} {fs : List Fx} {b : Nat → Bool} (h : Kn es fs b) {x : Fx} (hx : x ∈ fs) : Kn es fs (putB b x.a.toNat) := fun P h1 h2 v hv => by
  unfold putB at hv
  split at hv
  · rename_i e; rw [e]; exact h2 x hx
  · exact h P h1 h2 v hv
theorem Kn.ed {es : List Ed} {fs : List Fx} {b : Nat → Bool} (h : Kn es fs b) {x : Ed} (hx : x ∈ es) (ho : b x.a.toNat = true ∨ b x.b.toNat = true) : Kn es fs (putB (putB b x.a.toNat) x.b.toNat) := fun P h1 h2 v hv => by
  have hab : P x.a.toNat ∧ P x.b.toNat := by
    rcases ho with ho | ho
    · have := h P h1 h2 _ ho
      exact ⟨this, (h1 x hx).1 this⟩
    · have := h P h1 h2 _ ho
      exact ⟨(h1 x hx).2 this, this⟩
  unfold putB at hv
  split at hv
  · rename_i e; rw [e]; exact hab.2
  · split at hv
    · rename_i e; rw [e]; exact hab.1
    · exact h P h1 h2 v hv
end Go.Proofs.Ytebflkgpbbjhnaa
/- The law BalanceFits: the contract of the law's function. -/
namespace Go.Proofs.Ytebflkgpbbjhnaa
open Go.Fw Go
set_option linter.unusedVariables false
set_option linter.unusedSimpArgs false

set_option maxHeartbeats 8000000 in
set_option maxRecDepth 8000 in
theorem BalanceFits_c (x0 : Int) (hx0 : -9223372036854775808 ≤ x0 ∧ x0 ≤ 9223372036854775807) (l1 : List Int) (hl1 : l1.length ≤ maxLen) (hr1 : ∀ n ∈ l1, -9223372036854775808 ≤ n ∧ n ≤ 9223372036854775807) (l2 : List Int) (hl2 : l2.length ≤ maxLen) (hr2 : ∀ n ∈ l2, -9223372036854775808 ≤ n ∧ n ≤ 9223372036854775807) :
    ACall Try.prog 7 [.int .i64 x0, .cs (iS .i64 l1) l1.length, .cs (iS .i64 l2) l2.length] (fun _ => none) (fun y _ => y = .bool true) := by
  have ha1 : ∀ H, ACall Try.prog 11 [.int .i64 x0, .int .i64 9] H (fun y H' => y = .int .i64 (aro x0 9) ∧ H' = H) := fun H => around_f x0 hx0.1 hx0.2 9 (by decide) (by decide) H
  have hn := aro_lt (n := x0) (m := 9) (by decide)
  generalize aro x0 9 = n at *
  have hpr := fun H => problem_s n 5 (by omega) (by decide) l1 hr1 hl1 H
  obtain ⟨v1, v2, v3, v4⟩ := pr_valid (n := n) (most := 5) (by omega) (by decide) l1
  have q1 : (prES n 5 l1).length = prN n l1 := by unfold prES; simp
  have q2 : (prFS n 5 l1).length = prM n l1 := by unfold prFS; simp
  rw [← q1, ← q2] at hpr
  generalize prES n 5 l1 = es at *
  generalize prFS n 5 l1 = fs at *
  have hl2' : l2.length ≤ 9223372036854775807 := by unfold maxLen at hl2; omega
  have hpk := fun (i : Nat) (hi : i ≤ 100) H => pick_f l2 hr2 hl2' (i : Int) (by omega) 60000 (by decide) (by decide) H
  have hil2 := iS_length .i64 l2
  obtain ⟨W, hW⟩ : ∃ W, W = waC l2 := ⟨_, rfl⟩
  have hWb : ∀ v, -30000 ≤ W v ∧ W v < 30000 := fun v => by
    have := pickV_lt (l := l2) (i := (v : Int)) (m := 60000) (by decide)
    rw [hW]; unfold waC; omega
  generalize (fun _ => none : AH) = H0
  refine ACall_of tt_ok (dok _) Try.func7 rfl (by decide) rfl ?_
  (repeat' ((conv => whnf); first | refine Then.mk ?_ | left | refine OpsA.cons ?_ | refine OpsA.nil ?_ | refine AWq.seq ?_ | refine AWq.region ?_ | refine AWq.cond ?_ | refine AWq.block ?_ | refine AWq.skip ?_ | refine AWq.ret ?_ | refine AWq.exit ?_ | refine AWq.loop ?_ | refine DrawA.consD ?_ | refine DrawA.nil ?_ | refine AWq.draw (by decide +kernel) ?_ | (refine Both.mk ?_ ?_ <;> intro hc <;> (first | exact Bool.noConfusion hc | exact absurd (by with_reducible rfl) hc | (exfalso; omega) | skip)) | (intro c hc; (try (simp only [AH.none_iff] at hc; repeat (have hn := hc.1; replace hc := hc.2))); (first | (refine i64_k hc ?_ ?_ ?_ ; omega; omega; (clear hc; intro hc; subst hc)) | skip)) | (apply Exists.intro; apply And.intro; (first | (focus (repeat (first | (with_reducible assumption) | (with_reducible exact AH.set_same _ _ _))); done))) | (apply Exists.intro; apply And.intro; first | (with_reducible assumption) | ((try simp only [List.getElem?_drop, Nat.mul_one, Nat.add_zero, Nat.zero_add]); first | (with_reducible assumption) | rfl)) | (apply And.intro; (first | rfl | (with_reducible assumption) | exact Nat.le_of_ble_eq_true rfl | omega | (simp <;> omega))) | (refine ACall.to (ha1 _) ?_))) <;> (try (conv => whnf))
  refine ACall.mono (hpr _) ?_
  rintro y H' ⟨r1, r2, u1, u2, hr1', hr2', hne, rfl, rfl⟩
  clear hpr q1 q2
  have T1 : ∀ es fs, twoH H0 r1 u1 r2 u2 es fs r1 = some (.row (edL es) u1) := fun es fs => by unfold twoH; rw [AH.set_ne _ _ hne, AH.set_same]
  have T2 : ∀ es fs, twoH H0 r1 u1 r2 u2 es fs r2 = some (.row (fxL fs) u2) := fun es fs => AH.set_same _ _ _
  have T3 : ∀ es fs fs', (twoH H0 r1 u1 r2 u2 es fs).set r2 (.row (fxL fs') u2) = twoH H0 r1 u1 r2 u2 es fs' := fun es fs fs' => AH.set_set _ _ _ _
  have T4 : ∀ es es' fs, (twoH H0 r1 u1 r2 u2 es fs).set r1 (.row (edL es') u1) = twoH H0 r1 u1 r2 u2 es' fs := fun es es' fs => AH.set_back _ hne _ _ _
  have T5 : ∀ es fs r, twoH H0 r1 u1 r2 u2 es fs r = none → H0 r = none ∧ r ≠ r1 ∧ r ≠ r2 := fun es fs r h => by
    unfold twoH at h
    obtain ⟨a, h⟩ := AH.none_set h
    obtain ⟨b, h⟩ := AH.none_set h
    exact ⟨h, b, a⟩
  have hT : AH.set (AH.set H0 r1 (.row (edL es) u1)) r2 (.row (fxL fs) u2) = twoH H0 r1 u1 r2 u2 es fs := rfl
  rw [hT]
  clear hT
  obtain ⟨G, hG⟩ : ∃ G, G = twoH H0 r1 u1 r2 u2 es fs := ⟨_, rfl⟩
  rw [← hG]
  (iterate 2 ((repeat' ((conv => whnf); first | left | refine OpsA.cons ?_ | refine OpsA.nil ?_ | refine AWq.seq ?_ | refine AWq.region ?_ | refine AWq.cond ?_ | refine AWq.block ?_ | refine AWq.skip ?_ | refine AWq.ret ?_ | refine AWq.exit ?_ | refine AWq.loop ?_ | refine DrawA.consD ?_ | refine DrawA.nil ?_ | refine AWq.draw (by decide +kernel) ?_ | (refine Both.mk ?_ ?_ <;> intro hc <;> (first | exact Bool.noConfusion hc | exact absurd (by with_reducible rfl) hc | (exfalso; omega) | skip)) | (intro c hc; (try (simp only [AH.none_iff] at hc; repeat (have hn := hc.1; replace hc := hc.2))); (first | (refine i64_k hc ?_ ?_ ?_ ; omega; omega; (clear hc; intro hc; subst hc)) | skip)) | (apply Exists.intro; apply And.intro; (first | (focus (repeat (first | (with_reducible assumption) | (with_reducible exact AH.set_same _ _ _))); done))) | (apply Exists.intro; apply And.intro; first | (with_reducible assumption) | ((try simp only [List.getElem?_drop, Nat.mul_one, Nat.add_zero, Nat.zero_add]); first | (with_reducible assumption) | rfl)) | (apply And.intro; (first | rfl | (with_reducible assumption) | exact Nat.le_of_ble_eq_true rfl | omega | (simp <;> omega))))) <;> (try (conv => whnf)); refine Then.mk ?_))
  refine AWq.in ?_
  refine AWp_nilrow1 10 1 rfl rfl fun r3 hr3 => ?_
  refine AWp.of tt_ok (dok _) rfl ?_
  (repeat' ((conv => whnf); first | refine Then.mk ?_ | left | refine OpsA.cons ?_ | refine OpsA.nil ?_ | refine AWq.seq ?_ | refine AWq.region ?_ | refine AWq.cond ?_ | refine AWq.block ?_ | refine AWq.skip ?_ | refine AWq.ret ?_ | refine AWq.exit ?_ | refine AWq.loop ?_ | refine DrawA.consD ?_ | refine DrawA.nil ?_ | refine AWq.draw (by decide +kernel) ?_ | (refine Both.mk ?_ ?_ <;> intro hc <;> (first | exact Bool.noConfusion hc | exact absurd (by with_reducible rfl) hc | (exfalso; omega) | skip)) | (intro c hc; (try (simp only [AH.none_iff] at hc; repeat (have hn := hc.1; replace hc := hc.2))); (first | (refine i64_k hc ?_ ?_ ?_ ; omega; omega; (clear hc; intro hc; subst hc)) | skip)) | (apply Exists.intro; apply And.intro; (first | (focus (repeat (first | (with_reducible assumption) | (with_reducible exact AH.set_same _ _ _))); done))) | (apply Exists.intro; apply And.intro; first | (with_reducible assumption) | ((try simp only [List.getElem?_drop, Nat.mul_one, Nat.add_zero, Nat.zero_add]); first | (with_reducible assumption) | rfl)) | (apply And.intro; (first | rfl | (with_reducible assumption) | exact Nat.le_of_ble_eq_true rfl | omega | (simp <;> omega))))) <;> (try (conv => whnf))
  refine AWp_loop (σ := Nat) (10 :: 11 :: 30 :: 31 :: 32 :: 33 :: 34 :: 35 :: 36 :: 37 :: 38 :: 39 :: 40 :: 41 :: []) (fun i => [(11, .int .i64 i), (10, .sl r3 i 1 0 i none)]) (fun i => G.set r3 (.row (iS .i64 (fnL i W)) i)) (fun i => i ≤ n) (fun i => n - i) 0 rfl (Nat.zero_le _) ⟨rfl, rfl, trivial⟩ (HLe.refl _) ?_
  intro i hi
  refine AWp.of tt_ok (dok _) rfl ?_
  dsimp only at hi ⊢
  have hRl : (iS .i64 (fnL i W)).length = i := by simp
  have hg1 : (G.set r3 (.row (iS .i64 (fnL i W)) i)) r3 = some (.row (iS .i64 (fnL i W)) i) := AH.set_same _ _ _
  by_cases hil : i < n
  · have hp := fun H => hpk i (by omega) H
    have hpl := pickV_lt (l := l2) (i := (i : Int)) (m := 60000) (by decide)
    have hsn : iS .i64 (fnL (i + 1) W) = iS .i64 (fnL i W) ++ [.int .i64 ((pickV l2 i 60000 : Int) - 30000)] := by rw [fnL_snoc, ← iS_snoc, hW]; rfl
    generalize pickV l2 (i : Int) 60000 = p at *
    have hp : ∀ H, ACall Try.prog 25 [.cs (iS .i64 l2) l2.length, .int .i64 i, .int .i64 60000] H (fun y H' => y = .int .i64 p ∧ H' = H) := hp
    generalize iS .i64 (fnL i W) = R at *
    (repeat' ((conv => whnf); first | refine Then.mk ?_ | left | refine OpsA.cons ?_ | refine OpsA.nil ?_ | refine AWq.seq ?_ | refine AWq.region ?_ | refine AWq.cond ?_ | refine AWq.block ?_ | refine AWq.skip ?_ | refine AWq.ret ?_ | refine AWq.exit ?_ | refine AWq.loop ?_ | refine DrawA.consD ?_ | refine DrawA.nil ?_ | refine AWq.draw (by decide +kernel) ?_ | (refine Both.mk ?_ ?_ <;> intro hc <;> (first | exact Bool.noConfusion hc | exact absurd (by with_reducible rfl) hc | (exfalso; omega) | skip)) | (intro c hc; (try (simp only [AH.none_iff] at hc; repeat (have hn := hc.1; replace hc := hc.2))); (first | (refine i64_k hc ?_ ?_ ?_ ; omega; omega; (clear hc; intro hc; subst hc)) | skip)) | (apply Exists.intro; apply And.intro; (first | (focus (repeat (first | (with_reducible assumption) | (with_reducible exact AH.set_same _ _ _))); done))) | (apply Exists.intro; apply And.intro; first | (with_reducible assumption) | ((try simp only [List.getElem?_drop, Nat.mul_one, Nat.add_zero, Nat.zero_add]); first | (with_reducible assumption) | rfl)) | (apply And.intro; (first | rfl | (with_reducible assumption) | exact Nat.le_of_ble_eq_true rfl | omega | (simp <;> omega))) | (refine ACall.to (hp _) ?_))) <;> (try (conv => whnf))
    refine ⟨i + 1, hil, by omega, ⟨congrArg (AV.int .i64) (by omega), rfl, trivial⟩, HLe.of_eq ?_⟩
    rw [hsn, AH.set_set]
  · have hie : i = n := by omega
    subst hie
    (iterate 1 ((repeat' ((conv => whnf); first | left | refine OpsA.cons ?_ | refine OpsA.nil ?_ | refine AWq.seq ?_ | refine AWq.region ?_ | refine AWq.cond ?_ | refine AWq.block ?_ | refine AWq.skip ?_ | refine AWq.ret ?_ | refine AWq.exit ?_ | refine AWq.loop ?_ | refine DrawA.consD ?_ | refine DrawA.nil ?_ | refine AWq.draw (by decide +kernel) ?_ | (refine Both.mk ?_ ?_ <;> intro hc <;> (first | exact Bool.noConfusion hc | exact absurd (by with_reducible rfl) hc | (exfalso; omega) | skip)) | (intro c hc; (try (simp only [AH.none_iff] at hc; repeat (have hn := hc.1; replace hc := hc.2))); (first | (refine i64_k hc ?_ ?_ ?_ ; omega; omega; (clear hc; intro hc; subst hc)) | skip)) | (apply Exists.intro; apply And.intro; (first | (focus (repeat (first | (with_reducible assumption) | (with_reducible exact AH.set_same _ _ _))); done))) | (apply Exists.intro; apply And.intro; first | (with_reducible assumption) | ((try simp only [List.getElem?_drop, Nat.mul_one, Nat.add_zero, Nat.zero_add]); first | (with_reducible assumption) | rfl)) | (apply And.intro; (first | rfl | (with_reducible assumption) | exact Nat.le_of_ble_eq_true rfl | omega | (simp <;> omega))))) <;> (try (conv => whnf)); refine Then.mk ?_))
    refine AWq.in ?_
    refine AWp_freeze1 10 (r := r3) (v := i) (es := 1) (n := i) (lim := none) (cells := iS .i64 (fnL i W)) rfl rfl hg1 (by omega) ?_
    refine AWp_less G (HLe.del _ (HLe.fresh _ hr3) hr3) ?_
    refine AWp.of tt_ok (dok _) rfl ?_
    have hWl : (iS .i64 (fnL i W)).length = i := hRl
    have hWo := one_iS .i64 (fnL i W)
    have hWg : ∀ v : Nat, v < i → (iS .i64 (fnL i W))[v]? = some (.int .i64 (W v)) := fun v hv => dL_get W hv
    generalize iS .i64 (fnL i W) = WL at *
    (repeat' ((conv => whnf); first | refine Then.mk ?_ | left | refine OpsA.cons ?_ | refine OpsA.nil ?_ | refine AWq.seq ?_ | refine AWq.region ?_ | refine AWq.cond ?_ | refine AWq.block ?_ | refine AWq.skip ?_ | refine AWq.ret ?_ | refine AWq.exit ?_ | refine AWq.loop ?_ | refine DrawA.consD ?_ | refine DrawA.nil ?_ | refine AWq.draw (by decide +kernel) ?_ | (refine Both.mk ?_ ?_ <;> intro hc <;> (first | exact Bool.noConfusion hc | exact absurd (by with_reducible rfl) hc | (exfalso; omega) | skip)) | (intro c hc; (try (simp only [AH.none_iff] at hc; repeat (have hn := hc.1; replace hc := hc.2))); (first | (refine i64_k hc ?_ ?_ ?_ ; omega; omega; (clear hc; intro hc; subst hc)) | skip)) | (apply Exists.intro; apply And.intro; (first | (focus (repeat (first | (with_reducible assumption) | (with_reducible exact AH.set_same _ _ _))); done))) | (apply Exists.intro; apply And.intro; first | (with_reducible assumption) | ((try simp only [List.getElem?_drop, Nat.mul_one, Nat.add_zero, Nat.zero_add]); first | (with_reducible assumption) | rfl)) | (apply And.intro; (first | rfl | (with_reducible assumption) | exact Nat.le_of_ble_eq_true rfl | omega | (simp <;> omega))))) <;> (try (conv => whnf))
    (obtain ⟨q, hq_⟩ : ∃ q, q = c := ⟨_, rfl⟩); subst hq_
    have hcq : G q = none := hc
    have hqr := T5 es fs q (by rw [← hG]; exact hcq)
    have Q1 : ∀ es fs b, ((twoH H0 r1 u1 r2 u2 es fs).set q (.row (qL i b) 0)) r1 = some (.row (edL es) u1) := fun es fs b => by rw [AH.set_ne _ _ (Ne.symm hqr.2.1)]; exact T1 es fs
    have Q2 : ∀ es fs b, ((twoH H0 r1 u1 r2 u2 es fs).set q (.row (qL i b) 0)) r2 = some (.row (fxL fs) u2) := fun es fs b => by rw [AH.set_ne _ _ (Ne.symm hqr.2.2)]; exact T2 es fs
    have Q3 : ∀ es fs fs' b, ((twoH H0 r1 u1 r2 u2 es fs).set q (.row (qL i b) 0)).set r2 (.row (fxL fs') u2) = (twoH H0 r1 u1 r2 u2 es fs').set q (.row (qL i b) 0) := fun es fs fs' b => by rw [AH.set_comm _ _ _ hqr.2.2, T3]
    have Q4 : ∀ es es' fs b, ((twoH H0 r1 u1 r2 u2 es fs).set q (.row (qL i b) 0)).set r1 (.row (edL es') u1) = (twoH H0 r1 u1 r2 u2 es' fs).set q (.row (qL i b) 0) := fun es es' fs b => by rw [AH.set_comm _ _ _ hqr.2.1, T4]
    have Q5 : ∀ es fs b, ((twoH H0 r1 u1 r2 u2 es fs).set q (.row (qL i b) 0)) q = some (.row (qL i b) 0) := fun es fs b => AH.set_same _ _ _
    have Q6 : ∀ es fs b b', ((twoH H0 r1 u1 r2 u2 es fs).set q (.row (qL i b) 0)).set q (.row (qL i b') 0) = (twoH H0 r1 u1 r2 u2 es fs).set q (.row (qL i b') 0) := fun es fs b b' => AH.set_set _ _ _ _
    refine AWp_loop (σ := Nat) (13 :: 44 :: 45 :: 46 :: 47 :: 48 :: 49 :: 50 :: 51 :: 52 :: 53 :: 54 :: 55 :: 56 :: 57 :: 58 :: 59 :: 60 :: 61 :: 62 :: 63 :: 64 :: 65 :: 66 :: 67 :: 68 :: 69 :: 70 :: []) (fun j => [(13, .int .i64 j)]) (fun j => (twoH H0 r1 u1 r2 u2 (stepL (fitE W) es j) fs).set q (.row (qL i fun _ => false) 0)) (fun j => j ≤ es.length) (fun j => es.length - j) 0 rfl (Nat.zero_le _) ⟨rfl, trivial⟩ (HLe.of_eq (by rw [stepL_0, ← hG, ← qL_zero, Int.toNat_natCast])) ?_
    intro j hj
    refine AWp.of tt_ok (dok _) rfl ?_
    dsimp only at hj ⊢
    by_cases hjl : j < es.length
    · obtain ⟨x, hx⟩ : ∃ x, es[j]? = some x := ⟨_, List.getElem?_eq_getElem hjl⟩
      have hx1 := stepL_get (fitE W) hx
      obtain ⟨⟨w1, w2, w3, w4, w5⟩, w6, w7⟩ := v1 x (List.mem_of_getElem? hx)
      have gx0 : (edL (stepL (fitE W) es j))[(j : Int).toNat * 4]? = some (.int .i64 x.a) := edL_get hx1 0 (by decide)
      have gx1 : (edL (stepL (fitE W) es j))[(j : Int).toNat * 4 + 1]? = some (.int .i64 x.b) := edL_get hx1 1 (by decide)
      have ga := hWg x.a.toNat (by omega)
      have gb := hWg x.b.toNat (by omega)
      have ra := hWb x.a.toNat
      have rb := hWb x.b.toNat
      have hll : (edL (stepL (fitE W) es j)).length = es.length * 4 := by rw [edL_len, stepL_len]
      have hlo := edL_one (stepL (fitE W) es j)
      have hw := edL_wrZ (b := fitE W x) hx1 (j := 2) (a := .int .i64 (W x.a.toNat - W x.b.toNat)) (by decide) rfl
      rw [stepL_set (fitE W) hx] at hw
      have hQ1 := Q1 (stepL (fitE W) es j) fs (fun _ => false)
      have hQ4 := Q4 (stepL (fitE W) es j) (stepL (fitE W) es (j + 1)) fs (fun _ => false)
      rw [← hw] at hQ4
      generalize edL (stepL (fitE W) es j) = R at *
      generalize (twoH H0 r1 u1 r2 u2 (stepL (fitE W) es j) fs).set q (.row (qL i fun _ => false) 0) = G1 at *
      generalize hG2 : (twoH H0 r1 u1 r2 u2 (stepL (fitE W) es (j + 1)) fs).set q (.row (qL i fun _ => false) 0) = G2 at *
      (repeat' ((conv => whnf); first | refine Then.mk ?_ | left | refine OpsA.cons ?_ | refine OpsA.nil ?_ | refine AWq.seq ?_ | refine AWq.region ?_ | refine AWq.cond ?_ | refine AWq.block ?_ | refine AWq.skip ?_ | refine AWq.ret ?_ | refine AWq.exit ?_ | refine AWq.loop ?_ | refine DrawA.consD ?_ | refine DrawA.nil ?_ | refine AWq.draw (by decide +kernel) ?_ | (refine Both.mk ?_ ?_ <;> intro hc <;> (first | exact Bool.noConfusion hc | exact absurd (by with_reducible rfl) hc | (exfalso; omega) | skip)) | (intro c hc; (try (simp only [AH.none_iff] at hc; repeat (have hn := hc.1; replace hc := hc.2))); (first | (refine i64_k hc ?_ ?_ ?_ ; omega; omega; (clear hc; intro hc; subst hc)) | skip)) | (apply Exists.intro; apply And.intro; (first | (focus (repeat (first | (with_reducible assumption) | (with_reducible exact AH.set_same _ _ _))); done))) | (apply Exists.intro; apply And.intro; first | (with_reducible assumption) | ((try simp only [List.getElem?_drop, Nat.mul_one, Nat.add_zero, Nat.zero_add]); first | (with_reducible assumption) | rfl)) | (apply And.intro; (first | rfl | (with_reducible assumption) | exact Nat.le_of_ble_eq_true rfl | omega | (simp <;> omega))))) <;> (try (conv => whnf))
      refine ⟨j + 1, hjl, by omega, ⟨congrArg (AV.int .i64) (by omega), trivial⟩, HLe.of_eq ?_⟩
      rw [hG2, ← hQ4]
      rfl
    · rw [stepL_all (fitE W) es j (by omega)]
      have hle : (es.map (fitE W)).length = es.length := List.length_map _
      (repeat' ((conv => whnf); first | refine Then.mk ?_ | left | refine OpsA.cons ?_ | refine OpsA.nil ?_ | refine AWq.seq ?_ | refine AWq.region ?_ | refine AWq.cond ?_ | refine AWq.block ?_ | refine AWq.skip ?_ | refine AWq.ret ?_ | refine AWq.exit ?_ | refine AWq.loop ?_ | refine DrawA.consD ?_ | refine DrawA.nil ?_ | refine AWq.draw (by decide +kernel) ?_ | (refine Both.mk ?_ ?_ <;> intro hc <;> (first | exact Bool.noConfusion hc | exact absurd (by with_reducible rfl) hc | (exfalso; omega) | skip)) | (intro c hc; (try (simp only [AH.none_iff] at hc; repeat (have hn := hc.1; replace hc := hc.2))); (first | (refine i64_k hc ?_ ?_ ?_ ; omega; omega; (clear hc; intro hc; subst hc)) | skip)) | (apply Exists.intro; apply And.intro; (first | (focus (repeat (first | (with_reducible assumption) | (with_reducible exact AH.set_same _ _ _))); done))) | (apply Exists.intro; apply And.intro; first | (with_reducible assumption) | ((try simp only [List.getElem?_drop, Nat.mul_one, Nat.add_zero, Nat.zero_add]); first | (with_reducible assumption) | rfl)) | (apply And.intro; (first | rfl | (with_reducible assumption) | exact Nat.le_of_ble_eq_true rfl | omega | (simp <;> omega))))) <;> (try (conv => whnf))
      refine AWp_loop (σ := Nat × (Nat → Bool)) (14 :: 71 :: 72 :: 73 :: 74 :: 75 :: 76 :: 77 :: 78 :: 79 :: 80 :: 81 :: 82 :: 83 :: 84 :: 85 :: 86 :: 87 :: 88 :: 89 :: 90 :: 91 :: 92 :: 93 :: 94 :: 95 :: []) (fun s => [(14, .int .i64 s.1)]) (fun s => (twoH H0 r1 u1 r2 u2 (es.map (fitE W)) (stepL (fitF W) fs s.1)).set q (.row (qL i s.2) 0)) (fun s => s.1 ≤ fs.length ∧ Kn es fs s.2) (fun s => fs.length - s.1) (0, fun _ => false) rfl ⟨Nat.zero_le _, fun P _ _ v hv => Bool.noConfusion hv⟩ ⟨rfl, trivial⟩ (HLe.of_eq (by rw [stepL_0])) ?_
      rintro ⟨m, b⟩ ⟨hm, hb⟩
      refine AWp.of tt_ok (dok _) rfl ?_
      dsimp only at hm hb ⊢
      by_cases hml : m < fs.length
      · obtain ⟨x, hx⟩ : ∃ x, fs[m]? = some x := ⟨_, List.getElem?_eq_getElem hml⟩
        have hx1 := stepL_get (fitF W) hx
        obtain ⟨⟨w1, w4, w5⟩, w6, w7⟩ := v2 x (List.mem_of_getElem? hx)
        have gx0 : (fxL (stepL (fitF W) fs m))[(m : Int).toNat * 3]? = some (.int .i64 x.a) := fxL_get hx1 0 (by decide)
        have ga := hWg x.a.toNat (by omega)
        have ra := hWb x.a.toNat
        have hll : (fxL (stepL (fitF W) fs m)).length = fs.length * 3 := by rw [fxL_len, stepL_len]
        have hlo := fxL_one (stepL (fitF W) fs m)
        have hw := fxL_wrZ (b := fitF W x) hx1 (j := 1) (a := .int .i64 (W x.a.toNat)) (by decide) rfl
        rw [stepL_set (fitF W) hx] at hw
        have gx0' : (fxL (stepL (fitF W) fs (m + 1)))[(m : Int).toNat * 3]? = some (.int .i64 x.a) := by
          refine fxL_get (l := stepL (fitF W) fs (m + 1)) (i := m) (x := fitF W x) ?_ 0 (by decide)
          rw [← stepL_set (fitF W) hx, List.getElem?_set_self (by rw [stepL_len]; exact hml)]
        have hll' : (fxL (stepL (fitF W) fs (m + 1))).length = fs.length * 3 := by rw [fxL_len, stepL_len]
        have hQ2 := Q2 (es.map (fitE W)) (stepL (fitF W) fs m) b
        have hQ3 := Q3 (es.map (fitE W)) (stepL (fitF W) fs m) (stepL (fitF W) fs (m + 1)) b
        have hQ2' := Q2 (es.map (fitE W)) (stepL (fitF W) fs (m + 1)) b
        have hQ5 := Q5 (es.map (fitE W)) (stepL (fitF W) fs (m + 1)) b
        have hqw := qL_wr b (show x.a.toNat < i by omega)
        have hQ6 : ((twoH H0 r1 u1 r2 u2 (es.map (fitE W)) (stepL (fitF W) fs (m + 1))).set q (.row (qL i b) 0)).set q (.row (wrA (qL i b) (0 + x.a.toNat * 1) [.bool true]) 0) = (twoH H0 r1 u1 r2 u2 (es.map (fitE W)) (stepL (fitF W) fs (m + 1))).set q (.row (qL i (putB b x.a.toNat)) 0) := by rw [hqw]; exact Q6 _ _ _ _
        have hkn := hb.fx (List.mem_of_getElem? hx)
        rw [← hw] at hQ3
        have hqll := qL_len i b
        clear hw hb
        generalize fxL (stepL (fitF W) fs m) = R at *
        generalize fxL (stepL (fitF W) fs (m + 1)) = R' at *
        generalize (twoH H0 r1 u1 r2 u2 (es.map (fitE W)) (stepL (fitF W) fs m)).set q (.row (qL i b) 0) = G1 at *
        generalize hG2 : (twoH H0 r1 u1 r2 u2 (es.map (fitE W)) (stepL (fitF W) fs (m + 1))).set q (.row (qL i b) 0) = G2 at *
        (iterate 2 ((repeat' ((conv => whnf); first | left | refine OpsA.cons ?_ | refine OpsA.nil ?_ | refine AWq.seq ?_ | refine AWq.region ?_ | refine AWq.cond ?_ | refine AWq.block ?_ | refine AWq.skip ?_ | refine AWq.ret ?_ | refine AWq.exit ?_ | refine AWq.loop ?_ | refine DrawA.consD ?_ | refine DrawA.nil ?_ | refine AWq.draw (by decide +kernel) ?_ | (refine Both.mk ?_ ?_ <;> intro hc <;> (first | exact Bool.noConfusion hc | exact absurd (by with_reducible rfl) hc | (exfalso; omega) | skip)) | (intro c hc; (try (simp only [AH.none_iff] at hc; repeat (have hn := hc.1; replace hc := hc.2))); (first | (refine i64_k hc ?_ ?_ ?_ ; omega; omega; (clear hc; intro hc; subst hc)) | skip)) | (apply Exists.intro; apply And.intro; (first | (focus (repeat (first | (with_reducible assumption) | (with_reducible exact AH.set_same _ _ _))); done))) | (apply Exists.intro; apply And.intro; first | (with_reducible assumption) | ((try simp only [List.getElem?_drop, Nat.mul_one, Nat.add_zero, Nat.zero_add]); first | (with_reducible assumption) | rfl)) | (apply And.intro; (first | rfl | (with_reducible assumption) | exact Nat.le_of_ble_eq_true rfl | omega | (simp <;> omega))))) <;> (try (conv => whnf)); refine Then.mk ?_))
        (repeat' ((conv => whnf); first | left | refine OpsA.cons ?_ | refine OpsA.nil ?_ | refine AWq.seq ?_ | refine AWq.region ?_ | refine AWq.cond ?_ | refine AWq.block ?_ | refine AWq.skip ?_ | refine AWq.ret ?_ | refine AWq.exit ?_ | refine AWq.loop ?_ | refine DrawA.consD ?_ | refine DrawA.nil ?_ | refine AWq.draw (by decide +kernel) ?_ | (refine Both.mk ?_ ?_ <;> intro hc <;> (first | exact Bool.noConfusion hc | exact absurd (by with_reducible rfl) hc | (exfalso; omega) | skip)) | (intro c hc; (try (simp only [AH.none_iff] at hc; repeat (have hn := hc.1; replace hc := hc.2))); (first | (refine i64_k hc ?_ ?_ ?_ ; omega; omega; (clear hc; intro hc; subst hc)) | skip)) | (apply Exists.intro; apply And.intro; (first | (focus (repeat (first | (with_reducible assumption) | (with_reducible exact AH.set_same _ _ _))); done))) | (apply Exists.intro; apply And.intro; first | (with_reducible assumption) | ((try simp only [List.getElem?_drop, Nat.mul_one, Nat.add_zero, Nat.zero_add]); first | (with_reducible assumption) | rfl)) | (apply And.intro; (first | rfl | (with_reducible assumption) | exact Nat.le_of_ble_eq_true rfl | omega | (simp <;> omega))))) <;> (try (conv => whnf))
        refine Then.mk (AWq.in ?_)
        refine AWp_less G2 (HLe.of_eq hQ3.symm) ?_
        refine AWp.of tt_ok (dok _) rfl ?_
        (repeat' ((conv => whnf); first | refine Then.mk ?_ | left | refine OpsA.cons ?_ | refine OpsA.nil ?_ | refine AWq.seq ?_ | refine AWq.region ?_ | refine AWq.cond ?_ | refine AWq.block ?_ | refine AWq.skip ?_ | refine AWq.ret ?_ | refine AWq.exit ?_ | refine AWq.loop ?_ | refine DrawA.consD ?_ | refine DrawA.nil ?_ | refine AWq.draw (by decide +kernel) ?_ | (refine Both.mk ?_ ?_ <;> intro hc <;> (first | exact Bool.noConfusion hc | exact absurd (by with_reducible rfl) hc | (exfalso; omega) | skip)) | (intro c hc; (try (simp only [AH.none_iff] at hc; repeat (have hn := hc.1; replace hc := hc.2))); (first | (refine i64_k hc ?_ ?_ ?_ ; omega; omega; (clear hc; intro hc; subst hc)) | skip)) | (apply Exists.intro; apply And.intro; (first | (focus (repeat (first | (with_reducible assumption) | (with_reducible exact AH.set_same _ _ _))); done))) | (apply Exists.intro; apply And.intro; first | (with_reducible assumption) | ((try simp only [List.getElem?_drop, Nat.mul_one, Nat.add_zero, Nat.zero_add]); first | (with_reducible assumption) | rfl)) | (apply And.intro; (first | rfl | (with_reducible assumption) | exact Nat.le_of_ble_eq_true rfl | omega | (simp <;> omega))))) <;> (try (conv => whnf))
        refine ⟨(m + 1, putB b x.a.toNat), ⟨hml, hkn⟩, by dsimp only; omega, ⟨congrArg (AV.int .i64) (by dsimp only; omega), trivial⟩, HLe.of_eq ?_⟩
        exact hQ6.symm
      · rw [stepL_all (fitF W) fs m (by omega)]
        have hlf : (fs.map (fitF W)).length = fs.length := List.length_map _
        have hdrop : ∀ b, HLe (AH.set H0 q (.row (qL i b) 0)) (((twoH H0 r1 u1 r2 u2 (es.map (fitE W)) (fs.map (fitF W))).set q (.row (qL i b) 0))) := fun b => HLe.set (HLe.set_of _ _ (HLe.fresh _ hr1') hr2') _ _
        have hn1 : ∀ b, (AH.set H0 q (.row (qL i b) 0)) r1 = none := fun b => by rw [AH.set_ne _ _ (Ne.symm hqr.2.1)]; exact hr1'
        have hn2 : ∀ b, (AH.set H0 q (.row (qL i b) 0)) r2 = none := fun b => by rw [AH.set_ne _ _ (Ne.symm hqr.2.2)]; exact hr2'
        have hvz : validV i (es.map (fitE W)) (fs.map (fitF W)) = 0 := valid0 (by omega) (by omega) (by omega) (fun y hy => by
          obtain ⟨x, hx, rfl⟩ := List.mem_map.1 hy
          obtain ⟨⟨w1, w2, w3, w4, w5⟩, w6, w7⟩ := v1 x hx
          have ra := hWb x.a.toNat
          have rb := hWb x.b.toNat
          exact ⟨w1, w2, w3, by show -65535 ≤ W x.a.toNat - W x.b.toNat ∧ W x.a.toNat - W x.b.toNat ≤ 65535; omega, w5⟩) (fun y hy => by
          obtain ⟨x, hx, rfl⟩ := List.mem_map.1 hy
          obtain ⟨⟨w1, w4, w5⟩, w6, w7⟩ := v2 x hx
          have ra := hWb x.a.toNat
          exact ⟨w1, by show -65535 ≤ W x.a.toNat ∧ W x.a.toNat ≤ 65535; omega, w5⟩)
        have hel := edL_len (es.map (fitE W))
        have heo := edL_one (es.map (fitE W))
        have hq1 := Q1 (es.map (fitE W)) (fs.map (fitF W)) b
        have hq2 := Q2 (es.map (fitE W)) (fs.map (fitF W)) b
        have hd := hdrop b
        generalize (twoH H0 r1 u1 r2 u2 (es.map (fitE W)) (fs.map (fitF W))).set q (.row (qL i b) 0) = G1 at *
        (iterate 3 ((repeat' ((conv => whnf); first | left | refine OpsA.cons ?_ | refine OpsA.nil ?_ | refine AWq.seq ?_ | refine AWq.region ?_ | refine AWq.cond ?_ | refine AWq.block ?_ | refine AWq.skip ?_ | refine AWq.ret ?_ | refine AWq.exit ?_ | refine AWq.loop ?_ | refine DrawA.consD ?_ | refine DrawA.nil ?_ | refine AWq.draw (by decide +kernel) ?_ | (refine Both.mk ?_ ?_ <;> intro hc <;> (first | exact Bool.noConfusion hc | exact absurd (by with_reducible rfl) hc | (exfalso; omega) | skip)) | (intro c hc; (try (simp only [AH.none_iff] at hc; repeat (have hn := hc.1; replace hc := hc.2))); (first | (refine i64_k hc ?_ ?_ ?_ ; omega; omega; (clear hc; intro hc; subst hc)) | skip)) | (apply Exists.intro; apply And.intro; (first | (focus (repeat (first | (with_reducible assumption) | (with_reducible exact AH.set_same _ _ _))); done))) | (apply Exists.intro; apply And.intro; first | (with_reducible assumption) | ((try simp only [List.getElem?_drop, Nat.mul_one, Nat.add_zero, Nat.zero_add]); first | (with_reducible assumption) | rfl)) | (apply And.intro; (first | rfl | (with_reducible assumption) | exact Nat.le_of_ble_eq_true rfl | omega | (simp <;> omega))))) <;> (try (conv => whnf)); refine Then.mk ?_))
        refine AWq.in ?_
        refine AWp_freeze1 8 (r := r1) (v := u1) (es := 4) (n := es.length) (lim := none) (cells := edL (es.map (fitE W))) rfl rfl hq1 (by rw [hel, hle]) ?_
        refine AWp_freeze1 9 (r := r2) (v := u2) (es := 3) (n := fs.length) (lim := none) (cells := fxL (fs.map (fitF W))) rfl rfl (by rw [AH.del_ne _ (Ne.symm hne)]; exact hq2) (by rw [fxL_len, hlf]) ?_
        refine AWp_less (AH.set H0 q (.row (qL i b) 0)) (HLe.del _ (HLe.del _ hd (hn1 b)) (hn2 b)) ?_
        refine AWp.of tt_ok (dok _) rfl ?_
        have hl1 : (es.map (fitE W)).length = es.length := hle
        obtain ⟨E', hE'⟩ : ∃ E', E' = es.map (fitE W) := ⟨_, rfl⟩
        obtain ⟨F', hF'⟩ : ∃ F', F' = fs.map (fitF W) := ⟨_, rfl⟩
        rw [← hE', ← hF']
        have hE'l : E'.length = es.length := by rw [hE']; exact hle
        have hF'l : F'.length = fs.length := by rw [hF']; exact hlf
        have hE'g : ∀ k x, es[k]? = some x → E'[k]? = some (fitE W x) := fun k x hk => by rw [hE', List.getElem?_map, hk]; rfl
        rw [← hE'] at hel heo
        clear hd hq1 hq2 hdrop hn1 hn2 T1 T2 T3 T4 T5 Q1 Q2 Q3 Q4 Q5 Q6
        (repeat' ((conv => whnf); first | refine Then.mk ?_ | left | refine OpsA.cons ?_ | refine OpsA.nil ?_ | refine AWq.seq ?_ | refine AWq.region ?_ | refine AWq.cond ?_ | refine AWq.block ?_ | refine AWq.skip ?_ | refine AWq.ret ?_ | refine AWq.exit ?_ | refine AWq.loop ?_ | refine DrawA.consD ?_ | refine DrawA.nil ?_ | refine AWq.draw (by decide +kernel) ?_ | (refine Both.mk ?_ ?_ <;> intro hc <;> (first | exact Bool.noConfusion hc | exact absurd (by with_reducible rfl) hc | (exfalso; omega) | skip)) | (intro c hc; (try (simp only [AH.none_iff] at hc; repeat (have hn := hc.1; replace hc := hc.2))); (first | (refine i64_k hc ?_ ?_ ?_ ; omega; omega; (clear hc; intro hc; subst hc)) | skip)) | (apply Exists.intro; apply And.intro; (first | (focus (repeat (first | (with_reducible assumption) | (with_reducible exact AH.set_same _ _ _))); done))) | (apply Exists.intro; apply And.intro; first | (with_reducible assumption) | ((try simp only [List.getElem?_drop, Nat.mul_one, Nat.add_zero, Nat.zero_add]); first | (with_reducible assumption) | rfl)) | (apply And.intro; (first | rfl | (with_reducible assumption) | exact Nat.le_of_ble_eq_true rfl | omega | (simp <;> omega))))) <;> (try (conv => whnf))
        refine AWp_loop (σ := Nat × (Nat → Bool)) (15 :: 16 :: 96 :: 97 :: 98 :: 99 :: 100 :: 101 :: 102 :: 103 :: 104 :: 105 :: 106 :: 107 :: 108 :: 109 :: 110 :: 111 :: 112 :: 113 :: 114 :: 115 :: 116 :: 117 :: 118 :: 119 :: 120 :: 121 :: 122 :: 123 :: 124 :: 125 :: 126 :: 127 :: 128 :: 129 :: 130 :: 131 :: 132 :: 133 :: 134 :: 135 :: 136 :: 137 :: 138 :: []) (fun s => [(15, .int .i64 s.1)]) (fun s => AH.set H0 q (.row (qL i s.2) 0)) (fun s => s.1 ≤ i ∧ Kn es fs s.2) (fun s => i - s.1) (0, b) rfl ⟨Nat.zero_le _, hb⟩ ⟨rfl, trivial⟩ (HLe.refl _) ?_
        clear hb
        rintro ⟨k, b0⟩ ⟨hk, hb0⟩
        refine AWp.of tt_ok (dok _) rfl ?_
        dsimp only at hk hb0 ⊢
        by_cases hkl : k < i
        · (repeat' ((conv => whnf); first | refine Then.mk ?_ | left | refine OpsA.cons ?_ | refine OpsA.nil ?_ | refine AWq.seq ?_ | refine AWq.region ?_ | refine AWq.cond ?_ | refine AWq.block ?_ | refine AWq.skip ?_ | refine AWq.ret ?_ | refine AWq.exit ?_ | refine AWq.loop ?_ | refine DrawA.consD ?_ | refine DrawA.nil ?_ | refine AWq.draw (by decide +kernel) ?_ | (refine Both.mk ?_ ?_ <;> intro hc <;> (first | exact Bool.noConfusion hc | exact absurd (by with_reducible rfl) hc | (exfalso; omega) | skip)) | (intro c hc; (try (simp only [AH.none_iff] at hc; repeat (have hn := hc.1; replace hc := hc.2))); (first | (refine i64_k hc ?_ ?_ ?_ ; omega; omega; (clear hc; intro hc; subst hc)) | skip)) | (apply Exists.intro; apply And.intro; (first | (focus (repeat (first | (with_reducible assumption) | (with_reducible exact AH.set_same _ _ _))); done))) | (apply Exists.intro; apply And.intro; first | (with_reducible assumption) | ((try simp only [List.getElem?_drop, Nat.mul_one, Nat.add_zero, Nat.zero_add]); first | (with_reducible assumption) | rfl)) | (apply And.intro; (first | rfl | (with_reducible assumption) | exact Nat.le_of_ble_eq_true rfl | omega | (simp <;> omega))))) <;> (try (conv => whnf))
          refine AWp_loop (σ := Nat × (Nat → Bool)) (16 :: 101 :: 102 :: 103 :: 104 :: 105 :: 106 :: 107 :: 108 :: 109 :: 110 :: 111 :: 112 :: 113 :: 114 :: 115 :: 116 :: 117 :: 118 :: 119 :: 120 :: 121 :: 122 :: 123 :: 124 :: 125 :: 126 :: 127 :: 128 :: 129 :: 130 :: 131 :: 132 :: 133 :: 134 :: 135 :: 136 :: 137 :: 138 :: []) (fun s => [(16, .int .i64 s.1)]) (fun s => AH.set H0 q (.row (qL i s.2) 0)) (fun s => s.1 ≤ es.length ∧ Kn es fs s.2) (fun s => es.length - s.1) (0, b0) rfl ⟨Nat.zero_le _, hb0⟩ ⟨rfl, trivial⟩ (HLe.refl _) ?_
          rintro ⟨j, b⟩ ⟨hj, hb⟩
          refine AWp.of tt_ok (dok _) rfl ?_
          dsimp only at hj hb ⊢
          by_cases hjl : j < es.length
          · obtain ⟨x, hx⟩ : ∃ x, es[j]? = some x := ⟨_, List.getElem?_eq_getElem hjl⟩
            have hxm := List.mem_of_getElem? hx
            obtain ⟨⟨w1, w2, w3, w4, w5⟩, w6, w7⟩ := v1 x hxm
            have ga : (edL E')[(j : Int).toNat * 4]? = some (.int .i64 x.a) := edL_get (hE'g _ _ hx) 0 (by decide)
            have gb : (edL E')[(j : Int).toNat * 4 + 1]? = some (.int .i64 x.b) := edL_get (hE'g _ _ hx) 1 (by decide)
            have qa := qL_get b (show x.a.toNat < i by omega)
            have qb := qL_get b (show x.b.toNat < i by omega)
            have hql := qL_len i b
            have y1 := qL_wr b (show x.a.toNat < i by omega)
            have y2 := qL_wr (putB b x.a.toNat) (show x.b.toNat < i by omega)
            have hfin : ((AH.set H0 q (.row (qL i b) 0)).set q (.row (wrA (qL i b) (0 + x.a.toNat * 1) [.bool true]) 0)).set q (.row (wrA (wrA (qL i b) (0 + x.a.toNat * 1) [.bool true]) (0 + x.b.toNat * 1) [.bool true]) 0) = AH.set H0 q (.row (qL i (putB (putB b x.a.toNat) x.b.toNat)) 0) := by rw [AH.set_set, AH.set_set, y1, y2]
            cases h1 : b x.a.toNat with
            | false =>
              cases h2 : b x.b.toNat with
              | false =>
                rw [h1] at qa
                rw [h2] at qb
                (repeat' ((conv => whnf); first | refine Then.mk ?_ | left | refine OpsA.cons ?_ | refine OpsA.nil ?_ | refine AWq.seq ?_ | refine AWq.region ?_ | refine AWq.cond ?_ | refine AWq.block ?_ | refine AWq.skip ?_ | refine AWq.ret ?_ | refine AWq.exit ?_ | refine AWq.loop ?_ | refine DrawA.consD ?_ | refine DrawA.nil ?_ | refine AWq.draw (by decide +kernel) ?_ | (refine Both.mk ?_ ?_ <;> intro hc <;> (first | exact Bool.noConfusion hc | exact absurd (by with_reducible rfl) hc | (exfalso; omega) | skip)) | (intro c hc; (try (simp only [AH.none_iff] at hc; repeat (have hn := hc.1; replace hc := hc.2))); (first | (refine i64_k hc ?_ ?_ ?_ ; omega; omega; (clear hc; intro hc; subst hc)) | skip)) | (apply Exists.intro; apply And.intro; (first | (focus (repeat (first | (with_reducible assumption) | (with_reducible exact AH.set_same _ _ _))); done))) | (apply Exists.intro; apply And.intro; first | (with_reducible assumption) | ((try simp only [List.getElem?_drop, Nat.mul_one, Nat.add_zero, Nat.zero_add]); first | (with_reducible assumption) | rfl)) | (apply And.intro; (first | rfl | (with_reducible assumption) | exact Nat.le_of_ble_eq_true rfl | omega | (simp <;> omega))))) <;> (try (conv => whnf))
                exact ⟨(j + 1, b), ⟨hjl, hb⟩, by dsimp only; omega, ⟨congrArg (AV.int .i64) (by dsimp only; omega), trivial⟩, HLe.refl _⟩
              | true =>
                have hkn := hb.ed hxm (.inr h2)
                rw [h1] at qa
                rw [h2] at qb
                (repeat' ((conv => whnf); first | refine Then.mk ?_ | left | refine OpsA.cons ?_ | refine OpsA.nil ?_ | refine AWq.seq ?_ | refine AWq.region ?_ | refine AWq.cond ?_ | refine AWq.block ?_ | refine AWq.skip ?_ | refine AWq.ret ?_ | refine AWq.exit ?_ | refine AWq.loop ?_ | refine DrawA.consD ?_ | refine DrawA.nil ?_ | refine AWq.draw (by decide +kernel) ?_ | (refine Both.mk ?_ ?_ <;> intro hc <;> (first | exact Bool.noConfusion hc | exact absurd (by with_reducible rfl) hc | (exfalso; omega) | skip)) | (intro c hc; (try (simp only [AH.none_iff] at hc; repeat (have hn := hc.1; replace hc := hc.2))); (first | (refine i64_k hc ?_ ?_ ?_ ; omega; omega; (clear hc; intro hc; subst hc)) | skip)) | (apply Exists.intro; apply And.intro; (first | (focus (repeat (first | (with_reducible assumption) | (with_reducible exact AH.set_same _ _ _))); done))) | (apply Exists.intro; apply And.intro; first | (with_reducible assumption) | ((try simp only [List.getElem?_drop, Nat.mul_one, Nat.add_zero, Nat.zero_add]); first | (with_reducible assumption) | rfl)) | (apply And.intro; (first | rfl | (with_reducible assumption) | exact Nat.le_of_ble_eq_true rfl | omega | (simp <;> omega))))) <;> (try (conv => whnf))
                exact ⟨(j + 1, putB (putB b x.a.toNat) x.b.toNat), ⟨hjl, hkn⟩, by dsimp only; omega, ⟨congrArg (AV.int .i64) (by dsimp only; omega), trivial⟩, HLe.of_eq hfin.symm⟩
            | true =>
              have hkn := hb.ed hxm (.inl h1)
              rw [h1] at qa
              (repeat' ((conv => whnf); first | refine Then.mk ?_ | left | refine OpsA.cons ?_ | refine OpsA.nil ?_ | refine AWq.seq ?_ | refine AWq.region ?_ | refine AWq.cond ?_ | refine AWq.block ?_ | refine AWq.skip ?_ | refine AWq.ret ?_ | refine AWq.exit ?_ | refine AWq.loop ?_ | refine DrawA.consD ?_ | refine DrawA.nil ?_ | refine AWq.draw (by decide +kernel) ?_ | (refine Both.mk ?_ ?_ <;> intro hc <;> (first | exact Bool.noConfusion hc | exact absurd (by with_reducible rfl) hc | (exfalso; omega) | skip)) | (intro c hc; (try (simp only [AH.none_iff] at hc; repeat (have hn := hc.1; replace hc := hc.2))); (first | (refine i64_k hc ?_ ?_ ?_ ; omega; omega; (clear hc; intro hc; subst hc)) | skip)) | (apply Exists.intro; apply And.intro; (first | (focus (repeat (first | (with_reducible assumption) | (with_reducible exact AH.set_same _ _ _))); done))) | (apply Exists.intro; apply And.intro; first | (with_reducible assumption) | ((try simp only [List.getElem?_drop, Nat.mul_one, Nat.add_zero, Nat.zero_add]); first | (with_reducible assumption) | rfl)) | (apply And.intro; (first | rfl | (with_reducible assumption) | exact Nat.le_of_ble_eq_true rfl | omega | (simp <;> omega))))) <;> (try (conv => whnf))
              exact ⟨(j + 1, putB (putB b x.a.toNat) x.b.toNat), ⟨hjl, hkn⟩, by dsimp only; omega, ⟨congrArg (AV.int .i64) (by dsimp only; omega), trivial⟩, HLe.of_eq hfin.symm⟩
          · (repeat' ((conv => whnf); first | refine Then.mk ?_ | left | refine OpsA.cons ?_ | refine OpsA.nil ?_ | refine AWq.seq ?_ | refine AWq.region ?_ | refine AWq.cond ?_ | refine AWq.block ?_ | refine AWq.skip ?_ | refine AWq.ret ?_ | refine AWq.exit ?_ | refine AWq.loop ?_ | refine DrawA.consD ?_ | refine DrawA.nil ?_ | refine AWq.draw (by decide +kernel) ?_ | (refine Both.mk ?_ ?_ <;> intro hc <;> (first | exact Bool.noConfusion hc | exact absurd (by with_reducible rfl) hc | (exfalso; omega) | skip)) | (intro c hc; (try (simp only [AH.none_iff] at hc; repeat (have hn := hc.1; replace hc := hc.2))); (first | (refine i64_k hc ?_ ?_ ?_ ; omega; omega; (clear hc; intro hc; subst hc)) | skip)) | (apply Exists.intro; apply And.intro; (first | (focus (repeat (first | (with_reducible assumption) | (with_reducible exact AH.set_same _ _ _))); done))) | (apply Exists.intro; apply And.intro; first | (with_reducible assumption) | ((try simp only [List.getElem?_drop, Nat.mul_one, Nat.add_zero, Nat.zero_add]); first | (with_reducible assumption) | rfl)) | (apply And.intro; (first | rfl | (with_reducible assumption) | exact Nat.le_of_ble_eq_true rfl | omega | (simp <;> omega))))) <;> (try (conv => whnf))
            exact ⟨(k + 1, b), ⟨hkl, hb⟩, by dsimp only; omega, ⟨congrArg (AV.int .i64) (by dsimp only; omega), trivial⟩, HLe.refl _⟩
        · have r1' := fun H => real_c E' F' (by omega) (by omega) H
          rw [← hE', ← hF'] at hvz
          have s1' := fun H => solve_c i E' F' hvz H
          rw [hE'l, hF'l] at r1' s1'
          (repeat' ((conv => whnf); first | refine Then.mk ?_ | left | refine OpsA.cons ?_ | refine OpsA.nil ?_ | refine AWq.seq ?_ | refine AWq.region ?_ | refine AWq.cond ?_ | refine AWq.block ?_ | refine AWq.skip ?_ | refine AWq.ret ?_ | refine AWq.exit ?_ | refine AWq.loop ?_ | refine DrawA.consD ?_ | refine DrawA.nil ?_ | refine AWq.draw (by decide +kernel) ?_ | (refine Both.mk ?_ ?_ <;> intro hc <;> (first | exact Bool.noConfusion hc | exact absurd (by with_reducible rfl) hc | (exfalso; omega) | skip)) | (intro c hc; (try (simp only [AH.none_iff] at hc; repeat (have hn := hc.1; replace hc := hc.2))); (first | (refine i64_k hc ?_ ?_ ?_ ; omega; omega; (clear hc; intro hc; subst hc)) | skip)) | (apply Exists.intro; apply And.intro; (first | (focus (repeat (first | (with_reducible assumption) | (with_reducible exact AH.set_same _ _ _))); done))) | (apply Exists.intro; apply And.intro; first | (with_reducible assumption) | ((try simp only [List.getElem?_drop, Nat.mul_one, Nat.add_zero, Nat.zero_add]); first | (with_reducible assumption) | rfl)) | (apply And.intro; (first | rfl | (with_reducible assumption) | exact Nat.le_of_ble_eq_true rfl | omega | (simp <;> omega))) | (refine ACall.to (r1' _) ?_))) <;> (try (conv => whnf))
          refine ACall.mono (s1' _) ?_
          rintro y H2 ⟨A, dd, oo, hSv, rfl, rfl⟩
          obtain ⟨k1, k2, k3⟩ := fits (hE' ▸ hF' ▸ hSv) (hE' ▸ hF' ▸ hvz)
          have hkn := hb0 (fun v => offS i dd oo v = W v) k2 k3
          rw [← hE', ← hF'] at k1
          have hol : (iS .i64 (fnL i (offS i dd oo))).length = i := by simp
          have hog : ∀ v : Nat, v < i → (iS .i64 (fnL i (offS i dd oo)))[v]? = some (.int .i64 (offS i dd oo v)) := fun v hv => dL_get _ hv
          have hoo := one_iS .i64 (fnL i (offS i dd oo))
          unfold solV
          rw [k1]
          generalize iS .i64 (fnL i (offS i dd oo)) = OL at *
          generalize iS .i64 (flE E' A) = EL at *
          generalize iS .i64 (flF E' A) = FL at *
          clear hb0
          (repeat' ((conv => whnf); first | left | refine OpsA.cons ?_ | refine OpsA.nil ?_ | refine AWq.seq ?_ | refine AWq.region ?_ | refine AWq.cond ?_ | refine AWq.block ?_ | refine AWq.skip ?_ | refine AWq.ret ?_ | refine AWq.exit ?_ | refine AWq.loop ?_ | refine DrawA.consD ?_ | refine DrawA.nil ?_ | refine AWq.draw (by decide +kernel) ?_ | (refine Both.mk ?_ ?_ <;> intro hc <;> (first | exact Bool.noConfusion hc | exact absurd (by with_reducible rfl) hc | (exfalso; omega) | skip)) | (intro c hc; (try (simp only [AH.none_iff] at hc; repeat (have hn := hc.1; replace hc := hc.2))); (first | (refine i64_k hc ?_ ?_ ?_ ; omega; omega; (clear hc; intro hc; subst hc)) | skip)) | (apply Exists.intro; apply And.intro; (first | (focus (repeat (first | (with_reducible assumption) | (with_reducible exact AH.set_same _ _ _))); done))) | (apply Exists.intro; apply And.intro; first | (with_reducible assumption) | ((try simp only [List.getElem?_drop, Nat.mul_one, Nat.add_zero, Nat.zero_add]); first | (with_reducible assumption) | rfl)) | (apply And.intro; (first | rfl | (with_reducible assumption) | exact Nat.le_of_ble_eq_true rfl | omega | (simp <;> omega))))) <;> (try (conv => whnf))
          refine Then.mk (AWq.in ?_)
          refine AWp_segP 19 [.cs OL i, .cs EL E'.length, .cs FL F'.length, .int .i64 0] rfl rfl (by rw [AH.set_ne _ _ (by assumption)]; assumption) rfl rfl ?_
          refine AWp.of tt_ok (dok _) rfl ?_
          (repeat' ((conv => whnf); first | refine Then.mk ?_ | left | refine OpsA.cons ?_ | refine OpsA.nil ?_ | refine AWq.seq ?_ | refine AWq.region ?_ | refine AWq.cond ?_ | refine AWq.block ?_ | refine AWq.skip ?_ | refine AWq.ret ?_ | refine AWq.exit ?_ | refine AWq.loop ?_ | refine DrawA.consD ?_ | refine DrawA.nil ?_ | refine AWq.draw (by decide +kernel) ?_ | (refine Both.mk ?_ ?_ <;> intro hc <;> (first | exact Bool.noConfusion hc | exact absurd (by with_reducible rfl) hc | (exfalso; omega) | skip)) | (intro c hc; (try (simp only [AH.none_iff] at hc; repeat (have hn := hc.1; replace hc := hc.2))); (first | (refine i64_k hc ?_ ?_ ?_ ; omega; omega; (clear hc; intro hc; subst hc)) | skip)) | (apply Exists.intro; apply And.intro; (first | (focus (repeat (first | (with_reducible assumption) | (with_reducible exact AH.set_same _ _ _))); done))) | (apply Exists.intro; apply And.intro; first | (with_reducible assumption) | ((try simp only [List.getElem?_drop, Nat.mul_one, Nat.add_zero, Nat.zero_add]); first | (with_reducible assumption) | rfl)) | (apply And.intro; (first | rfl | (with_reducible assumption) | exact Nat.le_of_ble_eq_true rfl | omega | (simp <;> omega))))) <;> (try (conv => whnf))
          refine AWp_loop (σ := Nat) (6 :: 21 :: 166 :: 167 :: 168 :: 169 :: 170 :: 171 :: 172 :: 173 :: 174 :: 175 :: 176 :: 177 :: 178 :: 179 :: 180 :: 181 :: 182 :: 183 :: 184 :: 185 :: 186 :: []) (fun j => [(21, .int .i64 j)]) (fun j => AH.set H0 q (.row (qL i b0) 0)) (fun j => j ≤ i) (fun j => i - j) 0 rfl (Nat.zero_le _) ⟨rfl, trivial⟩ (HLe.refl _) ?_
          intro j hj
          refine AWp.of tt_ok (dok _) rfl ?_
          dsimp only at hj ⊢
          by_cases hji : j < i
          · have qj : (qL i b0)[(j : Int).toNat]? = some (.bool (b0 j)) := qL_get b0 hji
            have hql := qL_len i b0
            have gw : WL[(j : Int).toNat]? = some (.int .i64 (W j)) := hWg j hji
            have go : OL[(j : Int).toNat]? = some (.int .i64 (offS i dd oo j)) := hog j hji
            cases h1 : b0 j with
            | false =>
              rw [h1] at qj
              (repeat' ((conv => whnf); first | refine Then.mk ?_ | left | refine OpsA.cons ?_ | refine OpsA.nil ?_ | refine AWq.seq ?_ | refine AWq.region ?_ | refine AWq.cond ?_ | refine AWq.block ?_ | refine AWq.skip ?_ | refine AWq.ret ?_ | refine AWq.exit ?_ | refine AWq.loop ?_ | refine DrawA.consD ?_ | refine DrawA.nil ?_ | refine AWq.draw (by decide +kernel) ?_ | (refine Both.mk ?_ ?_ <;> intro hc <;> (first | exact Bool.noConfusion hc | exact absurd (by with_reducible rfl) hc | (exfalso; omega) | skip)) | (intro c hc; (try (simp only [AH.none_iff] at hc; repeat (have hn := hc.1; replace hc := hc.2))); (first | (refine i64_k hc ?_ ?_ ?_ ; omega; omega; (clear hc; intro hc; subst hc)) | skip)) | (apply Exists.intro; apply And.intro; (first | (focus (repeat (first | (with_reducible assumption) | (with_reducible exact AH.set_same _ _ _))); done))) | (apply Exists.intro; apply And.intro; first | (with_reducible assumption) | ((try simp only [List.getElem?_drop, Nat.mul_one, Nat.add_zero, Nat.zero_add]); first | (with_reducible assumption) | rfl)) | (apply And.intro; (first | rfl | (with_reducible assumption) | exact Nat.le_of_ble_eq_true rfl | omega | (simp <;> omega))))) <;> (try (conv => whnf))
              exact ⟨j + 1, hji, by omega, ⟨congrArg (AV.int .i64) (by omega), trivial⟩, HLe.refl _⟩
            | true =>
              rw [h1] at qj
              have hov := hkn j h1
              rw [hov] at go
              (repeat' ((conv => whnf); first | refine Then.mk ?_ | left | refine OpsA.cons ?_ | refine OpsA.nil ?_ | refine AWq.seq ?_ | refine AWq.region ?_ | refine AWq.cond ?_ | refine AWq.block ?_ | refine AWq.skip ?_ | refine AWq.ret ?_ | refine AWq.exit ?_ | refine AWq.loop ?_ | refine DrawA.consD ?_ | refine DrawA.nil ?_ | refine AWq.draw (by decide +kernel) ?_ | (refine Both.mk ?_ ?_ <;> intro hc <;> (first | exact Bool.noConfusion hc | exact absurd (by with_reducible rfl) hc | (exfalso; omega) | skip)) | (intro c hc; (try (simp only [AH.none_iff] at hc; repeat (have hn := hc.1; replace hc := hc.2))); (first | (refine i64_k hc ?_ ?_ ?_ ; omega; omega; (clear hc; intro hc; subst hc)) | skip)) | (apply Exists.intro; apply And.intro; (first | (focus (repeat (first | (with_reducible assumption) | (with_reducible exact AH.set_same _ _ _))); done))) | (apply Exists.intro; apply And.intro; first | (with_reducible assumption) | ((try simp only [List.getElem?_drop, Nat.mul_one, Nat.add_zero, Nat.zero_add]); first | (with_reducible assumption) | rfl)) | (apply And.intro; (first | rfl | (with_reducible assumption) | exact Nat.le_of_ble_eq_true rfl | omega | (simp <;> omega))))) <;> (try (conv => whnf))
              exact ⟨j + 1, hji, by omega, ⟨congrArg (AV.int .i64) (by omega), trivial⟩, HLe.refl _⟩
          · (repeat' ((conv => whnf); first | refine Then.mk ?_ | left | refine OpsA.cons ?_ | refine OpsA.nil ?_ | refine AWq.seq ?_ | refine AWq.region ?_ | refine AWq.cond ?_ | refine AWq.block ?_ | refine AWq.skip ?_ | refine AWq.ret ?_ | refine AWq.exit ?_ | refine AWq.loop ?_ | refine DrawA.consD ?_ | refine DrawA.nil ?_ | refine AWq.draw (by decide +kernel) ?_ | (refine Both.mk ?_ ?_ <;> intro hc <;> (first | exact Bool.noConfusion hc | exact absurd (by with_reducible rfl) hc | (exfalso; omega) | skip)) | (intro c hc; (try (simp only [AH.none_iff] at hc; repeat (have hn := hc.1; replace hc := hc.2))); (first | (refine i64_k hc ?_ ?_ ?_ ; omega; omega; (clear hc; intro hc; subst hc)) | skip)) | (apply Exists.intro; apply And.intro; (first | (focus (repeat (first | (with_reducible assumption) | (with_reducible exact AH.set_same _ _ _))); done))) | (apply Exists.intro; apply And.intro; first | (with_reducible assumption) | ((try simp only [List.getElem?_drop, Nat.mul_one, Nat.add_zero, Nat.zero_add]); first | (with_reducible assumption) | rfl)) | (apply And.intro; (first | rfl | (with_reducible assumption) | exact Nat.le_of_ble_eq_true rfl | omega | (simp <;> omega))) | (refine ACall.to (lives17_c _) ?_))) <;> (try (conv => whnf))
end Go.Proofs.Ytebflkgpbbjhnaa
