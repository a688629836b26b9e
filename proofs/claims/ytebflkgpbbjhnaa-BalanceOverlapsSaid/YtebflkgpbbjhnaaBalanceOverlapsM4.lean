/- For the law BalanceOverlaps, part 4 of 6: the frame of the walk, the walks of the functions, the plain law, the row. No conditions. -/
import Derived.Test.YtebflkgpbbjhnaaBalanceOverlapsM3
/- The walks of balance: costs. -/
namespace Go.Proofs.Ytebflkgpbbjhnaa
open Go.Fw Go
set_option linter.unusedVariables false
set_option linter.unusedSimpArgs false

def costE (o : Nat → Int) (x : Ed) : Int := x.w * absI (o x.a.toNat - o x.b.toNat - x.d)
def costF (o : Nat → Int) (x : Fx) : Int := x.w * absI (o x.a.toNat - x.v)
def costP (es : List Ed) (fs : List Fx) (o : Nat → Int) : Int := (es.map (costE o)).sum + (fs.map (costF o)).sum
def ofL (l : List Int) : Nat → Int := fun i => l.getD i 0
def costR (es : List Ed) (fs : List Fx) (l : List Int) : Int × Int :=
  if validV l.length es fs ≠ 0 then (0, validV l.length es fs) else if (∀ x ∈ l, -1073741824 ≤ x ∧ x ≤ 1073741824) then (costP es fs (ofL l), 0) else (0, 5)
theorem absI_bd {z b : Int} (h : -b ≤ z ∧ z ≤ b) : 0 ≤ absI z ∧ absI z ≤ b := by unfold absI; split <;> omega
theorem mul_bd {w z : Int} (hw : 1 ≤ w ∧ w ≤ 65536) (hz : 0 ≤ z ∧ z ≤ 2147549183) : 0 ≤ w * z ∧ w * z ≤ 140741783257088 := by
  refine ⟨Int.mul_nonneg (by omega) hz.1, ?_⟩
  have h1 : w * z ≤ 65536 * z := Int.mul_le_mul_of_nonneg_right hw.2 hz.1
  omega
theorem sum_bd {l : List Int} {b : Int} (h : ∀ x ∈ l, 0 ≤ x ∧ x ≤ b) : 0 ≤ l.sum ∧ l.sum ≤ b * l.length := by
  induction l with
  | nil => simp
  | cons x l ih =>
    have h1 := h x (by simp)
    have h2 := ih (fun y hy => h y (by simp [hy]))
    rw [List.sum_cons, List.length_cons]
    have : b * ((l.length + 1 : Nat) : Int) = b * (l.length : Int) + b := by rw [Int.natCast_add, Int.mul_add]; omega
    omega
theorem getD_mem {l : List Int} {i : Nat} (h : i < l.length) : l.getD i 0 ∈ l := by
  rw [List.getD_eq_getElem?_getD, List.getElem?_eq_getElem h]; exact List.getElem_mem h
theorem costE_bd {o : List Int} {x : Ed} (ho : ∀ x ∈ o, -1073741824 ≤ x ∧ x ≤ 1073741824) (h : vE o.length x) : 0 ≤ costE (ofL o) x ∧ costE (ofL o) x ≤ 140741783257088 := by
  obtain ⟨v1, v2, v3, v4, v5⟩ := h
  have h1 := ho _ (getD_mem (i := x.a.toNat) (l := o) (by omega))
  have h2 := ho _ (getD_mem (i := x.b.toNat) (l := o) (by omega))
  exact mul_bd v5 (absI_bd (by unfold ofL; omega))
theorem costF_bd {o : List Int} {x : Fx} (ho : ∀ x ∈ o, -1073741824 ≤ x ∧ x ≤ 1073741824) (h : vF o.length x) : 0 ≤ costF (ofL o) x ∧ costF (ofL o) x ≤ 140741783257088 := by
  obtain ⟨v1, v4, v5⟩ := h
  have h1 := ho _ (getD_mem (i := x.a.toNat) (l := o) (by omega))
  exact mul_bd v5 (absI_bd (by unfold ofL; omega))
theorem validV_ok {n : Int} {es : List Ed} {fs : List Fx} (h : validV n es fs = 0) : (0 ≤ n ∧ n ≤ 64) ∧ (es.length ≤ 8192 ∧ fs.length ≤ 8192) ∧ (∀ x ∈ es, vE n x) ∧ (∀ x ∈ fs, vF n x) := by
  unfold validV at h
  split at h
  · omega
  · split at h
    · omega
    · split at h
      · rename_i h1 h2 h3
        exact ⟨by omega, by omega, h3.1, h3.2⟩
      · omega
set_option maxHeartbeats 4000000 in
set_option maxRecDepth 8000 in
theorem cost_c (es : List Ed) (fs : List Fx) (o : List Int) (he : es.length ≤ 1000000000) (hf : fs.length ≤ 1000000000) (hol : o.length ≤ 1000000000) (H : AH) :
    ACall Try.prog 26 [.cs (edL es) es.length, .cs (fxL fs) fs.length, .cs (iS .i64 o) o.length] H (fun y H' => y = .tup [.int .i64 (costR es fs o).1, .int .i64 (costR es fs o).2] ∧ H' = H) := by
  have hv := fun H => valid_c o.length es fs he hf H
  have hw := fun H => within_c 1073741824 (by decide) o hol H
  unfold costR
  by_cases h0 : validV o.length es fs = 0
  · rw [if_neg (by simpa using h0)]
    rw [h0] at hv
    obtain ⟨⟨hn0, hn1⟩, ⟨he1, hf1⟩, hE, hF⟩ := validV_ok h0
    by_cases hb : ∀ x ∈ o, -1073741824 ≤ x ∧ x ≤ 1073741824
    · rw [if_pos hb]
      rw [show (o.all fun x => decide (-1073741824 ≤ x ∧ x ≤ 1073741824)) = true from List.all_eq_true.2 fun x hx => decide_eq_true (hb x hx)] at hw
      have hel := edL_len es
      have hfl := fxL_len fs
      have heo := edL_one es
      have hfo := fxL_one fs
      have hil := iS_length .i64 o
      refine ACall.back ?_
      refine ACall_of tt_ok (dok _) Try.func26 rfl (by decide) rfl ?_
      (repeat' ((conv => whnf); first | refine Then.mk ?_ | refine OpsA.cons ?_ | refine OpsA.nil ?_ | refine AWq.seq ?_ | refine AWq.region ?_ | refine AWq.cond ?_ | refine AWq.block ?_ | refine AWq.skip ?_ | refine AWq.ret ?_ | refine AWq.exit ?_ | refine AWq.loop ?_ | refine DrawA.consD ?_ | refine DrawA.nil ?_ | refine AWq.draw (by decide +kernel) ?_ | (refine Both.mk ?_ ?_ <;> intro hc <;> (first | exact Bool.noConfusion hc | exact absurd (by with_reducible rfl) hc | exact absurd (by assumption) hc | (exfalso; omega) | skip)) | (intro c hc; (try (simp only [AH.none_iff] at hc; repeat (have hn := hc.1; replace hc := hc.2))); (first | (refine i64_k hc ?_ ?_ ?_ ; omega; omega; (clear hc; intro hc; subst hc)) | skip)) | (apply Exists.intro; apply And.intro; (first | (focus (repeat (first | (with_reducible assumption) | (with_reducible exact AH.set_same _ _ _))); done))) | (apply Exists.intro; apply And.intro; first | (with_reducible assumption) | ((try simp only [List.getElem?_drop, Nat.mul_one, Nat.add_zero, Nat.zero_add]); first | (with_reducible assumption) | rfl)) | (apply And.intro; (first | rfl | (with_reducible assumption) | exact Nat.le_of_ble_eq_true rfl | omega | (simp <;> omega) | (focus (repeat' (first | (with_reducible assumption) | rfl | apply one_take | apply one_drop)); done))) | (refine ACall.to (hv _) ?_) | (refine ACall.to (hw _) ?_))) <;> (try (conv => whnf))
      refine AWp_loop (σ := Nat) (9 :: 11 :: 27 :: 28 :: 29 :: 30 :: 31 :: 32 :: 33 :: 34 :: 35 :: 36 :: 37 :: 38 :: 39 :: 40 :: 41 :: 42 :: 43 :: 44 :: 45 :: 46 :: 47 :: 48 :: 49 :: 50 :: 51 :: []) (fun i => [(27, .int .i64 i), (9, .int .i64 ((es.take i).map (costE (ofL o))).sum)]) (fun i => H) (fun i => i ≤ es.length) (fun i => es.length - i) 0 rfl (Nat.zero_le _) ⟨rfl, rfl, trivial⟩ (HLe.refl _) ?_
      intro i hi
      refine AWp.of tt_ok (dok _) rfl ?_
      dsimp only at hi ⊢
      by_cases hilt : i < es.length
      · obtain ⟨x, hx⟩ : ∃ x, es[i]? = some x := ⟨_, List.getElem?_eq_getElem hilt⟩
        have hvx := hE x (List.mem_of_getElem? hx)
        have hcb := costE_bd hb hvx
        obtain ⟨v1, v2, v3, v4, v5⟩ := hvx
        have hsb := sum_bd (l := (es.take i).map (costE (ofL o))) (b := 140741783257088) (fun z hz => by
          obtain ⟨y, hy, rfl⟩ := List.mem_map.1 hz
          exact costE_bd hb (hE y (List.mem_of_mem_take hy)))
        have hlt : (((es.take i).map (costE (ofL o))).length : Int) ≤ 8192 := by rw [List.length_map, List.length_take]; omega
        have htk : ((es.take (i + 1)).map (costE (ofL o))).sum = ((es.take i).map (costE (ofL o))).sum + costE (ofL o) x := by rw [take_snoc hx]; simp
        generalize ((es.take i).map (costE (ofL o))).sum = s at *
        have ga : (iS .i64 o)[x.a.toNat]? = some (.int .i64 (ofL o x.a.toNat)) := iS_get (by omega)
        have gb : (iS .i64 o)[x.b.toNat]? = some (.int .i64 (ofL o x.b.toNat)) := iS_get (by omega)
        have hca := hb _ (getD_mem (i := x.a.toNat) (l := o) (by omega))
        have hcb2 := hb _ (getD_mem (i := x.b.toNat) (l := o) (by omega))
        have hab := fun H => babs_c (ofL o x.a.toNat - ofL o x.b.toNat - x.d) (by unfold ofL; omega) H
        have hzb := absI_bd (z := ofL o x.a.toNat - ofL o x.b.toNat - x.d) (b := 2147549183) (by unfold ofL; omega)
        have hme : costE (ofL o) x = x.w * absI (ofL o x.a.toNat - ofL o x.b.toNat - x.d) := rfl
        rw [hme] at hcb htk
        have hca : -1073741824 ≤ ofL o x.a.toNat ∧ ofL o x.a.toNat ≤ 1073741824 := hca
        have hcb2 : -1073741824 ≤ ofL o x.b.toNat ∧ ofL o x.b.toNat ≤ 1073741824 := hcb2
        generalize ofL o x.a.toNat = oa at *
        generalize ofL o x.b.toNat = ob at *
        generalize absI (oa - ob - x.d) = z at *
        (iterate 3 ((repeat' ((conv => whnf); first | refine OpsA.cons ?_ | refine OpsA.nil ?_ | refine AWq.seq ?_ | refine AWq.region ?_ | refine AWq.cond ?_ | refine AWq.block ?_ | refine AWq.skip ?_ | refine AWq.ret ?_ | refine AWq.exit ?_ | refine AWq.loop ?_ | refine DrawA.consD ?_ | refine DrawA.nil ?_ | refine AWq.draw (by decide +kernel) ?_ | (refine Both.mk ?_ ?_ <;> intro hc <;> (first | exact Bool.noConfusion hc | exact absurd (by with_reducible rfl) hc | exact absurd (by assumption) hc | (exfalso; omega) | skip)) | (intro c hc; (try (simp only [AH.none_iff] at hc; repeat (have hn := hc.1; replace hc := hc.2))); (first | (refine i64_k hc ?_ ?_ ?_ ; omega; omega; (clear hc; intro hc; subst hc)) | skip)) | (apply Exists.intro; apply And.intro; (first | (focus (repeat (first | (with_reducible assumption) | (with_reducible exact AH.set_same _ _ _))); done))) | (apply Exists.intro; apply And.intro; first | (with_reducible assumption) | ((try simp only [List.getElem?_drop, Nat.mul_one, Nat.add_zero, Nat.zero_add]); first | (with_reducible assumption) | rfl)) | (apply And.intro; (first | rfl | (with_reducible assumption) | exact Nat.le_of_ble_eq_true rfl | omega | (simp <;> omega) | (focus (repeat' (first | (with_reducible assumption) | rfl | apply one_take | apply one_drop)); done))))) <;> (try (conv => whnf)); refine Then.mk ?_))
        refine AWq.in ?_
        refine AWp_segP 11 (edA x) rfl rfl (by (first | assumption | (simp only [AH.none_iff]; (repeat' (first | assumption | (refine And.intro ?_ ?_)))))) (edL_seg hx) rfl ?_
        refine AWp.of tt_ok (dok _) rfl ?_
        (repeat' ((conv => whnf); first | refine Then.mk ?_ | refine OpsA.cons ?_ | refine OpsA.nil ?_ | refine AWq.seq ?_ | refine AWq.region ?_ | refine AWq.cond ?_ | refine AWq.block ?_ | refine AWq.skip ?_ | refine AWq.ret ?_ | refine AWq.exit ?_ | refine AWq.loop ?_ | refine DrawA.consD ?_ | refine DrawA.nil ?_ | refine AWq.draw (by decide +kernel) ?_ | (apply Exists.intro; apply And.intro; exact hab _) | (refine Both.mk ?_ ?_ <;> intro hc <;> (first | exact Bool.noConfusion hc | exact absurd (by with_reducible rfl) hc | exact absurd (by assumption) hc | (exfalso; omega) | skip)) | (intro c hc; (try (simp only [AH.none_iff] at hc; repeat (have hn := hc.1; replace hc := hc.2))); (first | (refine i64_k hc ?_ ?_ ?_ ; omega; omega; (clear hc; intro hc; subst hc)) | skip)) | (apply Exists.intro; apply And.intro; (first | (focus (repeat (first | (with_reducible assumption) | (with_reducible exact AH.set_same _ _ _))); done))) | (apply Exists.intro; apply And.intro; first | (with_reducible assumption) | ((try simp only [List.getElem?_drop, Nat.mul_one, Nat.add_zero, Nat.zero_add]); first | (with_reducible assumption) | rfl)) | (apply And.intro; (first | rfl | (with_reducible assumption) | exact Nat.le_of_ble_eq_true rfl | omega | (simp <;> omega) | (focus (repeat' (first | (with_reducible assumption) | rfl | apply one_take | apply one_drop)); done))))) <;> (try (conv => whnf))
        exact ⟨i + 1, hilt, by omega, ⟨congrArg (AV.int .i64) (by omega), congrArg (AV.int .i64) htk.symm, trivial⟩, HLe.refl _⟩
      · have hte : (es.take i).map (costE (ofL o)) = es.map (costE (ofL o)) := by rw [List.take_of_length_le (by omega)]
        have hsE := sum_bd (l := es.map (costE (ofL o))) (b := 140741783257088) (fun z hz => by
          obtain ⟨y, hy, rfl⟩ := List.mem_map.1 hz
          exact costE_bd hb (hE y hy))
        rw [List.length_map] at hsE
        rw [hte]
        unfold costP
        generalize hSE : (es.map (costE (ofL o))).sum = S at *
        (repeat' ((conv => whnf); first | refine Then.mk ?_ | refine OpsA.cons ?_ | refine OpsA.nil ?_ | refine AWq.seq ?_ | refine AWq.region ?_ | refine AWq.cond ?_ | refine AWq.block ?_ | refine AWq.skip ?_ | refine AWq.ret ?_ | refine AWq.exit ?_ | refine AWq.loop ?_ | refine DrawA.consD ?_ | refine DrawA.nil ?_ | refine AWq.draw (by decide +kernel) ?_ | (refine Both.mk ?_ ?_ <;> intro hc <;> (first | exact Bool.noConfusion hc | exact absurd (by with_reducible rfl) hc | exact absurd (by assumption) hc | (exfalso; omega) | skip)) | (intro c hc; (try (simp only [AH.none_iff] at hc; repeat (have hn := hc.1; replace hc := hc.2))); (first | (refine i64_k hc ?_ ?_ ?_ ; omega; omega; (clear hc; intro hc; subst hc)) | skip)) | (apply Exists.intro; apply And.intro; (first | (focus (repeat (first | (with_reducible assumption) | (with_reducible exact AH.set_same _ _ _))); done))) | (apply Exists.intro; apply And.intro; first | (with_reducible assumption) | ((try simp only [List.getElem?_drop, Nat.mul_one, Nat.add_zero, Nat.zero_add]); first | (with_reducible assumption) | rfl)) | (apply And.intro; (first | rfl | (with_reducible assumption) | exact Nat.le_of_ble_eq_true rfl | omega | (simp <;> omega) | (focus (repeat' (first | (with_reducible assumption) | rfl | apply one_take | apply one_drop)); done))))) <;> (try (conv => whnf))
        refine AWp_loop (σ := Nat) (9 :: 13 :: 54 :: 55 :: 56 :: 57 :: 58 :: 59 :: 60 :: 61 :: 62 :: 63 :: 64 :: 65 :: 66 :: 67 :: 68 :: 69 :: 70 :: 71 :: 72 :: []) (fun j => [(54, .int .i64 j), (9, .int .i64 (S + ((fs.take j).map (costF (ofL o))).sum))]) (fun j => H) (fun j => j ≤ fs.length) (fun j => fs.length - j) 0 rfl (Nat.zero_le _) ⟨rfl, congrArg (AV.int .i64) (by simp), trivial⟩ (HLe.refl _) ?_
        intro j hj
        refine AWp.of tt_ok (dok _) rfl ?_
        dsimp only at hj ⊢
        by_cases hjlt : j < fs.length
        · obtain ⟨x, hx⟩ : ∃ x, fs[j]? = some x := ⟨_, List.getElem?_eq_getElem hjlt⟩
          have hvx := hF x (List.mem_of_getElem? hx)
          have hcb := costF_bd hb hvx
          obtain ⟨v1, v4, v5⟩ := hvx
          have hsb := sum_bd (l := (fs.take j).map (costF (ofL o))) (b := 140741783257088) (fun z hz => by
            obtain ⟨y, hy, rfl⟩ := List.mem_map.1 hz
            exact costF_bd hb (hF y (List.mem_of_mem_take hy)))
          have hlt : (((fs.take j).map (costF (ofL o))).length : Int) ≤ 8192 := by rw [List.length_map, List.length_take]; omega
          have htk : ((fs.take (j + 1)).map (costF (ofL o))).sum = ((fs.take j).map (costF (ofL o))).sum + costF (ofL o) x := by rw [take_snoc hx]; simp
          generalize ((fs.take j).map (costF (ofL o))).sum = s at *
          have ga : (iS .i64 o)[x.a.toNat]? = some (.int .i64 (ofL o x.a.toNat)) := iS_get (by omega)
          have hca := hb _ (getD_mem (i := x.a.toNat) (l := o) (by omega))
          have hab := fun H => babs_c (ofL o x.a.toNat - x.v) (by unfold ofL; omega) H
          have hzb := absI_bd (z := ofL o x.a.toNat - x.v) (b := 2147549183) (by unfold ofL; omega)
          have hme : costF (ofL o) x = x.w * absI (ofL o x.a.toNat - x.v) := rfl
          rw [hme] at hcb htk
          have hca : -1073741824 ≤ ofL o x.a.toNat ∧ ofL o x.a.toNat ≤ 1073741824 := hca
          generalize ofL o x.a.toNat = oa at *
          generalize absI (oa - x.v) = z at *
          (iterate 3 ((repeat' ((conv => whnf); first | refine OpsA.cons ?_ | refine OpsA.nil ?_ | refine AWq.seq ?_ | refine AWq.region ?_ | refine AWq.cond ?_ | refine AWq.block ?_ | refine AWq.skip ?_ | refine AWq.ret ?_ | refine AWq.exit ?_ | refine AWq.loop ?_ | refine DrawA.consD ?_ | refine DrawA.nil ?_ | refine AWq.draw (by decide +kernel) ?_ | (refine Both.mk ?_ ?_ <;> intro hc <;> (first | exact Bool.noConfusion hc | exact absurd (by with_reducible rfl) hc | exact absurd (by assumption) hc | (exfalso; omega) | skip)) | (intro c hc; (try (simp only [AH.none_iff] at hc; repeat (have hn := hc.1; replace hc := hc.2))); (first | (refine i64_k hc ?_ ?_ ?_ ; omega; omega; (clear hc; intro hc; subst hc)) | skip)) | (apply Exists.intro; apply And.intro; (first | (focus (repeat (first | (with_reducible assumption) | (with_reducible exact AH.set_same _ _ _))); done))) | (apply Exists.intro; apply And.intro; first | (with_reducible assumption) | ((try simp only [List.getElem?_drop, Nat.mul_one, Nat.add_zero, Nat.zero_add]); first | (with_reducible assumption) | rfl)) | (apply And.intro; (first | rfl | (with_reducible assumption) | exact Nat.le_of_ble_eq_true rfl | omega | (simp <;> omega) | (focus (repeat' (first | (with_reducible assumption) | rfl | apply one_take | apply one_drop)); done))))) <;> (try (conv => whnf)); refine Then.mk ?_))
          refine AWq.in ?_
          refine AWp_segP 13 (fxA x) rfl rfl (by (first | assumption | (simp only [AH.none_iff]; (repeat' (first | assumption | (refine And.intro ?_ ?_)))))) (fxL_seg hx) rfl ?_
          refine AWp.of tt_ok (dok _) rfl ?_
          (repeat' ((conv => whnf); first | refine Then.mk ?_ | refine OpsA.cons ?_ | refine OpsA.nil ?_ | refine AWq.seq ?_ | refine AWq.region ?_ | refine AWq.cond ?_ | refine AWq.block ?_ | refine AWq.skip ?_ | refine AWq.ret ?_ | refine AWq.exit ?_ | refine AWq.loop ?_ | refine DrawA.consD ?_ | refine DrawA.nil ?_ | refine AWq.draw (by decide +kernel) ?_ | (apply Exists.intro; apply And.intro; exact hab _) | (refine Both.mk ?_ ?_ <;> intro hc <;> (first | exact Bool.noConfusion hc | exact absurd (by with_reducible rfl) hc | exact absurd (by assumption) hc | (exfalso; omega) | skip)) | (intro c hc; (try (simp only [AH.none_iff] at hc; repeat (have hn := hc.1; replace hc := hc.2))); (first | (refine i64_k hc ?_ ?_ ?_ ; omega; omega; (clear hc; intro hc; subst hc)) | skip)) | (apply Exists.intro; apply And.intro; (first | (focus (repeat (first | (with_reducible assumption) | (with_reducible exact AH.set_same _ _ _))); done))) | (apply Exists.intro; apply And.intro; first | (with_reducible assumption) | ((try simp only [List.getElem?_drop, Nat.mul_one, Nat.add_zero, Nat.zero_add]); first | (with_reducible assumption) | rfl)) | (apply And.intro; (first | rfl | (with_reducible assumption) | exact Nat.le_of_ble_eq_true rfl | omega | (simp <;> omega) | (focus (repeat' (first | (with_reducible assumption) | rfl | apply one_take | apply one_drop)); done))))) <;> (try (conv => whnf))
          exact ⟨j + 1, hjlt, by omega, ⟨congrArg (AV.int .i64) (by omega), congrArg (AV.int .i64) (by rw [htk]; omega), trivial⟩, HLe.refl _⟩
        · have hte2 : (fs.take j).map (costF (ofL o)) = fs.map (costF (ofL o)) := by rw [List.take_of_length_le (by omega)]
          rw [hte2]
          (repeat' ((conv => whnf); first | refine Then.mk ?_ | refine OpsA.cons ?_ | refine OpsA.nil ?_ | refine AWq.seq ?_ | refine AWq.region ?_ | refine AWq.cond ?_ | refine AWq.block ?_ | refine AWq.skip ?_ | refine AWq.ret ?_ | refine AWq.exit ?_ | refine AWq.loop ?_ | refine DrawA.consD ?_ | refine DrawA.nil ?_ | refine AWq.draw (by decide +kernel) ?_ | (refine Both.mk ?_ ?_ <;> intro hc <;> (first | exact Bool.noConfusion hc | exact absurd (by with_reducible rfl) hc | exact absurd (by assumption) hc | (exfalso; omega) | skip)) | (intro c hc; (try (simp only [AH.none_iff] at hc; repeat (have hn := hc.1; replace hc := hc.2))); (first | (refine i64_k hc ?_ ?_ ?_ ; omega; omega; (clear hc; intro hc; subst hc)) | skip)) | (apply Exists.intro; apply And.intro; (first | (focus (repeat (first | (with_reducible assumption) | (with_reducible exact AH.set_same _ _ _))); done))) | (apply Exists.intro; apply And.intro; first | (with_reducible assumption) | ((try simp only [List.getElem?_drop, Nat.mul_one, Nat.add_zero, Nat.zero_add]); first | (with_reducible assumption) | rfl)) | (apply And.intro; (first | rfl | (with_reducible assumption) | exact Nat.le_of_ble_eq_true rfl | omega | (simp <;> omega) | (focus (repeat' (first | (with_reducible assumption) | rfl | apply one_take | apply one_drop)); done))))) <;> (try (conv => whnf))
          exact HLe.refl _
    · rw [if_neg hb]
      have hex : (o.all fun x => decide (-1073741824 ≤ x ∧ x ≤ 1073741824)) = false := by
        cases hx : o.all fun x => decide (-1073741824 ≤ x ∧ x ≤ 1073741824) with
        | false => rfl
        | true => exact absurd (fun x hm => of_decide_eq_true (List.all_eq_true.1 hx x hm)) hb
      rw [hex] at hw
      refine ACall_of tt_ok (dok _) Try.func26 rfl (by decide) rfl ?_
      (repeat' ((conv => whnf); first | refine Then.mk ?_ | refine OpsA.cons ?_ | refine OpsA.nil ?_ | refine AWq.seq ?_ | refine AWq.region ?_ | refine AWq.cond ?_ | refine AWq.block ?_ | refine AWq.skip ?_ | refine AWq.ret ?_ | refine AWq.exit ?_ | refine AWq.loop ?_ | refine DrawA.consD ?_ | refine DrawA.nil ?_ | refine AWq.draw (by decide +kernel) ?_ | (refine Both.mk ?_ ?_ <;> intro hc <;> (first | exact Bool.noConfusion hc | exact absurd (by with_reducible rfl) hc | exact absurd (by assumption) hc | (exfalso; omega) | skip)) | (intro c hc; (try (simp only [AH.none_iff] at hc; repeat (have hn := hc.1; replace hc := hc.2))); (first | (refine i64_k hc ?_ ?_ ?_ ; omega; omega; (clear hc; intro hc; subst hc)) | skip)) | (apply Exists.intro; apply And.intro; (first | (focus (repeat (first | (with_reducible assumption) | (with_reducible exact AH.set_same _ _ _))); done))) | (apply Exists.intro; apply And.intro; first | (with_reducible assumption) | ((try simp only [List.getElem?_drop, Nat.mul_one, Nat.add_zero, Nat.zero_add]); first | (with_reducible assumption) | rfl)) | (apply And.intro; (first | rfl | (with_reducible assumption) | exact Nat.le_of_ble_eq_true rfl | omega | (simp <;> omega) | (focus (repeat' (first | (with_reducible assumption) | rfl | apply one_take | apply one_drop)); done))) | (refine ACall.to (hv _) ?_) | (refine ACall.to (hw _) ?_))) <;> (try (conv => whnf))
  · rw [if_pos (by simpa using h0)]
    generalize validV o.length es fs = e at *
    refine ACall_of tt_ok (dok _) Try.func26 rfl (by decide) rfl ?_
    (repeat' ((conv => whnf); first | refine Then.mk ?_ | refine OpsA.cons ?_ | refine OpsA.nil ?_ | refine AWq.seq ?_ | refine AWq.region ?_ | refine AWq.cond ?_ | refine AWq.block ?_ | refine AWq.skip ?_ | refine AWq.ret ?_ | refine AWq.exit ?_ | refine AWq.loop ?_ | refine DrawA.consD ?_ | refine DrawA.nil ?_ | refine AWq.draw (by decide +kernel) ?_ | (refine Both.mk ?_ ?_ <;> intro hc <;> (first | exact Bool.noConfusion hc | exact absurd (by with_reducible rfl) hc | exact absurd (by assumption) hc | (exfalso; omega) | skip)) | (intro c hc; (try (simp only [AH.none_iff] at hc; repeat (have hn := hc.1; replace hc := hc.2))); (first | (refine i64_k hc ?_ ?_ ?_ ; omega; omega; (clear hc; intro hc; subst hc)) | skip)) | (apply Exists.intro; apply And.intro; (first | (focus (repeat (first | (with_reducible assumption) | (with_reducible exact AH.set_same _ _ _))); done))) | (apply Exists.intro; apply And.intro; first | (with_reducible assumption) | ((try simp only [List.getElem?_drop, Nat.mul_one, Nat.add_zero, Nat.zero_add]); first | (with_reducible assumption) | rfl)) | (apply And.intro; (first | rfl | (with_reducible assumption) | exact Nat.le_of_ble_eq_true rfl | omega | (simp <;> omega) | (focus (repeat' (first | (with_reducible assumption) | rfl | apply one_take | apply one_drop)); done))) | (refine ACall.to (hv _) ?_) | (refine ACall.to (hw _) ?_))) <;> (try (conv => whnf))
end Go.Proofs.Ytebflkgpbbjhnaa
/- The walks of balance: Check. -/
namespace Go.Proofs.Ytebflkgpbbjhnaa
open Go.Fw Go
set_option linter.unusedVariables false
set_option linter.unusedSimpArgs false

set_option maxRecDepth 8000 in
theorem grow_c (n : Nat) (hn : n ≤ 1000000) (H : AH) : ACall Try.prog 72 [.nils, .int .i64 n] H (fun y H' => ∃ r, H r = none ∧ ∃ v, y = .sl r v 1 0 0 none ∧ H' = H.set r (.row [] v)) := by
  refine ACall.warmN (es := 1) (n := 0) (cells := []) rfl ?_
  by_cases h : n = 0
  · subst h
    refine ACall_of tt_ok (dok _) Try.func72 rfl (by decide) rfl ?_
    (repeat' ((conv => whnf); first | refine Then.mk ?_ | refine OpsA.cons ?_ | refine OpsA.nil ?_ | refine AWq.seq ?_ | refine AWq.region ?_ | refine AWq.cond ?_ | refine AWq.skip ?_ | refine AWq.ret ?_ | (refine Both.mk ?_ ?_ <;> intro hc <;> (first | exact Bool.noConfusion hc | exact absurd hc (by assumption) | (exfalso; omega) | skip)) | (intro c hc; (try (simp only [AH.none_iff] at hc; repeat (have hn := hc.1; replace hc := hc.2))); (first | (refine i64_k hc ?_ ?_ ?_ ; omega; omega; (clear hc; intro hc; subst hc)) | skip)) | (apply And.intro; (first | rfl | (with_reducible assumption) | omega)))) <;> (try (conv => whnf))
    exact .inl ⟨rfl, rfl, rfl⟩
  · refine ACall_of tt_ok (dok _) Try.func72 rfl (by decide) rfl ?_
    (repeat' ((conv => whnf); first | refine Then.mk ?_ | refine OpsA.cons ?_ | refine OpsA.nil ?_ | refine AWq.seq ?_ | refine AWq.region ?_ | refine AWq.cond ?_ | refine AWq.skip ?_ | refine AWq.ret ?_ | (refine Both.mk ?_ ?_ <;> intro hc <;> (first | exact Bool.noConfusion hc | exact absurd hc (by assumption) | (exfalso; omega) | skip)) | (intro c hc; (try (simp only [AH.none_iff] at hc; repeat (have hn := hc.1; replace hc := hc.2))); (first | (refine i64_k hc ?_ ?_ ?_ ; omega; omega; (clear hc; intro hc; subst hc)) | skip)) | (apply And.intro; (first | rfl | (with_reducible assumption) | omega)))) <;> (try (conv => whnf))
    exact .inr ⟨c, by assumption, 0, rfl, rfl⟩
set_option maxRecDepth 8000 in
theorem concat_c (a b : List Int) (ha : a.length ≤ 100000) (hb : b.length ≤ 100000) (H : AH) :
    ACall Try.prog 45 [.cs [.cs (iS .i64 a) a.length, .cs (iS .i64 b) b.length] 2] H (fun y H' => y = .cs (iS .i64 (a ++ b)) (a ++ b).length ∧ H' = H) := by
  refine ACall.cold (es := 1) (by simp) ?_
  have hgr := fun H => grow_c (a.length + b.length) (by omega) H
  have hla := iS_length .i64 a
  have hlb := iS_length .i64 b
  refine ACall_of tt_ok (dok _) Try.func45 rfl (by decide) rfl ?_
  (repeat' ((conv => whnf); first | refine Then.mk ?_ | refine OpsA.cons ?_ | refine OpsA.nil ?_ | refine AWq.seq ?_ | refine AWq.region ?_ | refine AWq.cond ?_ | refine AWq.block ?_ | refine AWq.skip ?_ | refine AWq.ret ?_ | refine AWq.exit ?_ | refine AWq.loop ?_ | (refine Both.mk ?_ ?_ <;> intro hc <;> (first | exact Bool.noConfusion hc | exact absurd hc (by assumption) | (exfalso; omega) | skip)) | (intro c hc; (try (simp only [AH.none_iff] at hc; repeat (have hn := hc.1; replace hc := hc.2))); (first | (refine i64_k hc ?_ ?_ ?_ ; omega; omega; (clear hc; intro hc; subst hc)) | skip)) | (apply Exists.intro; apply And.intro; (first | (focus (repeat (first | (with_reducible assumption) | (with_reducible exact AH.set_same _ _ _))); done))) | (apply Exists.intro; apply And.intro; first | (with_reducible assumption) | ((try simp only [List.getElem?_drop, Nat.mul_one, Nat.add_zero, Nat.zero_add]); first | (with_reducible assumption) | rfl)) | (apply And.intro; (first | rfl | (with_reducible assumption) | exact Nat.le_of_ble_eq_true rfl | omega | (simp <;> omega) | (focus (repeat' (first | (with_reducible assumption) | exact one_iS _ _ | rfl)); done))))) <;> (try (conv => whnf))
  refine AWp_loop (σ := Nat × Nat) (3 :: 5 :: 11 :: 12 :: 13 :: 14 :: 15 :: 16 :: 17 :: 18 :: 19 :: 20 :: 21 :: 22 :: []) (fun s => [(11, .int .i64 s.1), (3, .int .i64 s.2)]) (fun s => H) (fun s => s.1 ≤ 2 ∧ s.2 = (if 0 < s.1 then a.length else 0) + (if 1 < s.1 then b.length else 0)) (fun s => 2 - s.1) (0, 0) rfl ⟨Nat.zero_le _, rfl⟩ ⟨rfl, rfl, trivial⟩ (HLe.refl _) ?_
  rintro ⟨i, s⟩ ⟨hi, hs⟩
  dsimp only at hi hs ⊢
  refine AWp.of tt_ok (dok _) rfl ?_
  rcases (show i = 0 ∨ i = 1 ∨ i = 2 by omega) with rfl | rfl | rfl
  · have hs : s = 0 := by simpa using hs
    subst hs
    (repeat' ((conv => whnf); first | refine Then.mk ?_ | refine OpsA.cons ?_ | refine OpsA.nil ?_ | refine AWq.seq ?_ | refine AWq.region ?_ | refine AWq.cond ?_ | refine AWq.block ?_ | refine AWq.skip ?_ | refine AWq.ret ?_ | refine AWq.exit ?_ | refine AWq.loop ?_ | (refine Both.mk ?_ ?_ <;> intro hc <;> (first | exact Bool.noConfusion hc | exact absurd hc (by assumption) | (exfalso; omega) | skip)) | (intro c hc; (try (simp only [AH.none_iff] at hc; repeat (have hn := hc.1; replace hc := hc.2))); (first | (refine i64_k hc ?_ ?_ ?_ ; omega; omega; (clear hc; intro hc; subst hc)) | skip)) | (apply Exists.intro; apply And.intro; (first | (focus (repeat (first | (with_reducible assumption) | (with_reducible exact AH.set_same _ _ _))); done))) | (apply Exists.intro; apply And.intro; first | (with_reducible assumption) | ((try simp only [List.getElem?_drop, Nat.mul_one, Nat.add_zero, Nat.zero_add]); first | (with_reducible assumption) | rfl)) | (apply And.intro; (first | rfl | (with_reducible assumption) | exact Nat.le_of_ble_eq_true rfl | omega | (simp <;> omega) | (focus (repeat' (first | (with_reducible assumption) | exact one_iS _ _ | rfl)); done))))) <;> (try (conv => whnf))
    exact ⟨(1, a.length), ⟨by show 1 ≤ 2; decide, by simp⟩, by show 2 - 1 < 2 - 0; decide, ⟨rfl, congrArg (AV.int .i64) (by dsimp only; omega), trivial⟩, HLe.refl _⟩
  · have hs : s = a.length := by simpa using hs
    (repeat' ((conv => whnf); first | refine Then.mk ?_ | refine OpsA.cons ?_ | refine OpsA.nil ?_ | refine AWq.seq ?_ | refine AWq.region ?_ | refine AWq.cond ?_ | refine AWq.block ?_ | refine AWq.skip ?_ | refine AWq.ret ?_ | refine AWq.exit ?_ | refine AWq.loop ?_ | (refine Both.mk ?_ ?_ <;> intro hc <;> (first | exact Bool.noConfusion hc | exact absurd hc (by assumption) | (exfalso; omega) | skip)) | (intro c hc; (try (simp only [AH.none_iff] at hc; repeat (have hn := hc.1; replace hc := hc.2))); (first | (refine i64_k hc ?_ ?_ ?_ ; omega; omega; (clear hc; intro hc; subst hc)) | skip)) | (apply Exists.intro; apply And.intro; (first | (focus (repeat (first | (with_reducible assumption) | (with_reducible exact AH.set_same _ _ _))); done))) | (apply Exists.intro; apply And.intro; first | (with_reducible assumption) | ((try simp only [List.getElem?_drop, Nat.mul_one, Nat.add_zero, Nat.zero_add]); first | (with_reducible assumption) | rfl)) | (apply And.intro; (first | rfl | (with_reducible assumption) | exact Nat.le_of_ble_eq_true rfl | omega | (simp <;> omega) | (focus (repeat' (first | (with_reducible assumption) | exact one_iS _ _ | rfl)); done))))) <;> (try (conv => whnf))
    exact ⟨(2, a.length + b.length), ⟨by show 2 ≤ 2; decide, by simp⟩, by show 2 - 2 < 2 - 1; decide, ⟨rfl, congrArg (AV.int .i64) (by dsimp only; omega), trivial⟩, HLe.refl _⟩
  · have hs : s = a.length + b.length := by simpa using hs
    subst hs
    (repeat' ((conv => whnf); first | refine Then.mk ?_ | refine OpsA.cons ?_ | refine OpsA.nil ?_ | refine AWq.seq ?_ | refine AWq.region ?_ | refine AWq.cond ?_ | refine AWq.block ?_ | refine AWq.skip ?_ | refine AWq.ret ?_ | refine AWq.exit ?_ | refine AWq.loop ?_ | (refine Both.mk ?_ ?_ <;> intro hc <;> (first | exact Bool.noConfusion hc | exact absurd hc (by assumption) | (exfalso; omega) | skip)) | (intro c hc; (try (simp only [AH.none_iff] at hc; repeat (have hn := hc.1; replace hc := hc.2))); (first | (refine i64_k hc ?_ ?_ ?_ ; omega; omega; (clear hc; intro hc; subst hc)) | skip)) | (apply Exists.intro; apply And.intro; (first | (focus (repeat (first | (with_reducible assumption) | (with_reducible exact AH.set_same _ _ _))); done))) | (apply Exists.intro; apply And.intro; first | (with_reducible assumption) | ((try simp only [List.getElem?_drop, Nat.mul_one, Nat.add_zero, Nat.zero_add]); first | (with_reducible assumption) | rfl)) | (apply And.intro; (first | rfl | (with_reducible assumption) | exact Nat.le_of_ble_eq_true rfl | omega | (simp <;> omega) | (focus (repeat' (first | (with_reducible assumption) | exact one_iS _ _ | rfl)); done))))) <;> (try (conv => whnf))
    refine (hgr _).mono ?_
    rintro y H' ⟨r, hr, v, rfl, rfl⟩
    (repeat' ((conv => whnf); first | refine Then.mk ?_ | refine OpsA.cons ?_ | refine OpsA.nil ?_ | refine AWq.seq ?_ | refine AWq.region ?_ | refine AWq.cond ?_ | refine AWq.block ?_ | refine AWq.skip ?_ | refine AWq.ret ?_ | refine AWq.exit ?_ | refine AWq.loop ?_ | (refine Both.mk ?_ ?_ <;> intro hc <;> (first | exact Bool.noConfusion hc | exact absurd hc (by assumption) | (exfalso; omega) | skip)) | (intro c hc; (try (simp only [AH.none_iff] at hc; repeat (have hn := hc.1; replace hc := hc.2))); (first | (refine i64_k hc ?_ ?_ ?_ ; omega; omega; (clear hc; intro hc; subst hc)) | skip)) | (apply Exists.intro; apply And.intro; (first | (focus (repeat (first | (with_reducible assumption) | (with_reducible exact AH.set_same _ _ _))); done))) | (apply Exists.intro; apply And.intro; first | (with_reducible assumption) | ((try simp only [List.getElem?_drop, Nat.mul_one, Nat.add_zero, Nat.zero_add]); first | (with_reducible assumption) | rfl)) | (apply And.intro; (first | rfl | (with_reducible assumption) | exact Nat.le_of_ble_eq_true rfl | omega | (simp <;> omega) | (focus (repeat' (first | (with_reducible assumption) | exact one_iS _ _ | rfl)); done))))) <;> (try (conv => whnf))
    refine AWp_loop (σ := Nat × List Int) (6 :: 8 :: 27 :: 28 :: 29 :: 30 :: 31 :: 32 :: 33 :: 34 :: []) (fun s => [(27, .int .i64 s.1), (6, .sl r (v + s.1) 1 0 s.2.length none)]) (fun s => H.set r (.row (iS .i64 s.2) (v + s.1))) (fun s => s.1 ≤ 2 ∧ s.2 = (if 0 < s.1 then a else []) ++ if 1 < s.1 then b else []) (fun s => 2 - s.1) (0, []) rfl ⟨Nat.zero_le _, rfl⟩ ⟨rfl, rfl, trivial⟩ (HLe.refl _) ?_
    rintro ⟨i, s⟩ ⟨hi, hs⟩
    dsimp only at hi hs ⊢
    refine AWp.of tt_ok (dok _) rfl ?_
    rcases (show i = 0 ∨ i = 1 ∨ i = 2 by omega) with rfl | rfl | rfl
    · have hs : s = [] := by simpa using hs
      subst hs
      (repeat' ((conv => whnf); first | refine Then.mk ?_ | refine OpsA.cons ?_ | refine OpsA.nil ?_ | refine AWq.seq ?_ | refine AWq.region ?_ | refine AWq.cond ?_ | refine AWq.block ?_ | refine AWq.skip ?_ | refine AWq.ret ?_ | refine AWq.exit ?_ | refine AWq.loop ?_ | (refine Both.mk ?_ ?_ <;> intro hc <;> (first | exact Bool.noConfusion hc | exact absurd hc (by assumption) | (exfalso; omega) | skip)) | (intro c hc; (try (simp only [AH.none_iff] at hc; repeat (have hn := hc.1; replace hc := hc.2))); (first | (refine i64_k hc ?_ ?_ ?_ ; omega; omega; (clear hc; intro hc; subst hc)) | skip)) | (apply Exists.intro; apply And.intro; (first | (focus (repeat (first | (with_reducible assumption) | (with_reducible exact AH.set_same _ _ _))); done))) | (apply Exists.intro; apply And.intro; first | (with_reducible assumption) | ((try simp only [List.getElem?_drop, Nat.mul_one, Nat.add_zero, Nat.zero_add]); first | (with_reducible assumption) | rfl)) | (apply And.intro; (first | rfl | (with_reducible assumption) | exact Nat.le_of_ble_eq_true rfl | omega | (simp <;> omega) | (focus (repeat' (first | (with_reducible assumption) | exact one_iS _ _ | rfl)); done))))) <;> (try (conv => whnf))
      refine ⟨(1, a), ⟨by show 1 ≤ 2; decide, by simp⟩, by show 2 - 1 < 2 - 0; decide, ⟨rfl, ?_, trivial⟩, ?_⟩
      · show AV.sl r (v + 0 + 1) 1 0 (0 + a.length) none = .sl r (v + 1) 1 0 a.length none
        rw [Nat.zero_add]
      · exact HLe.of_eq (AH.set_set _ _ _ _).symm
    · have hs : a = s := by simpa using hs.symm
      subst hs
      (repeat' ((conv => whnf); first | refine Then.mk ?_ | refine OpsA.cons ?_ | refine OpsA.nil ?_ | refine AWq.seq ?_ | refine AWq.region ?_ | refine AWq.cond ?_ | refine AWq.block ?_ | refine AWq.skip ?_ | refine AWq.ret ?_ | refine AWq.exit ?_ | refine AWq.loop ?_ | (refine Both.mk ?_ ?_ <;> intro hc <;> (first | exact Bool.noConfusion hc | exact absurd hc (by assumption) | (exfalso; omega) | skip)) | (intro c hc; (try (simp only [AH.none_iff] at hc; repeat (have hn := hc.1; replace hc := hc.2))); (first | (refine i64_k hc ?_ ?_ ?_ ; omega; omega; (clear hc; intro hc; subst hc)) | skip)) | (apply Exists.intro; apply And.intro; (first | (focus (repeat (first | (with_reducible assumption) | (with_reducible exact AH.set_same _ _ _))); done))) | (apply Exists.intro; apply And.intro; first | (with_reducible assumption) | ((try simp only [List.getElem?_drop, Nat.mul_one, Nat.add_zero, Nat.zero_add]); first | (with_reducible assumption) | rfl)) | (apply And.intro; (first | rfl | (with_reducible assumption) | exact Nat.le_of_ble_eq_true rfl | omega | (simp <;> omega) | (focus (repeat' (first | (with_reducible assumption) | exact one_iS _ _ | rfl)); done))))) <;> (try (conv => whnf))
      refine ⟨(2, a ++ b), ⟨by show 2 ≤ 2; decide, by simp⟩, by show 2 - 2 < 2 - 1; decide, ⟨rfl, ?_, trivial⟩, ?_⟩
      · show AV.sl r (v + 1 + 1) 1 0 (a.length + b.length) none = .sl r (v + 2) 1 0 (a ++ b).length none
        rw [List.length_append]
      · dsimp only
        rw [← iS_append]
        exact HLe.of_eq (AH.set_set _ _ _ _).symm
    · have hs : s = a ++ b := by simpa using hs
      subst hs
      (repeat' ((conv => whnf); first | refine Then.mk ?_ | refine OpsA.cons ?_ | refine OpsA.nil ?_ | refine AWq.seq ?_ | refine AWq.region ?_ | refine AWq.cond ?_ | refine AWq.block ?_ | refine AWq.skip ?_ | refine AWq.ret ?_ | refine AWq.exit ?_ | refine AWq.loop ?_ | (refine Both.mk ?_ ?_ <;> intro hc <;> (first | exact Bool.noConfusion hc | exact absurd hc (by assumption) | (exfalso; omega) | skip)) | (intro c hc; (try (simp only [AH.none_iff] at hc; repeat (have hn := hc.1; replace hc := hc.2))); (first | (refine i64_k hc ?_ ?_ ?_ ; omega; omega; (clear hc; intro hc; subst hc)) | skip)) | (apply Exists.intro; apply And.intro; (first | (focus (repeat (first | (with_reducible assumption) | (with_reducible exact AH.set_same _ _ _))); done))) | (apply Exists.intro; apply And.intro; first | (with_reducible assumption) | ((try simp only [List.getElem?_drop, Nat.mul_one, Nat.add_zero, Nat.zero_add]); first | (with_reducible assumption) | rfl)) | (apply And.intro; (first | rfl | (with_reducible assumption) | exact Nat.le_of_ble_eq_true rfl | omega | (simp <;> omega) | (focus (repeat' (first | (with_reducible assumption) | exact one_iS _ _ | rfl)); done))))) <;> (try (conv => whnf))

/-- The flows are set. -/
def setFl : List Ac → List Int → List Ac
  | [], _ => []
  | x :: A, [] => x :: A
  | x :: A, f :: L => ⟨x.a, x.b, x.d, x.w, f⟩ :: setFl A L
theorem setFl_nil : ∀ A, setFl A [] = A
  | [] => rfl
  | x :: A => rfl
theorem setFl_len : ∀ A L, (setFl A L).length = A.length
  | [], _ => rfl
  | x :: A, [] => rfl
  | x :: A, f :: L => by simp [setFl, setFl_len A L]
theorem setFl_get : ∀ (A : List Ac) (L : List Int) (i : Nat), L.length ≤ i → (setFl A L)[i]? = A[i]?
  | [], _, _, _ => rfl
  | x :: A, [], _, _ => rfl
  | x :: A, f :: L, 0, h => by simp at h
  | x :: A, f :: L, i + 1, h => by simp only [setFl, List.getElem?_cons_succ]; exact setFl_get A L i (by simpa using h)
theorem setFl_snoc : ∀ (A : List Ac) (L : List Int) (x : Ac) (f : Int), A[L.length]? = some x → setFl A (L ++ [f]) = (setFl A L).set L.length ⟨x.a, x.b, x.d, x.w, f⟩
  | [], L, x, f, h => by simp at h
  | y :: A, [], x, f, h => by simp at h; subst h; simp [setFl, setFl_nil]
  | y :: A, g :: L, x, f, h => by
    simp only [List.cons_append, setFl, List.length_cons, List.set_cons_succ]
    rw [setFl_snoc A L x f (by simpa using h)]
/-- What the flows are worth. -/
def valF : List Ac → List Int → Int
  | x :: A, f :: L => -(f * x.d) + valF A L
  | _, _ => 0
theorem valF_snoc : ∀ (A : List Ac) (L : List Int) (x : Ac) (f : Int), A[L.length]? = some x → valF A (L ++ [f]) = valF A L - f * x.d
  | [], L, x, f, h => by simp at h
  | y :: A, [], x, f, h => by simp at h; subst h; cases A <;> simp [valF]
  | y :: A, g :: L, x, f, h => by
    simp only [List.cons_append, valF]
    rw [valF_snoc A L x f (by simpa using h)]
    omega
def inW (x : Ac) (f : Int) : Prop := -x.w ≤ f ∧ f ≤ x.w
instance (x : Ac) (f : Int) : Decidable (inW x f) := by unfold inW; exact inferInstance
def allW (A : List Ac) (L : List Int) : Prop := ∀ i x, A[i]? = some x → i < L.length → inW x (L.getD i 0)
theorem valF_bd : ∀ (A : List Ac) (L : List Int), (∀ x ∈ A, (-65535 ≤ x.d ∧ x.d ≤ 65535) ∧ x.w ≤ 65536) → allW A L → -(4294967296 * (L.length : Int)) ≤ valF A L ∧ valF A L ≤ 4294967296 * (L.length : Int)
  | [], L, _, _ => by simp only [valF]; omega
  | x :: A, [], _, _ => by simp [valF]
  | x :: A, f :: L, h, hw => by
    have ih := valF_bd A L (fun y hy => h y (by simp [hy])) (fun i y hy hi => by
      have := hw (i + 1) y (by simpa using hy) (by simpa using hi)
      simpa using this)
    have h1 := hw 0 x rfl (by simp)
    have h2 := h x (by simp)
    have h1 : -x.w ≤ f ∧ f ≤ x.w := h1
    have key : -4294967296 ≤ f * x.d ∧ f * x.d ≤ 4294967296 := by
      have a1 : (65536 - f) * (65535 - x.d) ≥ 0 := Int.mul_nonneg (by omega) (by omega)
      have a2 : (65536 + f) * (65535 + x.d) ≥ 0 := Int.mul_nonneg (by omega) (by omega)
      have a3 : (65536 - f) * (65535 + x.d) ≥ 0 := Int.mul_nonneg (by omega) (by omega)
      have a4 : (65536 + f) * (65535 - x.d) ≥ 0 := Int.mul_nonneg (by omega) (by omega)
      simp only [Int.sub_mul, Int.add_mul, Int.mul_sub, Int.mul_add] at a1 a2 a3 a4
      omega
    simp only [valF, List.length_cons]
    omega
end Go.Proofs.Ytebflkgpbbjhnaa
/- The walks of balance: a row of one number. -/
namespace Go.Proofs.Ytebflkgpbbjhnaa
open Go.Fw Go
set_option linter.unusedVariables false
set_option linter.unusedSimpArgs false

theorem wrap_u64b (x : Int) : IntKind.u64.wrap x = x % 18446744073709551616 := rfl
set_option maxRecDepth 8000 in
theorem Mul64_c (n : Nat) (h : n ≤ 4294967295) (H : AH) : ACall Try.prog 97 [.int .u64 1, .int .u64 n] H (fun y H' => y = .tup [.int .u64 0, .int .u64 n] ∧ H' = H) := by
  have e0 : (2 : Int) ^ min (Int.toNat 32) IntKind.u64.bits = 4294967296 := by decide
  have e1 : (n : Int).fdiv 4294967296 = 0 := by rw [Int.fdiv_eq_ediv_of_nonneg _ (by omega)]; omega
  have e2 : bitsA .and .u64 (n : Int) 4294967295 = n := by
    show IntKind.u64.wrap ((BitVec.ofInt 64 (n : Int) &&& BitVec.ofInt 64 4294967295).toNat : Int) = _
    have ha : (BitVec.ofInt 64 (n : Int)).toNat = n := by rw [BitVec.toNat_ofInt]; omega
    have hb : (BitVec.ofInt 64 4294967295).toNat = 2 ^ 32 - 1 := by decide
    rw [BitVec.toNat_and, ha, hb, Nat.and_two_pow_sub_one_eq_mod, wrap_u64b]
    omega
  have e3 : bitsA .and .u64 1 4294967295 = 1 := by decide
  have e4 : Int.fdiv 1 4294967296 = 0 := by decide
  have e5 : IntKind.u64.wrap (n : Int) = n := by rw [wrap_u64b]; omega
  have e6 : bitsA .and .u64 0 4294967295 = 0 := by decide
  have e7 : IntKind.u64.wrap 0 = 0 := by decide
  have e8 : Int.fdiv 0 4294967296 = 0 := by decide
  refine ACall_of tt_ok (dok _) Try.func97 rfl (by decide) rfl ?_
  (repeat' ((conv => whnf); first | refine Then.mk ?_ | refine OpsA.cons ?_ | refine OpsA.nil ?_ | refine AWq.seq ?_ | refine AWq.region ?_ | refine AWq.ret ?_ | (intro c hc; (try (simp only [AH.none_iff] at hc; repeat (have hn := hc.1; replace hc := hc.2))); (first | (have hc2 := Eq.trans hc (by with_reducible assumption); clear hc; subst hc2) | (refine u64_k hc ?_ ?_ ?_ ; omega; omega; (clear hc; intro hc; subst hc)) | subst hc)) | (apply And.intro; (first | rfl | omega)))) <;> (try (conv => whnf))
  refine ⟨?_, rfl⟩
  simp only [e0, e1, e2, e3, e4, e5, e6, e7, e8, Int.zero_mul, Int.one_mul, Int.mul_zero, Int.add_zero]
set_option maxRecDepth 8000 in
theorem Mul_c (n : Nat) (h : n ≤ 4294967295) (H : AH) : ACall Try.prog 83 [.int .u64 1, .int .u64 n] H (fun y H' => y = .tup [.int .u64 0, .int .u64 n] ∧ H' = H) := by
  have hm := fun H => Mul64_c n h H
  refine ACall_of tt_ok (dok _) Try.func83 rfl (by decide) rfl ?_
  (repeat' ((conv => whnf); first | refine Then.mk ?_ | refine OpsA.cons ?_ | refine OpsA.nil ?_ | refine AWq.seq ?_ | refine AWq.region ?_ | refine AWq.cond ?_ | refine AWq.skip ?_ | refine AWq.ret ?_ | (refine Both.mk ?_ ?_ <;> intro hc <;> (first | exact Bool.noConfusion hc | skip)) | (apply And.intro; (first | rfl)) | (refine ACall.to (hm _) ?_))) <;> (try (conv => whnf))

theorem dL_takeN {n m : Nat} (X : Nat → Int) (h : m ≤ n) : (dL n X).take m = dL m X := by
  apply List.ext_getElem?
  intro i
  rw [List.getElem?_take]
  by_cases hi : i < m
  · rw [if_pos hi, dL_get X (by omega), dL_get X hi]
  · rw [if_neg hi, List.getElem?_eq_none (by rw [dL_len]; omega)]
theorem dL_drop {n m : Nat} (X : Nat → Int) : (dL n X).drop m = dL (n - m) (fun k => X (m + k)) := by
  apply List.ext_getElem?
  intro i
  rw [List.getElem?_drop]
  by_cases hi : m + i < n
  · rw [dL_get X hi, dL_get _ (by omega)]
  · rw [List.getElem?_eq_none (by rw [dL_len]; omega), List.getElem?_eq_none (by rw [dL_len]; omega)]
theorem dL_app {n m : Nat} (X Y : Nat → Int) : dL n X ++ dL m Y = dL (n + m) (fun k => if k < n then X k else Y (k - n)) := by
  apply List.ext_getElem?
  intro i
  by_cases hi : i < n
  · rw [List.getElem?_append_left (by rw [dL_len]; exact hi), dL_get _ hi, dL_get _ (by omega), if_pos hi]
  · rw [List.getElem?_append_right (by rw [dL_len]; omega), dL_len]
    by_cases h2 : i < n + m
    · rw [dL_get _ (by omega), dL_get _ h2, if_neg hi]
    · rw [List.getElem?_eq_none (by rw [dL_len]; omega), List.getElem?_eq_none (by rw [dL_len]; omega)]
theorem dL_wrs {n m c : Nat} (X Y : Nat → Int) (h : c + m ≤ n) : wrA (dL n X) c (dL m Y) = dL n (fun k => if c ≤ k ∧ k < c + m then Y (k - c) else X k) := by
  unfold wrA
  rw [dL_takeN X (by omega), dL_len, dL_drop, dL_app, dL_app, show c + m + (n - (c + m)) = n by omega]
  refine dL_congr fun k hk => ?_
  by_cases h1 : k < c
  · rw [if_pos (by omega), if_pos h1, if_neg (by omega)]
  · by_cases h2 : k < c + m
    · rw [if_pos h2, if_neg h1, if_pos (by omega)]
    · rw [if_neg h2, if_neg (by omega)]
      congr 1; omega

set_option maxRecDepth 8000 in
theorem Repeat_c (z : Int) (n : Nat) (h1 : 1 ≤ n) (h2 : n ≤ 1000000) (H : AH) :
    ACall Try.prog 68 [.cs [.int .i64 z] 1, .int .i64 n] H (fun y H' => ∃ q, H q = none ∧ y = .sl q 0 1 0 n none ∧ H' = H.set q (.row (dL n fun _ => z) 0)) := by
  have hm := fun H => Mul_c n (by omega) H
  refine ACall_of tt_ok (dok _) Try.func68 rfl (by decide) rfl ?_
  (repeat' ((conv => whnf); first | refine Then.mk ?_ | refine OpsA.cons ?_ | refine OpsA.nil ?_ | refine AWq.seq ?_ | refine AWq.region ?_ | refine AWq.cond ?_ | refine AWq.block ?_ | refine AWq.skip ?_ | refine AWq.ret ?_ | refine AWq.exit ?_ | refine AWq.loop ?_ | refine DrawA.consD ?_ | refine DrawA.nil ?_ | (refine Both.mk ?_ ?_ <;> intro hc <;> (first | exact Bool.noConfusion hc | (exfalso; omega) | skip)) | (intro c hc; (try (simp only [AH.none_iff] at hc; repeat (have hn := hc.1; replace hc := hc.2))); (first | (refine i64_k hc ?_ ?_ ?_ ; omega; omega; (clear hc; intro hc; subst hc)) | (refine u64_k hc ?_ ?_ ?_ ; omega; omega; (clear hc; intro hc; subst hc)) | skip)) | (apply Exists.intro; apply And.intro; (first | (focus (repeat (first | (with_reducible assumption) | (with_reducible exact AH.set_same _ _ _))); done))) | (apply And.intro; (first | rfl | (with_reducible assumption) | omega | (simp <;> fail) | (focus (repeat' (first | (with_reducible assumption) | exact one_iS _ _ | rfl | apply one_take)); done))) | (refine ACall.to (hm _) ?_))) <;> (try (conv => whnf))
  refine AWp_loop (σ := Nat) (8 :: 34 :: 35 :: 36 :: 37 :: 38 :: 39 :: 40 :: 41 :: 42 :: 43 :: 44 :: 45 :: 46 :: []) (fun m => [(8, .int .i64 m)]) (fun m => AH.set H c (.row (dL n fun k => if k < m then z else 0) 0)) (fun m => 1 ≤ m ∧ m ≤ n) (fun m => n - m) 1 rfl ?_ ?_ ?_ ?_
  · exact ⟨Nat.le_refl _, h1⟩
  · refine ⟨?_, trivial⟩
    have : Nat.min 1 n = 1 := Nat.min_eq_left h1
    show AV.int .i64 (Nat.min 1 n : Nat) = _
    rw [this]
  · refine HLe.of_eq (Eq.symm ((AH.set_set _ _ _ _).trans (congrArg (fun l => AH.set H c (.row l 0)) ?_)))
    show wrA ((List.replicate n [AV.int .i64 0]).flatten) 0 (List.take (Nat.min 1 n * 1) (dL 1 fun _ => z)) = _
    rw [show Nat.min 1 n = 1 from Nat.min_eq_left h1, dL_zero, dL_takeN _ (by omega), dL_wrs _ _ (by omega)]
    refine dL_congr fun k hk => ?_
    by_cases h : k < 1 <;> simp [h]
  · rintro m ⟨hm1, hm2⟩
    refine AWp.of tt_ok (dok _) rfl ?_
    have li := dL_len n (fun k => if k < m then z else 0)
    by_cases hmn : m < n
    · (repeat' ((conv => whnf); first | refine AWq.drawM ([45], []) (by decide +kernel) ?_ | refine Then.mk ?_ | refine OpsA.cons ?_ | refine OpsA.nil ?_ | refine AWq.seq ?_ | refine AWq.region ?_ | refine AWq.cond ?_ | refine AWq.block ?_ | refine AWq.skip ?_ | refine AWq.ret ?_ | refine AWq.exit ?_ | refine AWq.loop ?_ | refine DrawA.consD ?_ | refine DrawA.nil ?_ | (refine Both.mk ?_ ?_ <;> intro hc <;> (first | exact Bool.noConfusion hc | (exfalso; omega) | skip)) | (intro c hc; (try (simp only [AH.none_iff] at hc; repeat (have hn := hc.1; replace hc := hc.2))); (first | (refine i64_k hc ?_ ?_ ?_ ; omega; omega; (clear hc; intro hc; subst hc)) | (refine u64_k hc ?_ ?_ ?_ ; omega; omega; (clear hc; intro hc; subst hc)) | skip)) | (apply Exists.intro; apply And.intro; (first | (focus (repeat (first | (with_reducible assumption) | (with_reducible exact AH.set_same _ _ _))); done))) | (apply And.intro; (first | rfl | (with_reducible assumption) | omega | (simp <;> fail) | (focus (repeat' (first | (with_reducible assumption) | exact one_iS _ _ | rfl | apply one_take)); done))) | (refine ACall.to (hm _) ?_))) <;> (try (conv => whnf))
      refine ⟨.int .i64 (min m (n - m) : Nat), AH.set H c (.row (dL n fun k => if k < m + min m (n - m) then z else 0) 0), ?_, ?_⟩
      · (repeat' ((conv => whnf); first | refine Then.mk ?_ | refine OpsA.cons ?_ | refine OpsA.nil ?_ | refine AWq.seq ?_ | refine AWq.region ?_ | refine AWq.cond ?_ | refine AWq.block ?_ | refine AWq.skip ?_ | refine AWq.ret ?_ | refine AWq.exit ?_ | refine AWq.loop ?_ | refine DrawA.consD ?_ | refine DrawA.nil ?_ | (refine Both.mk ?_ ?_ <;> intro hc <;> (first | exact Bool.noConfusion hc | (exfalso; omega) | skip)) | (intro c hc; (try (simp only [AH.none_iff] at hc; repeat (have hn := hc.1; replace hc := hc.2))); (first | (refine i64_k hc ?_ ?_ ?_ ; omega; omega; (clear hc; intro hc; subst hc)) | (refine u64_k hc ?_ ?_ ?_ ; omega; omega; (clear hc; intro hc; subst hc)) | skip)) | (apply Exists.intro; apply And.intro; (first | (focus (repeat (first | (with_reducible assumption) | (with_reducible exact AH.set_same _ _ _))); done))) | (apply And.intro; (first | rfl | (with_reducible assumption) | omega | (simp <;> fail) | (focus (repeat' (first | (with_reducible assumption) | exact one_iS _ _ | rfl | apply one_take)); done))))) <;> (try (conv => whnf))
        refine (AH.set_set _ _ _ _).trans (congrArg (fun l => AH.set H c (.row l 0)) ?_)
        have e1 : Nat.min m (n - m) = min m (n - m) := rfl
        rw [Int.toNat_natCast, Int.toNat_natCast, e1, List.drop_zero, Nat.mul_one, Nat.mul_one, dL_takeN _ hm2, dL_takeN _ (by omega), Nat.zero_add, dL_wrs _ _ (by omega)]
        refine dL_congr fun k hk => ?_
        split <;> split <;> first | rfl | omega | (split <;> first | rfl | omega)
      · (repeat' ((conv => whnf); first | refine Then.mk ?_ | refine OpsA.cons ?_ | refine OpsA.nil ?_ | refine AWq.seq ?_ | refine AWq.region ?_ | refine AWq.cond ?_ | refine AWq.block ?_ | refine AWq.skip ?_ | refine AWq.ret ?_ | refine AWq.exit ?_ | refine AWq.loop ?_ | refine DrawA.consD ?_ | refine DrawA.nil ?_ | (refine Both.mk ?_ ?_ <;> intro hc <;> (first | exact Bool.noConfusion hc | (exfalso; omega) | skip)) | (intro c hc; (try (simp only [AH.none_iff] at hc; repeat (have hn := hc.1; replace hc := hc.2))); (first | (refine i64_k hc ?_ ?_ ?_ ; omega; omega; (clear hc; intro hc; subst hc)) | (refine u64_k hc ?_ ?_ ?_ ; omega; omega; (clear hc; intro hc; subst hc)) | skip)) | (apply Exists.intro; apply And.intro; (first | (focus (repeat (first | (with_reducible assumption) | (with_reducible exact AH.set_same _ _ _))); done))) | (apply And.intro; (first | rfl | (with_reducible assumption) | omega | (simp <;> fail) | (focus (repeat' (first | (with_reducible assumption) | exact one_iS _ _ | rfl | apply one_take)); done))))) <;> (try (conv => whnf))
        exact ⟨m + min m (n - m), by omega, by omega, ⟨congrArg (AV.int .i64) (by omega), trivial⟩, HLe.refl _⟩
    · have hme : m = n := by omega
      (repeat' ((conv => whnf); first | refine Then.mk ?_ | refine OpsA.cons ?_ | refine OpsA.nil ?_ | refine AWq.seq ?_ | refine AWq.region ?_ | refine AWq.cond ?_ | refine AWq.block ?_ | refine AWq.skip ?_ | refine AWq.ret ?_ | refine AWq.exit ?_ | refine AWq.loop ?_ | refine DrawA.consD ?_ | refine DrawA.nil ?_ | (refine Both.mk ?_ ?_ <;> intro hc <;> (first | exact Bool.noConfusion hc | (exfalso; omega) | skip)) | (intro c hc; (try (simp only [AH.none_iff] at hc; repeat (have hn := hc.1; replace hc := hc.2))); (first | (refine i64_k hc ?_ ?_ ?_ ; omega; omega; (clear hc; intro hc; subst hc)) | (refine u64_k hc ?_ ?_ ?_ ; omega; omega; (clear hc; intro hc; subst hc)) | skip)) | (apply Exists.intro; apply And.intro; (first | (focus (repeat (first | (with_reducible assumption) | (with_reducible exact AH.set_same _ _ _))); done))) | (apply And.intro; (first | rfl | (with_reducible assumption) | omega | (simp <;> fail) | (focus (repeat' (first | (with_reducible assumption) | exact one_iS _ _ | rfl | apply one_take)); done))))) <;> (try (conv => whnf))
      exact congrArg (fun l => AH.set H c (.row l 0)) (dL_congr fun k hk => by rw [if_pos (by omega)])

end Go.Proofs.Ytebflkgpbbjhnaa
/- The walks of balance: the way back. -/
namespace Go.Proofs.Ytebflkgpbbjhnaa
open Go.Fw Go
set_option linter.unusedVariables false
set_option linter.unusedSimpArgs false

set_option maxRecDepth 8000 in
theorem mv2_c (A : List Ac) (n i : Nat) (x : Ac) (hx : A[i]? = some x) (hok : AcOk n x) (up : Bool) (b : Int) (H : AH) (ra va cb vb : Nat) (ha : H ra = some (.row (acL A) va)) (hcb : H cb = some (.row [.int .i64 b] vb)) :
    ACall Try.prog 70 [.ptr ra va (0 + (i : Int).toNat * 5), .bool up, .ptr cb vb 0] H (fun y H' => y = .tup [] ∧ H' = H.set cb (.row [.int .i64 (min b (rsd x up))] vb)) := by
  obtain ⟨xa, xb, d1, d2, w1, w2, f1, f2⟩ := hok
  have hcl := acL_len A
  have hil : i < A.length := (List.getElem?_eq_some_iff.1 hx).1
  have g3 : (acL A)[(i : Int).toNat * 5 + 3]? = some (.int .i64 x.w) := acL_get hx 3 (by decide)
  have g4 : (acL A)[(i : Int).toNat * 5 + 4]? = some (.int .i64 x.f) := acL_get hx 4 (by decide)
  unfold rsd
  cases up with
  | true =>
    rw [if_pos rfl]
    refine ACall_of tt_ok (dok _) Try.func70 rfl (by decide) rfl ?_
    (repeat' ((conv => whnf); first | refine Then.mk ?_ | refine OpsA.cons ?_ | refine OpsA.nil ?_ | refine AWq.seq ?_ | refine AWq.region ?_ | refine AWq.cond ?_ | refine DrawA.consD ?_ | refine DrawA.nil ?_ | refine AWq.draw (by decide +kernel) ?_ | (refine Both.mk ?_ ?_ <;> intro hc <;> (first | exact Bool.noConfusion hc | skip)) | (intro c hc; (try (simp only [AH.none_iff] at hc; repeat (have hn := hc.1; replace hc := hc.2))); (first | (refine i64_k hc ?_ ?_ ?_ ; omega; omega; (clear hc; intro hc; subst hc)) | skip)) | (apply Exists.intro; apply And.intro; (first | (focus (repeat (first | (with_reducible assumption))); done))) | (apply Exists.intro; apply And.intro; first | (with_reducible assumption) | ((try simp only [List.getElem?_drop, Nat.mul_one, Nat.add_zero, Nat.zero_add]); first | (with_reducible assumption) | rfl)) | (apply Exists.intro; apply And.intro; (focus ((conv => whnf); first | (intro c hc; subst hc; exact And.intro rfl rfl)))) | (apply And.intro; (first | rfl | (with_reducible assumption) | exact Nat.le_of_ble_eq_true rfl)))) <;> (try (conv => whnf))
    rfl
  | false =>
    rw [if_neg (by decide)]
    refine ACall_of tt_ok (dok _) Try.func70 rfl (by decide) rfl ?_
    (repeat' ((conv => whnf); first | refine Then.mk ?_ | refine OpsA.cons ?_ | refine OpsA.nil ?_ | refine AWq.seq ?_ | refine AWq.region ?_ | refine AWq.cond ?_ | refine DrawA.consD ?_ | refine DrawA.nil ?_ | refine AWq.draw (by decide +kernel) ?_ | (refine Both.mk ?_ ?_ <;> intro hc <;> (first | exact Bool.noConfusion hc | skip)) | (intro c hc; (try (simp only [AH.none_iff] at hc; repeat (have hn := hc.1; replace hc := hc.2))); (first | (refine i64_k hc ?_ ?_ ?_ ; omega; omega; (clear hc; intro hc; subst hc)) | skip)) | (apply Exists.intro; apply And.intro; (first | (focus (repeat (first | (with_reducible assumption))); done))) | (apply Exists.intro; apply And.intro; first | (with_reducible assumption) | ((try simp only [List.getElem?_drop, Nat.mul_one, Nat.add_zero, Nat.zero_add]); first | (with_reducible assumption) | rfl)) | (apply Exists.intro; apply And.intro; (focus ((conv => whnf); first | (intro c hc; subst hc; exact And.intro rfl rfl)))) | (apply And.intro; (first | rfl | (with_reducible assumption) | exact Nat.le_of_ble_eq_true rfl)))) <;> (try (conv => whnf))
    rfl
theorem acL_wrZ {A : List Ac} {i : Nat} {x : Ac} (h : A[i]? = some x) (z : Int) : wrA (acL A) (0 + (i : Int).toNat * 5 + 4) [.int .i64 z] = acL (A.set i ⟨x.a, x.b, x.d, x.w, z⟩) := by
  rw [show 0 + (i : Int).toNat * 5 + 4 = i * 5 + 4 by omega]; exact acL_wrF h z
set_option maxRecDepth 8000 in
theorem mv3_c (A : List Ac) (n i : Nat) (x : Ac) (hx : A[i]? = some x) (hok : AcOk n x) (up : Bool) (b : Int) (hb : -1000000000000 ≤ b ∧ b ≤ 1000000000000) (H : AH) (ra va cb vb : Nat) (ha : H ra = some (.row (acL A) va)) (hcb : H cb = some (.row [.int .i64 b] vb)) :
    ACall Try.prog 71 [.ptr ra va (0 + (i : Int).toNat * 5), .bool up, .ptr cb vb 0] H (fun y H' => y = .tup [] ∧ H' = H.set ra (.row (acL (A.set i (addF x (sgn up b)))) va)) := by
  obtain ⟨xa, xb, d1, d2, w1, w2, f1, f2⟩ := hok
  have hcl := acL_len A
  have hil : i < A.length := (List.getElem?_eq_some_iff.1 hx).1
  have g4 : (acL A)[(i : Int).toNat * 5 + 4]? = some (.int .i64 x.f) := acL_get hx 4 (by decide)
  unfold sgn
  cases up with
  | true =>
    rw [if_pos rfl]
    refine ACall_of tt_ok (dok _) Try.func71 rfl (by decide) rfl ?_
    (repeat' ((conv => whnf); first | refine Then.mk ?_ | refine OpsA.cons ?_ | refine OpsA.nil ?_ | refine AWq.seq ?_ | refine AWq.region ?_ | refine AWq.cond ?_ | refine DrawA.consD ?_ | refine DrawA.nil ?_ | refine AWq.draw (by decide +kernel) ?_ | (refine Both.mk ?_ ?_ <;> intro hc <;> (first | exact Bool.noConfusion hc | skip)) | (intro c hc; (try (simp only [AH.none_iff] at hc; repeat (have hn := hc.1; replace hc := hc.2))); (first | (refine i64_k hc ?_ ?_ ?_ ; omega; omega; (clear hc; intro hc; subst hc)) | skip)) | (apply Exists.intro; apply And.intro; (first | (focus (repeat (first | (with_reducible assumption))); done))) | (apply Exists.intro; apply And.intro; first | (with_reducible assumption) | ((try simp only [List.getElem?_drop, Nat.mul_one, Nat.add_zero, Nat.zero_add]); first | (with_reducible assumption) | rfl)) | (apply And.intro; (first | rfl | (with_reducible assumption) | (simp <;> omega))))) <;> (try (conv => whnf))
    exact congrArg (fun l => H.set ra (.row l va)) (acL_wrZ hx _)
  | false =>
    rw [if_neg (by decide)]
    refine ACall_of tt_ok (dok _) Try.func71 rfl (by decide) rfl ?_
    (repeat' ((conv => whnf); first | refine Then.mk ?_ | refine OpsA.cons ?_ | refine OpsA.nil ?_ | refine AWq.seq ?_ | refine AWq.region ?_ | refine AWq.cond ?_ | refine DrawA.consD ?_ | refine DrawA.nil ?_ | refine AWq.draw (by decide +kernel) ?_ | (refine Both.mk ?_ ?_ <;> intro hc <;> (first | exact Bool.noConfusion hc | skip)) | (intro c hc; (try (simp only [AH.none_iff] at hc; repeat (have hn := hc.1; replace hc := hc.2))); (first | (refine i64_k hc ?_ ?_ ?_ ; omega; omega; (clear hc; intro hc; subst hc)) | skip)) | (apply Exists.intro; apply And.intro; (first | (focus (repeat (first | (with_reducible assumption))); done))) | (apply Exists.intro; apply And.intro; first | (with_reducible assumption) | ((try simp only [List.getElem?_drop, Nat.mul_one, Nat.add_zero, Nat.zero_add]); first | (with_reducible assumption) | rfl)) | (apply And.intro; (first | rfl | (with_reducible assumption) | (simp <;> omega))))) <;> (try (conv => whnf))
    exact congrArg (fun l => H.set ra (.row l va)) (acL_wrZ hx _)

theorem Alk.len {A B : List Ac} (h : Alk A B) : B.length = A.length := by
  rcases Nat.lt_trichotomy A.length B.length with hl | hl | hl
  · have := (h A.length).2 (List.getElem?_eq_none (Nat.le_refl _))
    rw [List.getElem?_eq_getElem hl] at this; cases this
  · exact hl.symm
  · obtain ⟨g, hg⟩ := (h B.length).1 _ (List.getElem?_eq_getElem hl)
    rw [List.getElem?_eq_none (Nat.le_refl _)] at hg; cases hg
/-- The way back along the steps, with something done at every arc. -/
def runW {S : Type} (Af : S → List Ac) (nx : S → Nat → Ac → Bool → S) (st : Nat → Nat × Bool) : Nat → Nat → S → S
  | 0, _, s => s
  | k + 1, v, s => match (Af s)[(st v).1]? with
    | some x => runW Af nx st k (tl x (st v).2) (nx s (st v).1 x (st v).2)
    | none => s
/-- What is known of memory on the way. -/
structure WkAt (H : AH) (n r to rs g ra len : Nat) (vg va : Nat) (lim : Option Nat) (A : List Ac) (st : Nat → Nat × Bool) (ct cf cs cg : Nat) : Prop where
  wt : H ct = some (.row [.int .i64 to] 0)
  wf : H cf = some (.row [.int .i64 r] 0)
  ws : H cs = some (.row [.sl rs 0 2 0 (n + 1) none] 0)
  wg : H cg = some (.row [.ptr g vg 0] 0)
  wrs : H rs = some (.row (stL (n + 1) st) 0)
  whg : H g = some (.row [.int .i64 n, .sl ra va 5 0 len lim] vg)
  wra : H ra = some (.row (acL A) va)
set_option maxRecDepth 8000 in
theorem walk_c {S : Type} (n : Nat) (hnn : n ≤ 100) (A0 : List Ac) (hA : ∀ x ∈ A0, AcOk n x) (hl : A0.length ≤ 100000) (st : Nat → Nat × Bool) (r : Nat) (Af : S → List Ac) (nx : S → Nat → Ac → Bool → S) (Hf : S → AH) (P : Nat → Nat → S → Prop) (gd cb vb rs g ra vg va : Nat) (lim : Option Nat) (to ct cf cs cg : Nat)
    (hW : ∀ s, WkAt (Hf s) n r to rs g ra A0.length vg va lim (Af s) st ct cf cs cg)
    (hstep : ∀ k v s x0, Chn A0 st r (k + 1) v → A0[(st v).1]? = some x0 → P (k + 1) v s → ∃ x, (Af s)[(st v).1]? = some x ∧
      ACall Try.prog gd [.ptr ra va (0 + ((st v).1 : Int).toNat * 5), .bool (st v).2, .ptr cb vb 0] (Hf s) (fun y H' => y = .tup [] ∧ H' = Hf (nx s (st v).1 x (st v).2)) ∧ P k (tl x0 (st v).2) (nx s (st v).1 x (st v).2) ∧
      (∃ x', (Af (nx s (st v).1 x (st v).2))[(st v).1]? = some x' ∧ x'.a = x0.a ∧ x'.b = x0.b) ∧ (Af (nx s (st v).1 x (st v).2)).length = A0.length ∧ x.a = x0.a ∧ x.b = x0.b)
    (k0 : Nat) (s0 : S) (hk0 : Chn A0 st r k0 to) (hto : to ≤ n) (hP : P k0 to s0) :
    ACall Try.prog 69 [.fn (.func gd) [] [.ptr cb vb 0], .ptr ct 0 0, .ptr cf 0 0, .ptr cs 0 0, .ptr cg 0 0] (Hf s0) (fun y H' => y = .tup [] ∧ H' = Hf (runW Af nx st k0 to s0)) := by
  have w0 := (hW s0).wt
  refine ACall_of tt_ok (dok _) Try.func69 rfl (by decide) rfl ?_
  (repeat' ((conv => whnf); first | refine Then.mk ?_ | refine OpsA.cons ?_ | refine OpsA.nil ?_ | refine AWq.seq ?_ | refine AWq.region ?_ | refine AWq.cond ?_ | refine AWq.block ?_ | refine AWq.skip ?_ | refine AWq.exit ?_ | refine AWq.loop ?_ | refine DrawA.consD ?_ | refine DrawA.nil ?_ | refine AWq.draw (by decide +kernel) ?_ | (refine Both.mk ?_ ?_ <;> intro hc <;> (first | exact Bool.noConfusion hc | exact absurd (by with_reducible rfl) hc | exact absurd (by assumption) hc | skip)) | (intro c hc; (try (simp only [AH.none_iff] at hc; repeat (have hn := hc.1; replace hc := hc.2))); (first | skip)) | (apply Exists.intro; apply And.intro; (first | (focus (repeat (first | (with_reducible assumption) | (with_reducible exact AH.set_same _ _ _))); done))) | (apply Exists.intro; apply And.intro; first | (with_reducible assumption) | ((try simp only [List.getElem?_drop, Nat.mul_one, Nat.add_zero, Nat.zero_add]); first | (with_reducible assumption) | assumption | rfl)) | (apply And.intro; (first | rfl | (with_reducible assumption) | exact Nat.le_of_ble_eq_true rfl | omega | assumption | (simp <;> omega) | (focus (repeat' (first | (with_reducible assumption) | rfl | apply one_take | apply one_drop)); done))))) <;> (try (conv => whnf))
  refine AWp_loop (σ := Nat × Nat × S) (6 :: 7 :: 8 :: 10 :: 11 :: 12 :: 13 :: 14 :: 15 :: 16 :: 17 :: 18 :: 19 :: 20 :: 21 :: 22 :: 23 :: 24 :: 25 :: 26 :: 27 :: 28 :: 29 :: 30 :: 31 :: 32 :: 33 :: 34 :: 35 :: 36 :: 37 :: 38 :: []) (fun z => [(6, .int .i64 z.2.1)]) (fun z => Hf z.2.2) (fun z => Chn A0 st r z.1 z.2.1 ∧ z.2.1 ≤ n ∧ P z.1 z.2.1 z.2.2 ∧ runW Af nx st z.1 z.2.1 z.2.2 = runW Af nx st k0 to s0) (fun z => z.1) (k0, to, s0) rfl ⟨hk0, hto, hP, rfl⟩ ⟨rfl, trivial⟩ (HLe.refl _) ?_
  rintro ⟨k, v, s⟩ ⟨hc, hv, hal, hrun⟩
  dsimp only at hc hv hal hrun ⊢
  refine AWp.of tt_ok (dok _) rfl ?_
  obtain ⟨wt, wf, ws, wg, wrs, whg, wra⟩ := hW s
  cases k with
  | zero =>
    have hvr : v = r := hc
    subst hvr
    (repeat' ((conv => whnf); first | refine Then.mk ?_ | refine OpsA.cons ?_ | refine OpsA.nil ?_ | refine AWq.seq ?_ | refine AWq.region ?_ | refine AWq.cond ?_ | refine AWq.block ?_ | refine AWq.skip ?_ | refine AWq.exit ?_ | refine AWq.loop ?_ | refine DrawA.consD ?_ | refine DrawA.nil ?_ | refine AWq.draw (by decide +kernel) ?_ | (refine Both.mk ?_ ?_ <;> intro hc <;> (first | exact Bool.noConfusion hc | exact absurd (by with_reducible rfl) hc | exact absurd (by assumption) hc | skip)) | (intro c hc; (try (simp only [AH.none_iff] at hc; repeat (have hn := hc.1; replace hc := hc.2))); (first | skip)) | (apply Exists.intro; apply And.intro; (first | (focus (repeat (first | (with_reducible assumption) | (with_reducible exact AH.set_same _ _ _))); done))) | (apply Exists.intro; apply And.intro; first | (with_reducible assumption) | ((try simp only [List.getElem?_drop, Nat.mul_one, Nat.add_zero, Nat.zero_add]); first | (with_reducible assumption) | assumption | rfl)) | (apply And.intro; (first | rfl | (with_reducible assumption) | exact Nat.le_of_ble_eq_true rfl | omega | assumption | (simp <;> omega) | (focus (repeat' (first | (with_reducible assumption) | rfl | apply one_take | apply one_drop)); done))))) <;> (try (conv => whnf))
    rw [← hrun]; rfl
  | succ k =>
    have hch := hc
    obtain ⟨hne, x0, h1, h2, h3, h4⟩ := hc
    have hne' : (v : Int) ≠ r := by omega
    have hil : (st v).1 < A0.length := (List.getElem?_eq_some_iff.1 h1).1
    have hok0 := hA x0 (List.mem_of_getElem? h1)
    have htl := tl_le hok0 (st v).2
    obtain ⟨x, hx1, hd1, hal2, ⟨x', hx2, ea, eb⟩, hAll, eax, ebx⟩ := hstep k v s x0 hch h1 hal
    have hrun2 : runW Af nx st (k + 1) v s = runW Af nx st k (tl x0 (st v).2) (nx s (st v).1 x (st v).2) := by
      show (match (Af s)[(st v).1]? with | some x => _ | none => _) = _
      rw [hx1]
      show runW Af nx st k (tl x (st v).2) _ = _
      have : tl x (st v).2 = tl x0 (st v).2 := by unfold tl; rw [eax, ebx]
      rw [this]
    rw [hrun2] at hrun
    have hseg := stL_segZ st (show v < n + 1 by omega)
    have hsl := stL_len (n + 1) st
    have hso := stL_one (n + 1) st
    have wra2 := (hW (nx s (st v).1 x (st v).2)).wra
    have ga := acL_get hx2 0 (by decide)
    have gb := acL_get hx2 1 (by decide)
    have hfa : (acA x')[0]? = some (.int .i64 x0.a) := by
      show some (AV.int .i64 (x'.a : Int)) = _; rw [ea]
    have hfb : (acA x')[1]? = some (.int .i64 x0.b) := by
      show some (AV.int .i64 (x'.b : Int)) = _; rw [eb]
    rw [hfa] at ga
    rw [hfb] at gb
    have hcl := acL_len (Af (nx s (st v).1 x (st v).2))
    generalize hS2 : nx s (st v).1 x (st v).2 = s2 at *
    generalize hp : st v = p at *
    obtain ⟨j, up⟩ := p
    (iterate 3 ((repeat' ((conv => whnf); first | refine OpsA.cons ?_ | refine OpsA.nil ?_ | refine AWq.seq ?_ | refine AWq.region ?_ | refine AWq.cond ?_ | refine AWq.block ?_ | refine AWq.skip ?_ | refine AWq.exit ?_ | refine AWq.loop ?_ | refine DrawA.consD ?_ | refine DrawA.nil ?_ | refine AWq.draw (by decide +kernel) ?_ | (refine Both.mk ?_ ?_ <;> intro hc <;> (first | exact Bool.noConfusion hc | exact absurd (by with_reducible rfl) hc | exact absurd (by assumption) hc | skip)) | (intro c hc; (try (simp only [AH.none_iff] at hc; repeat (have hn := hc.1; replace hc := hc.2))); (first | skip)) | (apply Exists.intro; apply And.intro; (first | (focus (repeat (first | (with_reducible assumption) | (with_reducible exact AH.set_same _ _ _))); done))) | (apply Exists.intro; apply And.intro; first | (with_reducible assumption) | ((try simp only [List.getElem?_drop, Nat.mul_one, Nat.add_zero, Nat.zero_add]); first | (with_reducible assumption) | assumption | rfl)) | (apply And.intro; (first | rfl | (with_reducible assumption) | exact Nat.le_of_ble_eq_true rfl | omega | assumption | (simp <;> omega) | (focus (repeat' (first | (with_reducible assumption) | rfl | apply one_take | apply one_drop)); done))))) <;> (try (conv => whnf)); refine Then.mk ?_))
    refine AWq.in ?_
    refine AWp_segP 7 (stA (j, up)) rfl rfl (by (first | assumption | (simp only [AH.none_iff]; (repeat' (first | assumption | (refine And.intro ?_ ?_)))))) hseg rfl ?_
    refine AWp.of tt_ok (dok _) rfl ?_
    cases up with
    | true =>
      (repeat' ((conv => whnf); first | refine Then.mk ?_ | refine OpsA.cons ?_ | refine OpsA.nil ?_ | refine AWq.seq ?_ | refine AWq.region ?_ | refine AWq.cond ?_ | refine AWq.block ?_ | refine AWq.skip ?_ | refine AWq.exit ?_ | refine AWq.loop ?_ | refine DrawA.consD ?_ | refine DrawA.nil ?_ | refine AWq.draw (by decide +kernel) ?_ | (refine Both.mk ?_ ?_ <;> intro hc <;> (first | exact Bool.noConfusion hc | exact absurd (by with_reducible rfl) hc | exact absurd (by assumption) hc | skip)) | (intro c hc; (try (simp only [AH.none_iff] at hc; repeat (have hn := hc.1; replace hc := hc.2))); (first | skip)) | (apply Exists.intro; apply And.intro; (first | (focus (repeat (first | (with_reducible assumption) | (with_reducible exact AH.set_same _ _ _))); done))) | (apply Exists.intro; apply And.intro; first | (with_reducible assumption) | ((try simp only [List.getElem?_drop, Nat.mul_one, Nat.add_zero, Nat.zero_add]); first | (with_reducible assumption) | assumption | rfl)) | (apply And.intro; (first | rfl | (with_reducible assumption) | exact Nat.le_of_ble_eq_true rfl | omega | assumption | (simp <;> omega) | (focus (repeat' (first | (with_reducible assumption) | rfl | apply one_take | apply one_drop)); done))) | (refine ACall.to (hd1) ?_))) <;> (try (conv => whnf))
      exact ⟨(k, tl x0 true, s2), ⟨h4, htl, hal2, hrun⟩, Nat.lt_succ_self k, ⟨rfl, trivial⟩, HLe.refl _⟩
    | false =>
      (repeat' ((conv => whnf); first | refine Then.mk ?_ | refine OpsA.cons ?_ | refine OpsA.nil ?_ | refine AWq.seq ?_ | refine AWq.region ?_ | refine AWq.cond ?_ | refine AWq.block ?_ | refine AWq.skip ?_ | refine AWq.exit ?_ | refine AWq.loop ?_ | refine DrawA.consD ?_ | refine DrawA.nil ?_ | refine AWq.draw (by decide +kernel) ?_ | (refine Both.mk ?_ ?_ <;> intro hc <;> (first | exact Bool.noConfusion hc | exact absurd (by with_reducible rfl) hc | exact absurd (by assumption) hc | skip)) | (intro c hc; (try (simp only [AH.none_iff] at hc; repeat (have hn := hc.1; replace hc := hc.2))); (first | skip)) | (apply Exists.intro; apply And.intro; (first | (focus (repeat (first | (with_reducible assumption) | (with_reducible exact AH.set_same _ _ _))); done))) | (apply Exists.intro; apply And.intro; first | (with_reducible assumption) | ((try simp only [List.getElem?_drop, Nat.mul_one, Nat.add_zero, Nat.zero_add]); first | (with_reducible assumption) | assumption | rfl)) | (apply And.intro; (first | rfl | (with_reducible assumption) | exact Nat.le_of_ble_eq_true rfl | omega | assumption | (simp <;> omega) | (focus (repeat' (first | (with_reducible assumption) | rfl | apply one_take | apply one_drop)); done))) | (refine ACall.to (hd1) ?_))) <;> (try (conv => whnf))
      exact ⟨(k, tl x0 false, s2), ⟨h4, htl, hal2, hrun⟩, Nat.lt_succ_self k, ⟨rfl, trivial⟩, HLe.refl _⟩
/-- Flow is moved through one arc. -/
structure MvP (n : Nat) (A0 : List Ac) (s : Nat → Nat × Bool) (r : Nat) (z : Int) (k v : Nat) (A : List Ac) : Prop where
  alk : Alk A0 A
  ok : ∀ x ∈ A, AcOk n x
  cap : Cap A0 s z k v
  fresh : ∀ j u, j < k → Chn A0 s r (j + 1) u → A[(s u).1]? = A0[(s u).1]?
theorem mv_step {n : Nat} {A0 : List Ac} {s : Nat → Nat × Bool} {r : Nat} {z : Int} (hz : 0 ≤ z) {k v : Nat} {A : List Ac} {x : Ac} (hc0 : Chn A0 s r (k + 1) v) (h1 : A0[(s v).1]? = some x) (h : MvP n A0 s r z (k + 1) v A) :
    A[(s v).1]? = some x ∧ MvP n A0 s r z k (tl x (s v).2) (A.set (s v).1 (addF x (sgn (s v).2 z))) := by
  obtain ⟨hA, hb, hcap, hf⟩ := h
  have hAx : A[(s v).1]? = some x := (hf k v (Nat.lt_succ_self _) hc0).trans h1
  obtain ⟨c1, c2⟩ := hcap x h1
  refine ⟨hAx, hA.trans (Alk.set hAx _), fun y hy => ?_, c2, fun j u hj hu => ?_⟩
  · rcases List.mem_or_eq_of_mem_set hy with h | h
    · exact hb y h
    · subst h
      obtain ⟨xa, xb, d1, d2, w1, w2, f1, f2⟩ := hb x (List.mem_of_getElem? hAx)
      refine ⟨xa, xb, d1, d2, w1, w2, ?_, ?_⟩
      · show -x.w ≤ x.f + sgn (s v).2 z
        unfold rsd at c1; unfold sgn
        split <;> rename_i hh <;> simp only [hh, if_true] at c1 <;> first | omega | (rw [if_neg (by simp)] at c1; omega)
      · show x.f + sgn (s v).2 z ≤ x.w
        unfold rsd at c1; unfold sgn
        split <;> rename_i hh <;> simp only [hh, if_true] at c1 <;> first | omega | (rw [if_neg (by simp)] at c1; omega)
  · rw [List.getElem?_set_ne (chn_arc hc0 hu hj).symm]
    exact hf j u (by omega) hu
end Go.Proofs.Ytebflkgpbbjhnaa
/- The walks of balance: move. -/
namespace Go.Proofs.Ytebflkgpbbjhnaa
open Go.Fw Go
set_option linter.unusedVariables false
set_option linter.unusedSimpArgs false

theorem run_mn (A : List Ac) (st : Nat → Nat × Bool) : ∀ (k v : Nat) (b : Int), runW (fun _ : Int => A) (fun b _ x up => min b (rsd x up)) st k v b = mnF A st k v b
  | 0, _, _ => rfl
  | k + 1, v, b => by
    cases hx : A[(st v).1]? with
    | none => simp only [runW, mnF, hx]
    | some x => simp only [runW, mnF, hx, run_mn A st k]
theorem run_mv (st : Nat → Nat × Bool) (z : Int) : ∀ (k v : Nat) (A : List Ac), runW (fun A : List Ac => A) (fun A i x up => A.set i (addF x (sgn up z))) st k v A = mvF st z k v A
  | 0, _, _ => rfl
  | k + 1, v, A => by
    cases hx : A[(st v).1]? with
    | none => simp only [runW, mvF, hx]
    | some x => simp only [runW, mvF, hx, run_mv st z k]
/-- What is looked for: a node with a negative sum that is reached. -/
def cand (A : List Ac) (d : Nat → Int) (v : Nat) : Prop := netN A v < 0 ∧ d v < far
theorem one0_0 {n r : Nat} {p : Nat → Int} {A : List Ac} (hp0 : ∀ v, v ≤ n → 0 ≤ p v ∧ p v ≤ 65536 * (n + 1)) (hn : n ≤ 100) (hr : r ≤ n) : DI A n p (one0 r) (-p r) ⟨one0 r, fun _ => (0, false)⟩ := by
  have hfar : far = 1125899906842624 := rfl
  refine ⟨fun v hv => ?_, fun v hv => Int.le_refl _, fun v hv hl => ?_, fun v hv => .inl rfl⟩
  · have h1 := hp0 v hv
    have h2 := hp0 r hr
    show _ ≤ one0 r v - p v
    unfold one0
    split
    · rename_i e; rw [e]; omega
    · omega
  · have hl : one0 r v < far := hl
    show one0 r v ≤ _
    unfold one0 at hl ⊢
    split
    · omega
    · rename_i e; rw [if_neg e] at hl; omega
set_option maxHeartbeats 4000000 in
set_option maxRecDepth 8000 in
theorem move_c (n : Nat) (hnn : n ≤ 100) (A : List Ac) (hJ : J n A) (hl : A.length ≤ 100000) (r : Nat) (hr : r ≤ n) (hrp : 0 < netN A r) (H : AH) (g vg ra va : Nat) (lim : Option Nat) (hN : NetAt H n A g vg ra va lim) :
    ACall Try.prog 40 [.ptr g vg 0, .int .i64 r, .cs (dL (n + 1) (netN A)) (n + 1)] H (fun y H' => ∃ A', J n A' ∧ posN A' n < posN A n ∧ Alk A A' ∧ y = .tup [] ∧ H' = H.set ra (.row (acL A') va)) := by
  obtain ⟨hA, p, hp, hpb⟩ := hJ
  have hRep := fun H => Repeat_c far (n + 1) (by omega) (by omega) H
  obtain ⟨hg, ha, hgr⟩ := hN
  refine ACall.told ?_
  refine ACall_of tt_ok (dok _) Try.func40 rfl (by decide) rfl ?_
  (repeat' ((conv => whnf); first | refine Then.mk ?_ | left | refine OpsA.cons ?_ | refine OpsA.nil ?_ | refine AWq.seq ?_ | refine AWq.region ?_ | refine AWq.cond ?_ | refine AWq.block ?_ | refine AWq.skip ?_ | refine AWq.exit ?_ | refine AWq.loop ?_ | refine DrawA.consD ?_ | refine DrawA.nil ?_ | refine AWq.draw (by decide +kernel) ?_ | (refine Both.mk ?_ ?_ <;> intro hc <;> (first | exact Bool.noConfusion hc | exact absurd (by assumption) hc | exact absurd hc (by assumption) | (exfalso; omega) | skip)) | (intro c hc; (try (simp only [AH.none_iff] at hc; repeat (have hn := hc.1; replace hc := hc.2))); (first | (refine i64_k hc ?_ ?_ ?_ ; omega; omega; (clear hc; intro hc; subst hc)) | skip)) | (apply Exists.intro; apply And.intro; (first | (focus (repeat (first | (with_reducible assumption) | (with_reducible exact AH.set_same _ _ _) | ((first | refine AH.get_ne ?_ ?_); (first | (with_reducible assumption) | exact Ne.symm (by with_reducible assumption) | exact AH.ne_none (by with_reducible assumption) (by with_reducible assumption))))); done))) | (apply Exists.intro; apply And.intro; first | (with_reducible assumption) | ((try simp only [List.getElem?_drop, Nat.mul_one, Nat.add_zero, Nat.zero_add]); first | (with_reducible assumption) | assumption | rfl)) | (apply Exists.intro; apply And.intro; (focus (intro G; ((conv => whnf); (try left); (conv => whnf); first | (intro c hc; subst hc; exact And.intro rfl rfl))))) | (apply And.intro; (first | rfl | (with_reducible assumption) | exact Nat.le_of_ble_eq_true rfl | omega | assumption | (simp <;> omega))))) <;> (try (conv => whnf))
  rename_i c3 hc3
  (obtain ⟨c4, hq_⟩ : ∃ c4, c4 = c := ⟨_, rfl⟩); subst hq_
  have hc4 : H c4 = none := hc
  have h43 : c4 ≠ c3 := hn
  have n3g : c3 ≠ g := AH.ne_none hc3 hg |>.symm
  have n3a : c3 ≠ ra := AH.ne_none hc3 ha |>.symm
  have n4g : c4 ≠ g := AH.ne_none hc4 hg |>.symm
  have n4a : c4 ≠ ra := AH.ne_none hc4 ha |>.symm
  obtain ⟨G, hG⟩ : ∃ G, G = (H.set c3 (.row [.ptr g vg 0] 0)).set c4 (.row [.int .i64 r] 0) := ⟨_, rfl⟩
  have g3 : G c3 = some (.row [.ptr g vg 0] 0) := by rw [hG]; (focus (repeat (first | (with_reducible assumption) | (with_reducible exact AH.set_same _ _ _) | ((first | refine AH.get_ne ?_ ?_); (first | (with_reducible assumption) | exact Ne.symm (by with_reducible assumption) | exact AH.ne_none (by with_reducible assumption) (by with_reducible assumption))))); done)
  have g4 : G c4 = some (.row [.int .i64 r] 0) := by rw [hG]; (focus (repeat (first | (with_reducible assumption) | (with_reducible exact AH.set_same _ _ _) | ((first | refine AH.get_ne ?_ ?_); (first | (with_reducible assumption) | exact Ne.symm (by with_reducible assumption) | exact AH.ne_none (by with_reducible assumption) (by with_reducible assumption))))); done)
  have gg : G g = some (.row [.int .i64 n, .sl ra va 5 0 A.length lim] vg) := by rw [hG]; (focus (repeat (first | (with_reducible assumption) | (with_reducible exact AH.set_same _ _ _) | ((first | refine AH.get_ne ?_ ?_); (first | (with_reducible assumption) | exact Ne.symm (by with_reducible assumption) | exact AH.ne_none (by with_reducible assumption) (by with_reducible assumption))))); done)
  have ga : G ra = some (.row (acL A) va) := by rw [hG]; (focus (repeat (first | (with_reducible assumption) | (with_reducible exact AH.set_same _ _ _) | ((first | refine AH.get_ne ?_ ?_); (first | (with_reducible assumption) | exact Ne.symm (by with_reducible assumption) | exact AH.ne_none (by with_reducible assumption) (by with_reducible assumption))))); done)
  refine ACall.mono (hRep ((H.set c3 (.row [.ptr g vg 0] 0)).set c4 (.row [.int .i64 r] 0))) ?_
  rw [← hG]
  rintro y H' ⟨rd, hrd, rfl, rfl⟩
  have ndg : g ≠ rd := AH.ne_none hrd gg
  have nda : ra ≠ rd := AH.ne_none hrd ga
  have nd3 : c3 ≠ rd := AH.ne_none hrd g3
  have nd4 : c4 ≠ rd := AH.ne_none hrd g4
  have hdl := dL_len (n + 1) fun _ => far
  (repeat' ((conv => whnf); first | left | refine OpsA.cons ?_ | refine OpsA.nil ?_ | refine AWq.seq ?_ | refine AWq.region ?_ | refine AWq.cond ?_ | refine AWq.block ?_ | refine AWq.skip ?_ | refine AWq.exit ?_ | refine AWq.loop ?_ | refine DrawA.consD ?_ | refine DrawA.nil ?_ | refine AWq.draw (by decide +kernel) ?_ | (refine Both.mk ?_ ?_ <;> intro hc <;> (first | exact Bool.noConfusion hc | exact absurd (by assumption) hc | exact absurd hc (by assumption) | (exfalso; omega) | skip)) | (intro c hc; (try (simp only [AH.none_iff] at hc; repeat (have hn := hc.1; replace hc := hc.2))); (first | (refine i64_k hc ?_ ?_ ?_ ; omega; omega; (clear hc; intro hc; subst hc)) | skip)) | (apply Exists.intro; apply And.intro; (first | (focus (repeat (first | (with_reducible assumption) | (with_reducible exact AH.set_same _ _ _) | ((first | refine AH.get_ne ?_ ?_); (first | (with_reducible assumption) | exact Ne.symm (by with_reducible assumption) | exact AH.ne_none (by with_reducible assumption) (by with_reducible assumption))))); done))) | (apply Exists.intro; apply And.intro; first | (with_reducible assumption) | ((try simp only [List.getElem?_drop, Nat.mul_one, Nat.add_zero, Nat.zero_add]); first | (with_reducible assumption) | assumption | rfl)) | (apply Exists.intro; apply And.intro; (focus (intro G; ((conv => whnf); (try left); (conv => whnf); first | (intro c hc; subst hc; exact And.intro rfl rfl))))) | (apply And.intro; (first | rfl | (with_reducible assumption) | exact Nat.le_of_ble_eq_true rfl | omega | assumption | (simp <;> omega))))) <;> (try (conv => whnf))
  refine Then.mk ?_
  (repeat' ((conv => whnf); first | left | refine OpsA.cons ?_ | refine OpsA.nil ?_ | refine AWq.seq ?_ | refine AWq.region ?_ | refine AWq.cond ?_ | refine AWq.block ?_ | refine AWq.skip ?_ | refine AWq.exit ?_ | refine AWq.loop ?_ | refine DrawA.consD ?_ | refine DrawA.nil ?_ | refine AWq.draw (by decide +kernel) ?_ | (refine Both.mk ?_ ?_ <;> intro hc <;> (first | exact Bool.noConfusion hc | exact absurd (by assumption) hc | exact absurd hc (by assumption) | (exfalso; omega) | skip)) | (intro c hc; (try (simp only [AH.none_iff] at hc; repeat (have hn := hc.1; replace hc := hc.2))); (first | (refine i64_k hc ?_ ?_ ?_ ; omega; omega; (clear hc; intro hc; subst hc)) | skip)) | (apply Exists.intro; apply And.intro; (first | (focus (repeat (first | (with_reducible assumption) | (with_reducible exact AH.set_same _ _ _) | ((first | refine AH.get_ne ?_ ?_); (first | (with_reducible assumption) | exact Ne.symm (by with_reducible assumption) | exact AH.ne_none (by with_reducible assumption) (by with_reducible assumption))))); done))) | (apply Exists.intro; apply And.intro; first | (with_reducible assumption) | ((try simp only [List.getElem?_drop, Nat.mul_one, Nat.add_zero, Nat.zero_add]); first | (with_reducible assumption) | assumption | rfl)) | (apply Exists.intro; apply And.intro; (focus (intro G; ((conv => whnf); (try left); (conv => whnf); first | (intro c hc; subst hc; exact And.intro rfl rfl))))) | (apply And.intro; (first | rfl | (with_reducible assumption) | exact Nat.le_of_ble_eq_true rfl | omega | assumption | (simp <;> omega))))) <;> (try (conv => whnf))
  refine Then.mk (AWq.in ?_)
  have hone : wrA (dL (n + 1) fun _ => far) (0 + (r : Int).toNat * 1) [.int .i64 0] = dL (n + 1) (one0 r) := dL_wrZ (n := n + 1) (fun _ => far) (show r < n + 1 by omega) 0
  refine AWp_less (G.set rd (.row (dL (n + 1) (one0 r)) 0)) (HLe.of_eq (by rw [← hone]; exact (AH.set_set _ _ _ _).symm)) ?_
  refine AWp.of tt_ok (dok _) rfl ?_
  clear hone
  have hdist := distances_c n hnn A hA hl (fun σ => DI A n p (one0 r) (-p r) σ ∧ ∀ v, v ≤ n → σ.d v < far → ∃ k, Chn A σ.s r k v) (fun σ => wgt p (-p r) σ.d n)
    (fun σ i x up hq hx hR => ⟨⟨hq.1.rlx hA hp hnn hx hR, chn_rlx hq.1 hA hp rfl hnn hx hR hq.2⟩, hq.1.less hA hp hx hR⟩)
    (fun σ hq v hv => by
      have h1 := hq.1.low v hv
      have h2 := hq.1.dec v hv
      have h3 := hpb v hv
      have h4 := hpb r hr
      have h5 : one0 r v ≤ far := by unfold one0; have : far = 1125899906842624 := rfl; split <;> omega
      have : far = 1125899906842624 := rfl
      omega)
    (one0 r) ⟨one0_0 hpb hnn hr, fun v hv hl => ⟨0, by
      show v = r
      apply Classical.byContradiction
      intro e
      have hl : one0 r v < far := hl
      unfold one0 at hl
      rw [if_neg e] at hl; omega⟩⟩
    (G.set rd (.row (dL (n + 1) (one0 r)) 0)) g vg ra va lim none ⟨by (focus (repeat (first | (with_reducible assumption) | (with_reducible exact AH.set_same _ _ _) | ((first | refine AH.get_ne ?_ ?_); (first | (with_reducible assumption) | exact Ne.symm (by with_reducible assumption) | exact AH.ne_none (by with_reducible assumption) (by with_reducible assumption))))); done), by (focus (repeat (first | (with_reducible assumption) | (with_reducible exact AH.set_same _ _ _) | ((first | refine AH.get_ne ?_ ?_); (first | (with_reducible assumption) | exact Ne.symm (by with_reducible assumption) | exact AH.ne_none (by with_reducible assumption) (by with_reducible assumption))))); done), hgr⟩ rd 0 (AH.set_same _ _ _) (Ne.symm ndg) (Ne.symm nda)
  (repeat' ((conv => whnf); first | left | refine OpsA.cons ?_ | refine OpsA.nil ?_ | refine AWq.seq ?_ | refine AWq.region ?_ | refine AWq.cond ?_ | refine AWq.block ?_ | refine AWq.skip ?_ | refine AWq.exit ?_ | refine AWq.loop ?_ | refine DrawA.consD ?_ | refine DrawA.nil ?_ | refine AWq.draw (by decide +kernel) ?_ | (refine Both.mk ?_ ?_ <;> intro hc <;> (first | exact Bool.noConfusion hc | exact absurd (by assumption) hc | exact absurd hc (by assumption) | (exfalso; omega) | skip)) | (intro c hc; (try (simp only [AH.none_iff] at hc; repeat (have hn := hc.1; replace hc := hc.2))); (first | (refine i64_k hc ?_ ?_ ?_ ; omega; omega; (clear hc; intro hc; subst hc)) | skip)) | (apply Exists.intro; apply And.intro; (first | (focus (repeat (first | (with_reducible assumption) | (with_reducible exact AH.set_same _ _ _) | ((first | refine AH.get_ne ?_ ?_); (first | (with_reducible assumption) | exact Ne.symm (by with_reducible assumption) | exact AH.ne_none (by with_reducible assumption) (by with_reducible assumption))))); done))) | (apply Exists.intro; apply And.intro; first | (with_reducible assumption) | ((try simp only [List.getElem?_drop, Nat.mul_one, Nat.add_zero, Nat.zero_add]); first | (with_reducible assumption) | assumption | rfl)) | (apply Exists.intro; apply And.intro; (focus (intro G; ((conv => whnf); (try left); (conv => whnf); first | (intro c hc; subst hc; exact And.intro rfl rfl))))) | (apply And.intro; (first | rfl | (with_reducible assumption) | exact Nat.le_of_ble_eq_true rfl | omega | assumption | (simp <;> omega))))) <;> (try (conv => whnf))
  refine hdist.mono ?_
  rintro y H' ⟨σ, rs, ⟨hDI, hch⟩, hst, hrs, rfl, rfl⟩
  clear hdist
  obtain ⟨E, hE⟩ : ∃ E, E = (G.set rd (.row (dL (n + 1) σ.d) 0)).set rs (.row (stL (n + 1) σ.s) 0) := ⟨_, rfl⟩
  have hEq : dsH (G.set rd (.row (dL (n + 1) (one0 r)) 0)) n rd 0 rs σ = E := by rw [hE]; unfold dsH; rw [AH.set_set]
  rw [hEq]
  have k3 : (G.set rd (.row (dL (n + 1) (one0 r)) 0)) c3 = some (.row [.ptr g vg 0] 0) := by (focus (repeat (first | (with_reducible assumption) | (with_reducible exact AH.set_same _ _ _) | ((first | refine AH.get_ne ?_ ?_); (first | (with_reducible assumption) | exact Ne.symm (by with_reducible assumption) | exact AH.ne_none (by with_reducible assumption) (by with_reducible assumption))))); done)
  have k4 : (G.set rd (.row (dL (n + 1) (one0 r)) 0)) c4 = some (.row [.int .i64 r] 0) := by (focus (repeat (first | (with_reducible assumption) | (with_reducible exact AH.set_same _ _ _) | ((first | refine AH.get_ne ?_ ?_); (first | (with_reducible assumption) | exact Ne.symm (by with_reducible assumption) | exact AH.ne_none (by with_reducible assumption) (by with_reducible assumption))))); done)
  have kg : (G.set rd (.row (dL (n + 1) (one0 r)) 0)) g = some (.row [.int .i64 n, .sl ra va 5 0 A.length lim] vg) := by (focus (repeat (first | (with_reducible assumption) | (with_reducible exact AH.set_same _ _ _) | ((first | refine AH.get_ne ?_ ?_); (first | (with_reducible assumption) | exact Ne.symm (by with_reducible assumption) | exact AH.ne_none (by with_reducible assumption) (by with_reducible assumption))))); done)
  have ka : (G.set rd (.row (dL (n + 1) (one0 r)) 0)) ra = some (.row (acL A) va) := by (focus (repeat (first | (with_reducible assumption) | (with_reducible exact AH.set_same _ _ _) | ((first | refine AH.get_ne ?_ ?_); (first | (with_reducible assumption) | exact Ne.symm (by with_reducible assumption) | exact AH.ne_none (by with_reducible assumption) (by with_reducible assumption))))); done)
  have kd : (G.set rd (.row (dL (n + 1) (one0 r)) 0)) rd = some (.row (dL (n + 1) (one0 r)) 0) := by (focus (repeat (first | (with_reducible assumption) | (with_reducible exact AH.set_same _ _ _) | ((first | refine AH.get_ne ?_ ?_); (first | (with_reducible assumption) | exact Ne.symm (by with_reducible assumption) | exact AH.ne_none (by with_reducible assumption) (by with_reducible assumption))))); done)
  have ns3 : c3 ≠ rs := AH.none_ne' hrs k3
  have ns4 : c4 ≠ rs := AH.none_ne' hrs k4
  have nsg : g ≠ rs := AH.none_ne' hrs kg
  have nsa : ra ≠ rs := AH.none_ne' hrs ka
  have nsd : rd ≠ rs := AH.none_ne' hrs kd
  have hGs : G rs = none := by rw [AH.set_ne _ _ (Ne.symm nsd)] at hrs; exact hrs
  have e3 : E c3 = some (.row [.ptr g vg 0] 0) := by rw [hE]; (focus (repeat (first | (with_reducible assumption) | (with_reducible exact AH.set_same _ _ _) | ((first | refine AH.get_ne ?_ ?_); (first | (with_reducible assumption) | exact Ne.symm (by with_reducible assumption) | exact AH.ne_none (by with_reducible assumption) (by with_reducible assumption))))); done)
  have e4 : E c4 = some (.row [.int .i64 r] 0) := by rw [hE]; (focus (repeat (first | (with_reducible assumption) | (with_reducible exact AH.set_same _ _ _) | ((first | refine AH.get_ne ?_ ?_); (first | (with_reducible assumption) | exact Ne.symm (by with_reducible assumption) | exact AH.ne_none (by with_reducible assumption) (by with_reducible assumption))))); done)
  have eg : E g = some (.row [.int .i64 n, .sl ra va 5 0 A.length lim] vg) := by rw [hE]; (focus (repeat (first | (with_reducible assumption) | (with_reducible exact AH.set_same _ _ _) | ((first | refine AH.get_ne ?_ ?_); (first | (with_reducible assumption) | exact Ne.symm (by with_reducible assumption) | exact AH.ne_none (by with_reducible assumption) (by with_reducible assumption))))); done)
  have ea : E ra = some (.row (acL A) va) := by rw [hE]; (focus (repeat (first | (with_reducible assumption) | (with_reducible exact AH.set_same _ _ _) | ((first | refine AH.get_ne ?_ ?_); (first | (with_reducible assumption) | exact Ne.symm (by with_reducible assumption) | exact AH.ne_none (by with_reducible assumption) (by with_reducible assumption))))); done)
  have ed : E rd = some (.row (dL (n + 1) σ.d) 0) := by rw [hE]; (focus (repeat (first | (with_reducible assumption) | (with_reducible exact AH.set_same _ _ _) | ((first | refine AH.get_ne ?_ ?_); (first | (with_reducible assumption) | exact Ne.symm (by with_reducible assumption) | exact AH.ne_none (by with_reducible assumption) (by with_reducible assumption))))); done)
  have es : E rs = some (.row (stL (n + 1) σ.s) 0) := by rw [hE]; (focus (repeat (first | (with_reducible assumption) | (with_reducible exact AH.set_same _ _ _) | ((first | refine AH.get_ne ?_ ?_); (first | (with_reducible assumption) | exact Ne.symm (by with_reducible assumption) | exact AH.ne_none (by with_reducible assumption) (by with_reducible assumption))))); done)
  clear k3 k4 kg ka kd
  (repeat' ((conv => whnf); first | left | refine OpsA.cons ?_ | refine OpsA.nil ?_ | refine AWq.seq ?_ | refine AWq.region ?_ | refine AWq.cond ?_ | refine AWq.block ?_ | refine AWq.skip ?_ | refine AWq.exit ?_ | refine AWq.loop ?_ | refine DrawA.consD ?_ | refine DrawA.nil ?_ | refine AWq.draw (by decide +kernel) ?_ | (refine Both.mk ?_ ?_ <;> intro hc <;> (first | exact Bool.noConfusion hc | exact absurd (by assumption) hc | exact absurd hc (by assumption) | (exfalso; omega) | skip)) | (intro c hc; (try (simp only [AH.none_iff] at hc; repeat (have hn := hc.1; replace hc := hc.2))); (first | (refine i64_k hc ?_ ?_ ?_ ; omega; omega; (clear hc; intro hc; subst hc)) | skip)) | (apply Exists.intro; apply And.intro; (first | (focus (repeat (first | (with_reducible assumption) | (with_reducible exact AH.set_same _ _ _) | ((first | refine AH.get_ne ?_ ?_); (first | (with_reducible assumption) | exact Ne.symm (by with_reducible assumption) | exact AH.ne_none (by with_reducible assumption) (by with_reducible assumption))))); done))) | (apply Exists.intro; apply And.intro; first | (with_reducible assumption) | ((try simp only [List.getElem?_drop, Nat.mul_one, Nat.add_zero, Nat.zero_add]); first | (with_reducible assumption) | assumption | rfl)) | (apply Exists.intro; apply And.intro; (focus (intro G; ((conv => whnf); (try left); (conv => whnf); first | (intro c hc; subst hc; exact And.intro rfl rfl))))) | (apply And.intro; (first | rfl | (with_reducible assumption) | exact Nat.le_of_ble_eq_true rfl | omega | assumption | (simp <;> omega))))) <;> (try (conv => whnf))
  (obtain ⟨c7, hq_⟩ : ∃ c7, c7 = c := ⟨_, rfl⟩); subst hq_
  have hc7 : E c7 = none := hc
  refine Then.mk (AWq.in ?_)
  refine AWp_less (E.set c7 (.row [.sl rs 0 2 0 (n + 1) none] 0)) (HLe.of_eq (AH.set_set _ _ _ _).symm) ?_
  refine AWp.of tt_ok (dok _) rfl ?_
  obtain ⟨F, hF⟩ : ∃ F, F = E.set c7 (.row [.sl rs 0 2 0 (n + 1) none] 0) := ⟨_, rfl⟩
  rw [← hF]
  have f3 : F c3 = some (.row [.ptr g vg 0] 0) := by rw [hF]; (focus (repeat (first | (with_reducible assumption) | (with_reducible exact AH.set_same _ _ _) | ((first | refine AH.get_ne ?_ ?_); (first | (with_reducible assumption) | exact Ne.symm (by with_reducible assumption) | exact AH.ne_none (by with_reducible assumption) (by with_reducible assumption))))); done)
  have f4 : F c4 = some (.row [.int .i64 r] 0) := by rw [hF]; (focus (repeat (first | (with_reducible assumption) | (with_reducible exact AH.set_same _ _ _) | ((first | refine AH.get_ne ?_ ?_); (first | (with_reducible assumption) | exact Ne.symm (by with_reducible assumption) | exact AH.ne_none (by with_reducible assumption) (by with_reducible assumption))))); done)
  have fg : F g = some (.row [.int .i64 n, .sl ra va 5 0 A.length lim] vg) := by rw [hF]; (focus (repeat (first | (with_reducible assumption) | (with_reducible exact AH.set_same _ _ _) | ((first | refine AH.get_ne ?_ ?_); (first | (with_reducible assumption) | exact Ne.symm (by with_reducible assumption) | exact AH.ne_none (by with_reducible assumption) (by with_reducible assumption))))); done)
  have fa : F ra = some (.row (acL A) va) := by rw [hF]; (focus (repeat (first | (with_reducible assumption) | (with_reducible exact AH.set_same _ _ _) | ((first | refine AH.get_ne ?_ ?_); (first | (with_reducible assumption) | exact Ne.symm (by with_reducible assumption) | exact AH.ne_none (by with_reducible assumption) (by with_reducible assumption))))); done)
  have fd : F rd = some (.row (dL (n + 1) σ.d) 0) := by rw [hF]; (focus (repeat (first | (with_reducible assumption) | (with_reducible exact AH.set_same _ _ _) | ((first | refine AH.get_ne ?_ ?_); (first | (with_reducible assumption) | exact Ne.symm (by with_reducible assumption) | exact AH.ne_none (by with_reducible assumption) (by with_reducible assumption))))); done)
  have fs : F rs = some (.row (stL (n + 1) σ.s) 0) := by rw [hF]; (focus (repeat (first | (with_reducible assumption) | (with_reducible exact AH.set_same _ _ _) | ((first | refine AH.get_ne ?_ ?_); (first | (with_reducible assumption) | exact Ne.symm (by with_reducible assumption) | exact AH.ne_none (by with_reducible assumption) (by with_reducible assumption))))); done)
  have f7 : F c7 = some (.row [.sl rs 0 2 0 (n + 1) none] 0) := by rw [hF]; (focus (repeat (first | (with_reducible assumption) | (with_reducible exact AH.set_same _ _ _) | ((first | refine AH.get_ne ?_ ?_); (first | (with_reducible assumption) | exact Ne.symm (by with_reducible assumption) | exact AH.ne_none (by with_reducible assumption) (by with_reducible assumption))))); done)
  (repeat' ((conv => whnf); first | left | refine OpsA.cons ?_ | refine OpsA.nil ?_ | refine AWq.seq ?_ | refine AWq.region ?_ | refine AWq.cond ?_ | refine AWq.block ?_ | refine AWq.skip ?_ | refine AWq.exit ?_ | refine AWq.loop ?_ | refine DrawA.consD ?_ | refine DrawA.nil ?_ | refine AWq.draw (by decide +kernel) ?_ | (refine Both.mk ?_ ?_ <;> intro hc <;> (first | exact Bool.noConfusion hc | exact absurd (by assumption) hc | exact absurd hc (by assumption) | (exfalso; omega) | skip)) | (intro c hc; (try (simp only [AH.none_iff] at hc; repeat (have hn := hc.1; replace hc := hc.2))); (first | (refine i64_k hc ?_ ?_ ?_ ; omega; omega; (clear hc; intro hc; subst hc)) | skip)) | (apply Exists.intro; apply And.intro; (first | (focus (repeat (first | (with_reducible assumption) | (with_reducible exact AH.set_same _ _ _) | ((first | refine AH.get_ne ?_ ?_); (first | (with_reducible assumption) | exact Ne.symm (by with_reducible assumption) | exact AH.ne_none (by with_reducible assumption) (by with_reducible assumption))))); done))) | (apply Exists.intro; apply And.intro; first | (with_reducible assumption) | ((try simp only [List.getElem?_drop, Nat.mul_one, Nat.add_zero, Nat.zero_add]); first | (with_reducible assumption) | assumption | rfl)) | (apply Exists.intro; apply And.intro; (focus (intro G; ((conv => whnf); (try left); (conv => whnf); first | (intro c hc; subst hc; exact And.intro rfl rfl))))) | (apply And.intro; (first | rfl | (with_reducible assumption) | exact Nat.le_of_ble_eq_true rfl | omega | assumption | (simp <;> omega))))) <;> (try (conv => whnf))
  (obtain ⟨c8, hq_⟩ : ∃ c8, c8 = c := ⟨_, rfl⟩); subst hq_
  have hc8 : F c8 = none := hc
  refine Then.mk (AWq.in ?_)
  refine AWp_less (F.set c8 (.row [.int .i64 (-1)] 0)) (HLe.of_eq (AH.set_set _ _ _ _).symm) ?_
  refine AWp.of tt_ok (dok _) rfl ?_
  (repeat' ((conv => whnf); first | refine Then.mk ?_ | left | refine OpsA.cons ?_ | refine OpsA.nil ?_ | refine AWq.seq ?_ | refine AWq.region ?_ | refine AWq.cond ?_ | refine AWq.block ?_ | refine AWq.skip ?_ | refine AWq.exit ?_ | refine AWq.loop ?_ | refine DrawA.consD ?_ | refine DrawA.nil ?_ | refine AWq.draw (by decide +kernel) ?_ | (refine Both.mk ?_ ?_ <;> intro hc <;> (first | exact Bool.noConfusion hc | exact absurd (by assumption) hc | exact absurd hc (by assumption) | (exfalso; omega) | skip)) | (intro c hc; (try (simp only [AH.none_iff] at hc; repeat (have hn := hc.1; replace hc := hc.2))); (first | (refine i64_k hc ?_ ?_ ?_ ; omega; omega; (clear hc; intro hc; subst hc)) | skip)) | (apply Exists.intro; apply And.intro; (first | (focus (repeat (first | (with_reducible assumption) | (with_reducible exact AH.set_same _ _ _) | ((first | refine AH.get_ne ?_ ?_); (first | (with_reducible assumption) | exact Ne.symm (by with_reducible assumption) | exact AH.ne_none (by with_reducible assumption) (by with_reducible assumption))))); done))) | (apply Exists.intro; apply And.intro; first | (with_reducible assumption) | ((try simp only [List.getElem?_drop, Nat.mul_one, Nat.add_zero, Nat.zero_add]); first | (with_reducible assumption) | assumption | rfl)) | (apply Exists.intro; apply And.intro; (focus (intro G; ((conv => whnf); (try left); (conv => whnf); first | (intro c hc; subst hc; exact And.intro rfl rfl))))) | (apply And.intro; (first | rfl | (with_reducible assumption) | exact Nat.le_of_ble_eq_true rfl | omega | assumption | (simp <;> omega))))) <;> (try (conv => whnf))
  refine AWp_loop (σ := Nat × Int) (9 :: 27 :: 28 :: 29 :: 30 :: 31 :: 32 :: 33 :: 34 :: 35 :: 36 :: 37 :: 38 :: 39 :: 40 :: 41 :: 42 :: 43 :: 44 :: 45 :: 46 :: 47 :: 48 :: 49 :: 50 :: 51 :: 52 :: 53 :: 54 :: 55 :: 56 :: 57 :: 58 :: []) (fun z => [(27, .int .i64 z.1)]) (fun z => F.set c8 (.row [.int .i64 z.2] 0))
    (fun z => z.1 ≤ n + 1 ∧ ((z.2 = -1 ∧ ∀ v, v < z.1 → ¬ cand A σ.d v) ∨ ∃ t : Nat, z.2 = t ∧ t < z.1 ∧ cand A σ.d t)) (fun z => n + 1 - z.1) (0, -1) rfl ⟨Nat.zero_le _, .inl ⟨rfl, fun v hv => absurd hv (Nat.not_lt_zero v)⟩⟩ ⟨rfl, trivial⟩ (HLe.refl _) ?_
  rintro ⟨i, to⟩ ⟨hi, hto⟩
  dsimp only at hi hto ⊢
  refine AWp.of tt_ok (dok _) rfl ?_
  by_cases hil : i < n + 1
  · have hin := dL_getZ (n := n + 1) (netN A) hil
    have hid := dL_getZ (n := n + 1) σ.d hil
    have hl1 := dL_len (n + 1) (netN A)
    have hl2 := dL_len (n + 1) σ.d
    have hdl2 := hDI.dec i (by omega)
    by_cases hc1 : netN A i < 0 ∧ σ.d i < 1125899906842624
    · rcases hto with ⟨rfl, hno⟩ | ⟨t, rfl, hti, hct⟩
      · (repeat' ((conv => whnf); first | refine Then.mk ?_ | left | refine OpsA.cons ?_ | refine OpsA.nil ?_ | refine AWq.seq ?_ | refine AWq.region ?_ | refine AWq.cond ?_ | refine AWq.block ?_ | refine AWq.skip ?_ | refine AWq.exit ?_ | refine AWq.loop ?_ | refine DrawA.consD ?_ | refine DrawA.nil ?_ | refine AWq.draw (by decide +kernel) ?_ | (refine Both.mk ?_ ?_ <;> intro hc <;> (first | exact Bool.noConfusion hc | exact absurd (by assumption) hc | exact absurd hc (by assumption) | (exfalso; omega) | skip)) | (intro c hc; (try (simp only [AH.none_iff] at hc; repeat (have hn := hc.1; replace hc := hc.2))); (first | (refine i64_k hc ?_ ?_ ?_ ; omega; omega; (clear hc; intro hc; subst hc)) | skip)) | (apply Exists.intro; apply And.intro; (first | (focus (repeat (first | (with_reducible assumption) | (with_reducible exact AH.set_same _ _ _) | ((first | refine AH.get_ne ?_ ?_); (first | (with_reducible assumption) | exact Ne.symm (by with_reducible assumption) | exact AH.ne_none (by with_reducible assumption) (by with_reducible assumption))))); done))) | (apply Exists.intro; apply And.intro; first | (with_reducible assumption) | ((try simp only [List.getElem?_drop, Nat.mul_one, Nat.add_zero, Nat.zero_add]); first | (with_reducible assumption) | assumption | rfl)) | (apply Exists.intro; apply And.intro; (focus (intro G; ((conv => whnf); (try left); (conv => whnf); first | (intro c hc; subst hc; exact And.intro rfl rfl))))) | (apply And.intro; (first | rfl | (with_reducible assumption) | exact Nat.le_of_ble_eq_true rfl | omega | assumption | (simp <;> omega))))) <;> (try (conv => whnf))
        exact ⟨(i + 1, (i : Int)), ⟨by dsimp only; omega, .inr ⟨i, rfl, by dsimp only; omega, hc1⟩⟩, by dsimp only; omega, ⟨congrArg (AV.int .i64) (by dsimp only; omega), trivial⟩, HLe.of_eq (AH.set_set _ _ _ _).symm⟩
      · have htd := dL_getZ (n := n + 1) σ.d (show t < n + 1 by omega)
        by_cases hlt : σ.d i < σ.d t
        · (repeat' ((conv => whnf); first | refine Then.mk ?_ | left | refine OpsA.cons ?_ | refine OpsA.nil ?_ | refine AWq.seq ?_ | refine AWq.region ?_ | refine AWq.cond ?_ | refine AWq.block ?_ | refine AWq.skip ?_ | refine AWq.exit ?_ | refine AWq.loop ?_ | refine DrawA.consD ?_ | refine DrawA.nil ?_ | refine AWq.draw (by decide +kernel) ?_ | (refine Both.mk ?_ ?_ <;> intro hc <;> (first | exact Bool.noConfusion hc | exact absurd (by assumption) hc | exact absurd hc (by assumption) | (exfalso; omega) | skip)) | (intro c hc; (try (simp only [AH.none_iff] at hc; repeat (have hn := hc.1; replace hc := hc.2))); (first | (refine i64_k hc ?_ ?_ ?_ ; omega; omega; (clear hc; intro hc; subst hc)) | skip)) | (apply Exists.intro; apply And.intro; (first | (focus (repeat (first | (with_reducible assumption) | (with_reducible exact AH.set_same _ _ _) | ((first | refine AH.get_ne ?_ ?_); (first | (with_reducible assumption) | exact Ne.symm (by with_reducible assumption) | exact AH.ne_none (by with_reducible assumption) (by with_reducible assumption))))); done))) | (apply Exists.intro; apply And.intro; first | (with_reducible assumption) | ((try simp only [List.getElem?_drop, Nat.mul_one, Nat.add_zero, Nat.zero_add]); first | (with_reducible assumption) | assumption | rfl)) | (apply Exists.intro; apply And.intro; (focus (intro G; ((conv => whnf); (try left); (conv => whnf); first | (intro c hc; subst hc; exact And.intro rfl rfl))))) | (apply And.intro; (first | rfl | (with_reducible assumption) | exact Nat.le_of_ble_eq_true rfl | omega | assumption | (simp <;> omega))))) <;> (try (conv => whnf))
          exact ⟨(i + 1, (i : Int)), ⟨by dsimp only; omega, .inr ⟨i, rfl, by dsimp only; omega, hc1⟩⟩, by dsimp only; omega, ⟨congrArg (AV.int .i64) (by dsimp only; omega), trivial⟩, HLe.of_eq (AH.set_set _ _ _ _).symm⟩
        · (repeat' ((conv => whnf); first | refine Then.mk ?_ | left | refine OpsA.cons ?_ | refine OpsA.nil ?_ | refine AWq.seq ?_ | refine AWq.region ?_ | refine AWq.cond ?_ | refine AWq.block ?_ | refine AWq.skip ?_ | refine AWq.exit ?_ | refine AWq.loop ?_ | refine DrawA.consD ?_ | refine DrawA.nil ?_ | refine AWq.draw (by decide +kernel) ?_ | (refine Both.mk ?_ ?_ <;> intro hc <;> (first | exact Bool.noConfusion hc | exact absurd (by assumption) hc | exact absurd hc (by assumption) | (exfalso; omega) | skip)) | (intro c hc; (try (simp only [AH.none_iff] at hc; repeat (have hn := hc.1; replace hc := hc.2))); (first | (refine i64_k hc ?_ ?_ ?_ ; omega; omega; (clear hc; intro hc; subst hc)) | skip)) | (apply Exists.intro; apply And.intro; (first | (focus (repeat (first | (with_reducible assumption) | (with_reducible exact AH.set_same _ _ _) | ((first | refine AH.get_ne ?_ ?_); (first | (with_reducible assumption) | exact Ne.symm (by with_reducible assumption) | exact AH.ne_none (by with_reducible assumption) (by with_reducible assumption))))); done))) | (apply Exists.intro; apply And.intro; first | (with_reducible assumption) | ((try simp only [List.getElem?_drop, Nat.mul_one, Nat.add_zero, Nat.zero_add]); first | (with_reducible assumption) | assumption | rfl)) | (apply Exists.intro; apply And.intro; (focus (intro G; ((conv => whnf); (try left); (conv => whnf); first | (intro c hc; subst hc; exact And.intro rfl rfl))))) | (apply And.intro; (first | rfl | (with_reducible assumption) | exact Nat.le_of_ble_eq_true rfl | omega | assumption | (simp <;> omega))))) <;> (try (conv => whnf))
          exact ⟨(i + 1, (t : Int)), ⟨by dsimp only; omega, .inr ⟨t, rfl, by dsimp only; omega, hct⟩⟩, by dsimp only; omega, ⟨congrArg (AV.int .i64) (by dsimp only; omega), trivial⟩, HLe.refl _⟩
    · have hto2 : (to = -1 ∧ ∀ v, v < i + 1 → ¬ cand A σ.d v) ∨ ∃ t : Nat, to = t ∧ t < i + 1 ∧ cand A σ.d t := by
        rcases hto with ⟨h, hno⟩ | ⟨t, h, hti, hct⟩
        · refine .inl ⟨h, fun v hv => ?_⟩
          by_cases e : v = i
          · rw [e]; exact hc1
          · exact hno v (by omega)
        · exact .inr ⟨t, h, by omega, hct⟩
      (repeat' ((conv => whnf); first | refine Then.mk ?_ | left | refine OpsA.cons ?_ | refine OpsA.nil ?_ | refine AWq.seq ?_ | refine AWq.region ?_ | refine AWq.cond ?_ | refine AWq.block ?_ | refine AWq.skip ?_ | refine AWq.exit ?_ | refine AWq.loop ?_ | refine DrawA.consD ?_ | refine DrawA.nil ?_ | refine AWq.draw (by decide +kernel) ?_ | (refine Both.mk ?_ ?_ <;> intro hc <;> (first | exact Bool.noConfusion hc | exact absurd (by assumption) hc | exact absurd hc (by assumption) | (exfalso; omega) | skip)) | (intro c hc; (try (simp only [AH.none_iff] at hc; repeat (have hn := hc.1; replace hc := hc.2))); (first | (refine i64_k hc ?_ ?_ ?_ ; omega; omega; (clear hc; intro hc; subst hc)) | skip)) | (apply Exists.intro; apply And.intro; (first | (focus (repeat (first | (with_reducible assumption) | (with_reducible exact AH.set_same _ _ _) | ((first | refine AH.get_ne ?_ ?_); (first | (with_reducible assumption) | exact Ne.symm (by with_reducible assumption) | exact AH.ne_none (by with_reducible assumption) (by with_reducible assumption))))); done))) | (apply Exists.intro; apply And.intro; first | (with_reducible assumption) | ((try simp only [List.getElem?_drop, Nat.mul_one, Nat.add_zero, Nat.zero_add]); first | (with_reducible assumption) | assumption | rfl)) | (apply Exists.intro; apply And.intro; (focus (intro G; ((conv => whnf); (try left); (conv => whnf); first | (intro c hc; subst hc; exact And.intro rfl rfl))))) | (apply And.intro; (first | rfl | (with_reducible assumption) | exact Nat.le_of_ble_eq_true rfl | omega | assumption | (simp <;> omega))))) <;> (try (conv => whnf))
      all_goals exact ⟨(i + 1, to), ⟨by dsimp only; omega, hto2⟩, by dsimp only; omega, ⟨congrArg (AV.int .i64) (by dsimp only; omega), trivial⟩, HLe.refl _⟩
  · have hie : i = n + 1 := by omega
    obtain ⟨v0, hv1, hv2, hv3⟩ := to_ex hDI hA hnn hst hr hrp
    have htt : ∃ t : Nat, to = t ∧ t < i ∧ cand A σ.d t := by
      rcases hto with ⟨h, hno⟩ | h
      · exact absurd ⟨hv3, hv2⟩ (hno v0 (by omega))
      · exact h
    clear hto
    obtain ⟨t, rfl, hti, htn, htf⟩ := htt
    have hts : t ≤ n := by omega
    obtain ⟨k, hk⟩ := hch t hts htf
    have hbt := netN_bd hA t
    have hbr := netN_bd hA r
    have gr := dL_getZ (n := n + 1) (netN A) (show r < n + 1 by omega)
    have gt := dL_getZ (n := n + 1) (netN A) (show t < n + 1 by omega)
    have hl1 := dL_len (n + 1) (netN A)
    have k4 : (F.set c8 (.row [.int .i64 t] 0)) c4 = some (.row [.int .i64 r] 0) := by (focus (repeat (first | (with_reducible assumption) | (with_reducible exact AH.set_same _ _ _) | ((first | refine AH.get_ne ?_ ?_); (first | (with_reducible assumption) | exact Ne.symm (by with_reducible assumption) | exact AH.ne_none (by with_reducible assumption) (by with_reducible assumption))))); done)
    have k8 : (F.set c8 (.row [.int .i64 t] 0)) c8 = some (.row [.int .i64 t] 0) := AH.set_same _ _ _
    (repeat' ((conv => whnf); first | refine Then.mk ?_ | left | refine OpsA.cons ?_ | refine OpsA.nil ?_ | refine AWq.seq ?_ | refine AWq.region ?_ | refine AWq.cond ?_ | refine AWq.block ?_ | refine AWq.skip ?_ | refine AWq.exit ?_ | refine AWq.loop ?_ | refine DrawA.consD ?_ | refine DrawA.nil ?_ | (refine Both.mk ?_ ?_ <;> intro hc <;> (first | exact Bool.noConfusion hc | exact absurd (by assumption) hc | exact absurd hc (by assumption) | (exfalso; omega) | skip)) | (intro c hc; (try (simp only [AH.none_iff] at hc; repeat (have hn := hc.1; replace hc := hc.2))); (first | (refine i64_k hc ?_ ?_ ?_ ; omega; omega; (clear hc; intro hc; subst hc)) | skip)) | (apply Exists.intro; apply And.intro; (first | (focus (repeat (first | (with_reducible assumption) | (with_reducible exact AH.set_same _ _ _) | ((first | refine AH.get_ne ?_ ?_); (first | (with_reducible assumption) | exact Ne.symm (by with_reducible assumption) | exact AH.ne_none (by with_reducible assumption) (by with_reducible assumption))))); done))) | (apply Exists.intro; apply And.intro; first | (with_reducible assumption) | ((try simp only [List.getElem?_drop, Nat.mul_one, Nat.add_zero, Nat.zero_add]); first | (with_reducible assumption) | assumption | rfl)) | (apply Exists.intro; apply And.intro; (focus (intro G; ((conv => whnf); (try left); (conv => whnf); first | (intro c hc; subst hc; exact And.intro rfl rfl))))) | (apply And.intro; (first | rfl | (with_reducible assumption) | exact Nat.le_of_ble_eq_true rfl | omega | assumption | (simp <;> omega))))) <;> (try (conv => whnf))
    refine AWq.in ?_
    refine AWp_spare fun a haa => ?_
    obtain ⟨nm, k0⟩ : ∃ nm : Nat → Nat, nm 0 = a := ⟨fun k => a, rfl⟩
    subst k0
    have n40 : nm 0 ≠ c4 := AH.ne_none haa k4 |>.symm
    have n80 : nm 0 ≠ c8 := AH.ne_none haa k8 |>.symm
    refine AWp.of tt_ok (dok _) rfl ?_
    refine AWq.drawK mo [(10, 0)] nm ?_ (by decide +kernel) ?_
    · intro a b ha hb hab
      simp at ha hb
      rw [ha, hb]
    (repeat' ((conv => whnf); first | refine DrawK.consD ?_ | refine DrawK.nil ?_ | (apply And.intro; (focus (repeat (first | exact trivial | (refine And.intro (a := _ ≠ _) (b := offR _ _ _) ?_ ?_; (first | assumption | omega)))); done)) | left | refine OpsA.cons ?_ | refine OpsA.nil ?_ | refine AWq.seq ?_ | refine AWq.region ?_ | refine AWq.cond ?_ | refine AWq.block ?_ | refine AWq.skip ?_ | refine AWq.exit ?_ | refine AWq.loop ?_ | refine DrawA.consD ?_ | refine DrawA.nil ?_ | refine AWq.draw (by decide +kernel) ?_ | (refine Both.mk ?_ ?_ <;> intro hc <;> (first | exact Bool.noConfusion hc | exact absurd (by assumption) hc | exact absurd hc (by assumption) | (exfalso; omega) | skip)) | (intro c hc; (try (simp only [AH.none_iff] at hc; repeat (have hn := hc.1; replace hc := hc.2))); (first | (refine i64_k hc ?_ ?_ ?_ ; omega; omega; (clear hc; intro hc; subst hc)) | skip)) | (apply Exists.intro; apply And.intro; (first | (focus (repeat (first | (with_reducible assumption) | (with_reducible exact AH.set_same _ _ _) | ((first | refine AH.get_ne ?_ ?_); (first | (with_reducible assumption) | exact Ne.symm (by with_reducible assumption) | exact AH.ne_none (by with_reducible assumption) (by with_reducible assumption))))); done))) | (apply Exists.intro; apply And.intro; first | (with_reducible assumption) | ((try simp only [List.getElem?_drop, Nat.mul_one, Nat.add_zero, Nat.zero_add]); first | (with_reducible assumption) | assumption | rfl)) | (apply Exists.intro; apply And.intro; (focus (intro G; ((conv => whnf); (try left); (conv => whnf); first | (intro c hc; subst hc; exact And.intro rfl rfl))))) | (apply And.intro; (first | rfl | (with_reducible assumption) | exact Nat.le_of_ble_eq_true rfl | omega | assumption | (simp <;> omega))))) <;> (try (conv => whnf))
    refine Then.mk (AWq.in ?_)
    have hb0 : min (netN A r) (-netN A t) ≤ 6553600000 := by omega
    have hb1 : 1 ≤ min (netN A r) (-netN A t) := by omega
    obtain ⟨b0, hb0e⟩ : ∃ b0, b0 = min (netN A r) (0 - netN A t) := ⟨_, rfl⟩
    refine AWp_less ((F.set c8 (.row [.int .i64 t] 0)).set (nm 0) (.row [.int .i64 b0] 1)) (HLe.of_eq (by rw [hb0e]; exact ((AH.set_set _ _ _ _).trans (AH.set_set _ _ _ _)).symm)) ?_
    refine AWp.of tt_ok (dok _) rfl ?_
    rw [Int.zero_sub] at hb0e
    generalize nm 0 = cb at *
    have n83 : c3 ≠ c8 := AH.none_ne' hc8 f3
    have n84 : c4 ≠ c8 := AH.none_ne' hc8 f4
    have n8g : g ≠ c8 := AH.none_ne' hc8 fg
    have n8a : ra ≠ c8 := AH.none_ne' hc8 fa
    have n8d : rd ≠ c8 := AH.none_ne' hc8 fd
    have n8s : rs ≠ c8 := AH.none_ne' hc8 fs
    have n87 : c7 ≠ c8 := AH.none_ne' hc8 f7
    have nbs := AH.none_set haa
    obtain ⟨nb8, hFb⟩ := nbs
    have nb3 : c3 ≠ cb := AH.none_ne' hFb f3
    have nb4 : c4 ≠ cb := AH.none_ne' hFb f4
    have nbg : g ≠ cb := AH.none_ne' hFb fg
    have nba : ra ≠ cb := AH.none_ne' hFb fa
    have nbd : rd ≠ cb := AH.none_ne' hFb fd
    have nbss : rs ≠ cb := AH.none_ne' hFb fs
    have nb7 : c7 ≠ cb := AH.none_ne' hFb f7
    have n7a : ra ≠ c7 := AH.none_ne' hc7 ea
    have walk1 := walk_c n hnn A hA hl σ.s r (fun _ : Int => A) (fun b _ x up => min b (rsd x up)) (fun b => (F.set c8 (.row [.int .i64 t] 0)).set cb (.row [.int .i64 b] 1)) (fun _ _ _ => True) 70 cb 1 rs g ra vg va lim t c8 c4 c7 c3
      (fun b => ⟨by (focus (repeat (first | (with_reducible assumption) | (with_reducible exact AH.set_same _ _ _) | ((first | refine AH.get_ne ?_ ?_); (first | (with_reducible assumption) | exact Ne.symm (by with_reducible assumption) | exact AH.ne_none (by with_reducible assumption) (by with_reducible assumption))))); done), by (focus (repeat (first | (with_reducible assumption) | (with_reducible exact AH.set_same _ _ _) | ((first | refine AH.get_ne ?_ ?_); (first | (with_reducible assumption) | exact Ne.symm (by with_reducible assumption) | exact AH.ne_none (by with_reducible assumption) (by with_reducible assumption))))); done), by (focus (repeat (first | (with_reducible assumption) | (with_reducible exact AH.set_same _ _ _) | ((first | refine AH.get_ne ?_ ?_); (first | (with_reducible assumption) | exact Ne.symm (by with_reducible assumption) | exact AH.ne_none (by with_reducible assumption) (by with_reducible assumption))))); done), by (focus (repeat (first | (with_reducible assumption) | (with_reducible exact AH.set_same _ _ _) | ((first | refine AH.get_ne ?_ ?_); (first | (with_reducible assumption) | exact Ne.symm (by with_reducible assumption) | exact AH.ne_none (by with_reducible assumption) (by with_reducible assumption))))); done), by (focus (repeat (first | (with_reducible assumption) | (with_reducible exact AH.set_same _ _ _) | ((first | refine AH.get_ne ?_ ?_); (first | (with_reducible assumption) | exact Ne.symm (by with_reducible assumption) | exact AH.ne_none (by with_reducible assumption) (by with_reducible assumption))))); done), by (focus (repeat (first | (with_reducible assumption) | (with_reducible exact AH.set_same _ _ _) | ((first | refine AH.get_ne ?_ ?_); (first | (with_reducible assumption) | exact Ne.symm (by with_reducible assumption) | exact AH.ne_none (by with_reducible assumption) (by with_reducible assumption))))); done), by (focus (repeat (first | (with_reducible assumption) | (with_reducible exact AH.set_same _ _ _) | ((first | refine AH.get_ne ?_ ?_); (first | (with_reducible assumption) | exact Ne.symm (by with_reducible assumption) | exact AH.ne_none (by with_reducible assumption) (by with_reducible assumption))))); done)⟩)
      (fun k v b x0 hc hx _ => ⟨x0, hx, (mv2_c A n _ x0 hx (hA x0 (List.mem_of_getElem? hx)) _ b _ ra va cb 1 (by (focus (repeat (first | (with_reducible assumption) | (with_reducible exact AH.set_same _ _ _) | ((first | refine AH.get_ne ?_ ?_); (first | (with_reducible assumption) | exact Ne.symm (by with_reducible assumption) | exact AH.ne_none (by with_reducible assumption) (by with_reducible assumption))))); done)) (AH.set_same _ _ _)).mono (fun y H' h => ⟨h.1, h.2.trans (AH.set_set _ _ _ _)⟩), trivial, ⟨x0, hx, rfl, rfl⟩, rfl, rfl, rfl⟩)
      k b0 hk hts trivial
    rw [run_mn] at walk1
    have hmv := move_ok hA hnn hp (fun v hv => (hpb v hv).1) hDI hst hr hrp hts htf htn hk (by' := mnF A σ.s k t b0) (by rw [hb0e])
    have hz1 : mnF A σ.s k t b0 ≤ 6553600000 := Int.le_trans mnF_le (by rw [hb0e]; exact hb0)
    have hz0 : 1 ≤ mnF A σ.s k t b0 := mnF_pos hk (by rw [hb0e]; exact hb1)
    have hcap : Cap A σ.s (mnF A σ.s k t b0) k t := mnF_cap (b := b0) (Int.le_refl _)
    generalize mnF A σ.s k t b0 = z at *
    have walk2 := walk_c n hnn A hA hl σ.s r (fun A : List Ac => A) (fun A i x up => A.set i (addF x (sgn up z))) (fun A' => ((F.set c8 (.row [.int .i64 t] 0)).set cb (.row [.int .i64 z] 1)).set ra (.row (acL A') va)) (fun k v A' => MvP n A σ.s r z k v A') 71 cb 1 rs g ra vg va lim t c8 c4 c7 c3
      (fun b => ⟨by (focus (repeat (first | (with_reducible assumption) | (with_reducible exact AH.set_same _ _ _) | ((first | refine AH.get_ne ?_ ?_); (first | (with_reducible assumption) | exact Ne.symm (by with_reducible assumption) | exact AH.ne_none (by with_reducible assumption) (by with_reducible assumption))))); done), by (focus (repeat (first | (with_reducible assumption) | (with_reducible exact AH.set_same _ _ _) | ((first | refine AH.get_ne ?_ ?_); (first | (with_reducible assumption) | exact Ne.symm (by with_reducible assumption) | exact AH.ne_none (by with_reducible assumption) (by with_reducible assumption))))); done), by (focus (repeat (first | (with_reducible assumption) | (with_reducible exact AH.set_same _ _ _) | ((first | refine AH.get_ne ?_ ?_); (first | (with_reducible assumption) | exact Ne.symm (by with_reducible assumption) | exact AH.ne_none (by with_reducible assumption) (by with_reducible assumption))))); done), by (focus (repeat (first | (with_reducible assumption) | (with_reducible exact AH.set_same _ _ _) | ((first | refine AH.get_ne ?_ ?_); (first | (with_reducible assumption) | exact Ne.symm (by with_reducible assumption) | exact AH.ne_none (by with_reducible assumption) (by with_reducible assumption))))); done), by (focus (repeat (first | (with_reducible assumption) | (with_reducible exact AH.set_same _ _ _) | ((first | refine AH.get_ne ?_ ?_); (first | (with_reducible assumption) | exact Ne.symm (by with_reducible assumption) | exact AH.ne_none (by with_reducible assumption) (by with_reducible assumption))))); done), by (focus (repeat (first | (with_reducible assumption) | (with_reducible exact AH.set_same _ _ _) | ((first | refine AH.get_ne ?_ ?_); (first | (with_reducible assumption) | exact Ne.symm (by with_reducible assumption) | exact AH.ne_none (by with_reducible assumption) (by with_reducible assumption))))); done), by (focus (repeat (first | (with_reducible assumption) | (with_reducible exact AH.set_same _ _ _) | ((first | refine AH.get_ne ?_ ?_); (first | (with_reducible assumption) | exact Ne.symm (by with_reducible assumption) | exact AH.ne_none (by with_reducible assumption) (by with_reducible assumption))))); done)⟩)
      (fun k v A' x0 hc hx hP => by
        obtain ⟨q1, q2⟩ := mv_step (by omega) hc hx hP
        refine ⟨x0, q1, (mv3_c A' n _ x0 q1 (hA x0 (List.mem_of_getElem? hx)) _ z (by omega) _ ra va cb 1 (AH.set_same _ _ _) (by (focus (repeat (first | (with_reducible assumption) | (with_reducible exact AH.set_same _ _ _) | ((first | refine AH.get_ne ?_ ?_); (first | (with_reducible assumption) | exact Ne.symm (by with_reducible assumption) | exact AH.ne_none (by with_reducible assumption) (by with_reducible assumption))))); done))).mono (fun y H' h => ⟨h.1, h.2.trans (AH.set_set _ _ _ _)⟩), q2, ⟨_, List.getElem?_set_self (List.getElem?_eq_some_iff.1 q1).1, rfl, rfl⟩, ?_, rfl, rfl⟩
        rw [List.length_set]; exact hP.alk.len)
      k A hk hts ⟨Alk.refl _, hA, hcap, fun _ _ _ _ => rfl⟩
    rw [run_mv, AH.set_id (show ((F.set c8 (.row [.int .i64 t] 0)).set cb (.row [.int .i64 z] 1)) ra = some (.row (acL A) va) by (focus (repeat (first | (with_reducible assumption) | (with_reducible exact AH.set_same _ _ _) | ((first | refine AH.get_ne ?_ ?_); (first | (with_reducible assumption) | exact Ne.symm (by with_reducible assumption) | exact AH.ne_none (by with_reducible assumption) (by with_reducible assumption))))); done))] at walk2
    (repeat' ((conv => whnf); first | refine Then.mk ?_ | left | refine OpsA.cons ?_ | refine OpsA.nil ?_ | refine AWq.seq ?_ | refine AWq.region ?_ | refine AWq.cond ?_ | refine AWq.block ?_ | refine AWq.skip ?_ | refine AWq.exit ?_ | refine AWq.loop ?_ | refine DrawA.consD ?_ | refine DrawA.nil ?_ | refine AWq.draw (by decide +kernel) ?_ | (refine Both.mk ?_ ?_ <;> intro hc <;> (first | exact Bool.noConfusion hc | exact absurd (by assumption) hc | exact absurd hc (by assumption) | (exfalso; omega) | skip)) | (intro c hc; (try (simp only [AH.none_iff] at hc; repeat (have hn := hc.1; replace hc := hc.2))); (first | (refine i64_k hc ?_ ?_ ?_ ; omega; omega; (clear hc; intro hc; subst hc)) | skip)) | (apply Exists.intro; apply And.intro; (first | (focus (repeat (first | (with_reducible assumption) | (with_reducible exact AH.set_same _ _ _) | ((first | refine AH.get_ne ?_ ?_); (first | (with_reducible assumption) | exact Ne.symm (by with_reducible assumption) | exact AH.ne_none (by with_reducible assumption) (by with_reducible assumption))))); done))) | (apply Exists.intro; apply And.intro; first | (with_reducible assumption) | ((try simp only [List.getElem?_drop, Nat.mul_one, Nat.add_zero, Nat.zero_add]); first | (with_reducible assumption) | assumption | rfl)) | (apply Exists.intro; apply And.intro; (focus (intro G; ((conv => whnf); (try left); (conv => whnf); first | (intro c hc; subst hc; exact And.intro rfl rfl))))) | (apply And.intro; (first | rfl | (with_reducible assumption) | exact Nat.le_of_ble_eq_true rfl | omega | assumption | (simp <;> omega))) | (refine ACall.to (walk1) ?_) | (refine ACall.to (walk2) ?_))) <;> (try (conv => whnf))
    have l1 : HLe H G := by rw [hG]; exact HLe.set_of _ _ (HLe.fresh _ hc3) hc4
    have l2 : HLe G E := by rw [hE]; exact HLe.set_of _ _ (HLe.fresh _ hrd) hGs
    have l3 : HLe E F := by rw [hF]; exact HLe.fresh _ hc7
    have l4 : HLe F ((F.set c8 (.row [.int .i64 t] 0)).set cb (.row [.int .i64 z] 1)) := HLe.set_of _ _ (HLe.fresh _ hc8) hFb
    exact ⟨_, _, AVle.refl _, HLe.set ((l1.trans l2).trans (l3.trans l4)) _ _, _, hmv.1, hmv.2.1, hmv.2.2, rfl, rfl⟩
end Go.Proofs.Ytebflkgpbbjhnaa
/- The frame of the abstract walk, part 33: a call that is told of constants alone may be made with rows that are written later; it leaves them as they were. -/
set_option linter.unusedVariables false
set_option linter.unusedSimpArgs false
namespace Go.Fw
open Go.RowKit

variable {κ : KM} {F : FM} {B : Nat} {w0 w : World} {H : AH} {P : Program} {T : TT}

theorem heap_lt {w : World} {b : Nat} {o : Obj} (h : w.heap[b]? = some o) : b < w.heap.size := (Array.getElem?_eq_some_iff.1 h).1
/-- What is new in memory does not touch what is known. -/
theorem Inv.stay (I : Inv κ F B w0 H w) {w' : World} (h : Below w.heap.size w w') : Inv κ F B w0 H w' := by
  have hb : ∀ {b : Nat} {o : Obj}, w.heap[b]? = some o → w'.heap[b]? = some o := fun {b o} hk => by rw [h.block b (heap_lt hk)]; exact hk
  refine ⟨I.below.trans (h.mono I.base), Nat.le_trans I.base h.size, fun b arr hF => ?_, I.names, fun r o hr => ?_, I.apart⟩
  · obtain ⟨e, fr, hh⟩ := I.fz b arr hF
    exact ⟨e, fr, hb hh⟩
  · have ho := I.objs r o hr
    cases o with
    | row cells v =>
      obtain ⟨i, hi, hrow, hn⟩ := ho
      refine ⟨i, hi, ?_, hn⟩
      cases hblk : i.blk with
      | none => simp only [RowOk, hblk] at hrow ⊢; exact hrow
      | some b =>
        simp only [RowOk, hblk] at hrow ⊢
        obtain ⟨hB, hFb, arr, e, fr, hh, hl, hsz, hlen, hc⟩ := hrow
        exact ⟨hB, hFb, arr, e, fr, hb hh, hl, hsz, hlen, hc⟩
    | map es =>
      obtain ⟨b, i, ents, clock, h1, h2, h3, h4, h5, h6⟩ := ho
      exact ⟨b, i, ents, clock, h1, h2, h3, h4, hb h5, h6⟩
    | obj b o =>
      obtain ⟨i, h1, h2, h3, h4, h5, h6⟩ := ho
      exact ⟨i, h1, h2, h3, h4, hb h5, h6⟩
    | loop b N e L =>
      obtain ⟨i, tmps, h1, h2, h3, h4, h5, h6⟩ := ho
      exact ⟨i, tmps, h1, h2, h3, h4, hb h5, h6⟩

/-- Values without names of rows. -/
inductive Flat : AV → Prop where
  | junk : Flat .junk
  | int (k : IntKind) (n : Int) : Flat (.int k n)
  | bool (b : Bool) : Flat (.bool b)
  | str (s : List UInt8) : Flat (.str s)
  | nilp : Flat .nilp
  | nils : Flat .nils
  | cs (l : List AV) (n : Nat) (h : ∀ x, x ∈ l → Flat x) : Flat (.cs l n)
  | cp (l : List AV) (h : ∀ x, x ∈ l → Flat x) : Flat (.cp l)
  | agg (l : List AV) (h : ∀ x, x ∈ l → Flat x) : Flat (.agg l)
  | tup (l : List AV) (h : ∀ x, x ∈ l → Flat x) : Flat (.tup l)
theorem Flat.vr {κ' : KM} {F' : FM} (hF : FLe F F') {a : AV} {v : Value} (hf : Flat a) (h : VR κ F a v) : VR κ' F' a v := by
  induction h with
  | junk v => exact .junk v
  | int k n => exact .int k n
  | bool b => exact .bool b
  | str s => exact .str s
  | nilp => exact .nilp
  | ptr h => cases hf
  | cp hFb hle _ ih => cases hf with | cp _ hf => exact .cp (hF _ _ hFb) hle fun i hi => ih i hi (hf _ (List.getElem_mem hi))
  | nils a => exact .nils a
  | cs0 a c => exact .cs0 a c
  | cs hFb hle hc _ ih => cases hf with | cs _ _ hf => exact .cs (hF _ _ hFb) hle hc fun i hi => ih i hi (hf _ (List.getElem_mem hi))
  | sl h hoff hlo hc hlen ha => cases hf
  | mapNil => exact .mapNil
  | map h => cases hf
  | fn hA hC _ _ ih1 ih2 => cases hf
  | nilf => exact .nilf
  | agg hA _ ih => cases hf with | agg _ hf => exact .agg hA fun i hi => ih i hi (hf _ (List.getElem_mem hi))
  | tup hA _ ih => cases hf with | tup _ hf => exact .tup hA fun i hi => ih i hi (hf _ (List.getElem_mem hi))
/-- Values without constants in memory. -/
inductive NoF : AV → Prop where
  | junk : NoF .junk
  | int (k : IntKind) (n : Int) : NoF (.int k n)
  | bool (b : Bool) : NoF (.bool b)
  | str (s : List UInt8) : NoF (.str s)
  | nilp : NoF .nilp
  | nils : NoF .nils
  | agg (l : List AV) (h : ∀ x, x ∈ l → NoF x) : NoF (.agg l)
  | tup (l : List AV) (h : ∀ x, x ∈ l → NoF x) : NoF (.tup l)
theorem NoF.vr {κ' : KM} {F' : FM} {a : AV} {v : Value} (hf : NoF a) (h : VR κ F a v) : VR κ' F' a v := by
  induction h with
  | junk v => exact .junk v
  | int k n => exact .int k n
  | bool b => exact .bool b
  | str s => exact .str s
  | nilp => exact .nilp
  | ptr h => cases hf
  | cp hFb hle _ ih => cases hf
  | nils a => exact .nils a
  | cs0 a c => exact .cs0 a c
  | cs hFb hle hc _ ih => cases hf
  | sl h hoff hlo hc hlen ha => cases hf
  | mapNil => exact .mapNil
  | map h => cases hf
  | fn hA hC _ _ ih1 ih2 => cases hf
  | nilf => exact .nilf
  | agg hA _ ih => cases hf with | agg _ hf => exact .agg hA fun i hi => ih i hi (hf _ (List.getElem_mem hi))
  | tup hA _ ih => cases hf with | tup _ hf => exact .tup hA fun i hi => ih i hi (hf _ (List.getElem_mem hi))
/-- An argument, told as a constant. -/
inductive Frz (H : AH) : AV → AV → Prop where
  | flat (a : AV) (h : Flat a) : Frz H a a
  | sl {r v es n : Nat} {lim : Option Nat} {cells : List AV} (hr : H r = some (.row cells v)) (hl : cells.length = n * es) (h : ∀ x, x ∈ cells → Flat x) : Frz H (.sl r v es 0 n lim) (.cs cells n)
inductive Frzs (H : AH) : List AV → List AV → Prop where
  | nil : Frzs H [] []
  | cons {a b : AV} {l m : List AV} (h : Frz H a b) (k : Frzs H l m) : Frzs H (a :: l) (b :: m)
theorem Frz.vr (I : Inv κ F B w0 H w) {a b : AV} (h : Frz H a b) {x : Value} (hv : VR κ F a x) : VR (fun _ _ => none) (startF w) b x := by
  have hF : FLe F (startF w) := fun c arr hc => by
    obtain ⟨e, fr, hh⟩ := I.fz c arr hc
    unfold startF
    rw [hh]
  cases h with
  | flat _ hf => exact hf.vr hF hv
  | sl hr hl hf =>
    rename_i r v es n lim cells
    obtain ⟨i, adr, c, rfl, hi, hie, hlc, hrow, hnx, hadr, lo, hlo0, hlo, hlim⟩ := VR.slOf I hv hr
    rcases hadr with hc | ⟨b', hb', rfl⟩
    · have hn : n = 0 := by omega
      subst hn
      have : cells = [] := List.eq_nil_of_length_eq_zero (by simpa using hl)
      rw [this]; exact .cs0 _ _
    · obtain ⟨i2, hi2, hrow2, _⟩ := I.objs _ _ hr
      have hi2 : κ r v = some i2 := hi2
      rw [hi] at hi2; cases hi2
      simp only [RowOk, hb'] at hrow2
      obtain ⟨hB, hFb, arr, e, fr, hh, hlo2, hsz, hlen, hcell⟩ := hrow2
      refine .cs (arr := arr) (by unfold startF; rw [hh]) (by omega) hlc fun j hj => ?_
      have := hcell j hj
      rw [Nat.zero_add]
      exact (hf _ (List.getElem_mem hj)).vr hF this
theorem Frzs.vrs (I : Inv κ F B w0 H w) : ∀ {l m : List AV}, Frzs H l m → m.length = l.length ∧ ∀ i (hi : i < l.length) (hj : i < m.length), Frz H l[i] m[i]
  | _, _, .nil => ⟨rfl, fun i hi => by simp at hi⟩
  | _, _, .cons h k => by
    obtain ⟨k1, k2⟩ := Frzs.vrs I k
    refine ⟨by simp [k1], fun i hi hj => ?_⟩
    cases i with
    | zero => exact h
    | succ i => exact k2 i (by simpa using hi) (by simpa using hj)
theorem Frzs.cargs (I : Inv κ F B w0 H w) {args args' : List AV} {cargs : Array Value} (ha : Frzs H args args') (hA : VRs κ F args cargs) : VRs (fun _ _ => none) (startF w) args' cargs := by
  obtain ⟨k1, k2⟩ := ha.vrs I
  exact ⟨by rw [hA.1, k1], fun i hi => (k2 i (by rw [← k1]; exact hi) hi).vr I (hA.2 i (by rw [← k1]; exact hi))⟩
/-- The call leaves all that is known as it was. -/
theorem ACall.apart {g : FuncId} {args args' : List AV} {K0 : AV → Prop} (ha : Frzs H args args') (h : ACall P g args' (fun _ => none) fun y _ => ∃ y0, NoF y0 ∧ AVle y y0 ∧ K0 y0) : ACall P g args H fun y H' => K0 y ∧ H' = H := by
  refine ⟨h.ent, fun κ F B w0 w cargs I hA => ?_⟩
  refine (h.run _ _ _ w w cargs (start_inv w) (ha.cargs I hA)).mono ?_
  rintro e w' ⟨v, rfl, y, H', κ', F', hk, hf, I', hv, y0, hy, hle, hK⟩
  exact ⟨v, rfl, y0, H, κ, F, KLe.refl _, FLe.refl _, I.stay I'.below, hy.vr (hle _ _ _ hv), hK, rfl⟩
/-- The same, for a known value. -/
theorem ACall.apart1 {g : FuncId} {args args' : List AV} {y0 : AV} (hy : NoF y0) (ha : Frzs H args args') (h : ∀ H, ACall P g args' H fun y H' => y = y0 ∧ H' = H) : ACall P g args H fun y H' => y = y0 ∧ H' = H :=
  ACall.apart (K0 := fun y => y = y0) ha ((h _).mono fun y H' e => ⟨y0, hy, e.1 ▸ AVle.refl _, rfl⟩)

theorem flat_iS (k : IntKind) (l : List Int) : ∀ x, x ∈ iS k l → Flat x := fun x hx => by
  obtain ⟨n, _, rfl⟩ := List.mem_map.1 hx
  exact .int _ _
end Go.Fw
/- The walks of balance: Solve. -/
namespace Go.Proofs.Ytebflkgpbbjhnaa
open Go.Fw Go
set_option linter.unusedVariables false
set_option linter.unusedSimpArgs false

/-- The greatest offsets that are at most 0. -/
def MaxP (n : Nat) (A : List Ac) (d : Nat → Int) : Prop := ∀ q, Feas A q → (∀ v, v ≤ n → q v ≤ 0) → ∀ v, v ≤ n → q v ≤ d v
/-- What Solve has at its end. -/
structure Sv (n : Nat) (es : List Ed) (fs : List Fx) (A : List Ac) (d o : Nat → Int) : Prop where
  alk : Alk (net0 n es fs) A
  ok : ∀ x ∈ A, AcOk n x
  net : ∀ v, v ≤ n → netN A v = 0
  fe : Feas A d
  lo : ∀ v, v ≤ n → -(65536 * ((n : Int) + 1)) ≤ d v
  up : ∀ v, v ≤ n → d v ≤ 0
  max : MaxP n A d
  bi : BI n A o
  eq : ∀ x ∈ A, o x.a = o x.b
def offS (n : Nat) (d o : Nat → Int) (i : Nat) : Int := d i - d (bsN n o i).toNat
def flE (es : List Ed) (A : List Ac) : List Int := (A.take es.length).map (·.f)
def flF (es : List Ed) (A : List Ac) : List Int := (A.drop es.length).map (·.f)
def solV (n : Nat) (es : List Ed) (fs : List Fx) (A : List Ac) (d o : Nat → Int) : AV :=
  .tup [.agg [.cs (iS .i64 (fnL n (offS n d o))) n, .cs (iS .i64 (flE es A)) es.length, .cs (iS .i64 (flF es A)) fs.length, .int .i64 (costR es fs (fnL n (offS n d o))).1], .int .i64 0]
theorem max_rlx {n : Nat} {A : List Ac} (hA : ∀ x ∈ A, AcOk n x) {σ : Ds} (h : MaxP n A σ.d) {i : Nat} {x : Ac} {up : Bool} (hi : A[i]? = some x) (hr : Rlx σ x up) : MaxP n A (rlx σ i x up).d := by
  intro q hq h0 v hv
  show q v ≤ if v = hd x up then σ.d (tl x up) + cs x up else σ.d v
  split
  · rename_i e
    have hx := List.mem_of_getElem? hi
    have h1 := feas_iff.1 hq x hx up hr.1
    have h2 := h q hq h0 _ (tl_le (hA x hx) up)
    rw [e]; omega
  · exact h q hq h0 v hv
theorem net0_ok {n : Nat} {es : List Ed} {fs : List Fx} (hE : ∀ x ∈ es, vE n x) (hF : ∀ x ∈ fs, vF n x) : J n (net0 n es fs) := by
  refine start_J fun x hx => ?_
  rcases List.mem_append.1 hx with h | h
  · obtain ⟨y, hy, rfl⟩ := List.mem_map.1 h
    obtain ⟨v1, v2, v3, v4, v5⟩ := hE y hy
    exact ⟨by show y.a.toNat ≤ n; omega, by show y.b.toNat ≤ n; omega, v4.1, v4.2, v5.1, v5.2, rfl⟩
  · obtain ⟨y, hy, rfl⟩ := List.mem_map.1 h
    obtain ⟨v1, v4, v5⟩ := hF y hy
    exact ⟨by show y.a.toNat ≤ n; omega, Nat.le_refl _, v4.1, v4.2, v5.1, v5.2, rfl⟩
theorem feas_end {n : Nat} {A : List Ac} {p : Nat → Int} {mu : Int} {σ : Ds} (hA : ∀ x ∈ A, AcOk n x) (h : DI A n p (fun _ => 0) mu σ) (hs : Stab A σ) : Feas A σ.d := by
  refine feas_iff.2 fun x hx up hr => stab_reach hs hx hr ?_
  have := h.dec _ (tl_le (hA x hx) up)
  have hfar : far = 1125899906842624 := rfl
  have : σ.d (tl x up) ≤ 0 := this
  omega
theorem dist0_c (n : Nat) (hnn : n ≤ 100) (A : List Ac) (hJ : J n A) (hl : A.length ≤ 100000) (H : AH) (g vg ra va : Nat) (lim : Option Nat) (hN : NetAt H n A g vg ra va lim) (rd : Nat) (hd : H rd = some (.row (dL (n + 1) fun _ => 0) 0)) (hdg : rd ≠ g) (hda : rd ≠ ra) :
    ACall Try.prog 41 [.ptr g vg 0, .sl rd 0 1 0 (n + 1) none] H (fun y H' => ∃ σ rs, (Feas A σ.d ∧ MaxP n A σ.d ∧ (∀ v, v ≤ n → -(65536 * ((n : Int) + 1)) ≤ σ.d v ∧ σ.d v ≤ 0)) ∧ H rs = none ∧ y = .sl rs 0 2 0 (n + 1) none ∧ H' = dsH H n rd 0 rs σ) := by
  obtain ⟨hA, p, hp, hpb⟩ := hJ
  have hfar : far = 1125899906842624 := rfl
  refine (distances_c n hnn A hA hl (fun σ => DI A n p (fun _ => 0) (-(65536 * ((n : Int) + 1))) σ ∧ MaxP n A σ.d) (fun σ => wgt p (-(65536 * ((n : Int) + 1))) σ.d n)
    (fun σ i x up hq hx hR => ⟨⟨hq.1.rlx hA hp hnn hx hR, max_rlx hA hq.2 hx hR⟩, hq.1.less hA hp hx hR⟩)
    (fun σ hq v hv => by
      have h1 := hq.1.low v hv
      have h2 := hq.1.dec v hv
      have h3 := hpb v hv
      have h2 : σ.d v ≤ 0 := h2
      omega)
    (fun _ => 0) ⟨⟨fun v hv => by
      have := hpb v hv
      show _ ≤ (0 : Int) - p v
      omega, fun v hv => Int.le_refl _, fun v hv hl => by
      show (0 : Int) ≤ _
      omega, fun v hv => .inl rfl⟩, fun q _ h0 v hv => h0 v hv⟩ H g vg ra va lim none hN rd 0 hd hdg hda).mono ?_
  rintro y H' ⟨σ, rs, ⟨hDI, hmx⟩, hst, hrs, rfl, rfl⟩
  refine ⟨σ, rs, ⟨feas_end hA hDI hst, hmx, fun v hv => ⟨?_, hDI.dec v hv⟩⟩, hrs, rfl, rfl⟩
  have h1 := hDI.low v hv
  have h3 := hpb v hv
  omega
structure AnD (r1 r2 r3 c : Nat) : Prop where
  b : r1 ≠ r2
  a : r1 ≠ r3
  x : r2 ≠ r3
  c1 : r1 ≠ c
  c2 : r2 ≠ c
  c3 : r3 ≠ c
/-- An answer under way. -/
def anH (F : AH) (r1 r2 r3 c : Nat) (l1 l2 l3 : List Int) : AH :=
  (((F.set r1 (.row (iS .i64 l1) l1.length)).set r2 (.row (iS .i64 l2) l2.length)).set r3 (.row (iS .i64 l3) l3.length)).set c (.row [.sl r1 l1.length 1 0 l1.length none, .sl r2 l2.length 1 0 l2.length none, .sl r3 l3.length 1 0 l3.length none, .int .i64 0] 0)
theorem set_in {G : AH} {r s : Nat} {o o' : AO} (h : r ≠ s) : (G.set r o).set s o' = (G.set s o').set r o := AH.set_comm _ _ _ h
theorem anH_1 {F : AH} {r1 r2 r3 c : Nat} (D : AnD r1 r2 r3 c) (l1 l2 l3 : List Int) (x : Int) :
    anH F r1 r2 r3 c (l1 ++ [x]) l2 l3 = ((anH F r1 r2 r3 c l1 l2 l3).set r1 (.row (iS .i64 l1 ++ [.int .i64 x]) (l1.length + 1))).set c (.row [.sl r1 (l1.length + 1) 1 0 (l1.length + 1) none, .sl r2 l2.length 1 0 l2.length none, .sl r3 l3.length 1 0 l3.length none, .int .i64 0] 0) := by
  obtain ⟨b, a, x, c1, c2, c3⟩ := D
  unfold anH
  rw [set_in (Ne.symm c1), AH.set_set, set_in (Ne.symm a), set_in (Ne.symm b), AH.set_set, iS_snoc]
  simp only [List.length_append, List.length_cons, List.length_nil, Nat.zero_add]
theorem anH_2 {F : AH} {r1 r2 r3 c : Nat} (D : AnD r1 r2 r3 c) (l1 l2 l3 : List Int) (x : Int) :
    anH F r1 r2 r3 c l1 (l2 ++ [x]) l3 = ((anH F r1 r2 r3 c l1 l2 l3).set r2 (.row (iS .i64 l2 ++ [.int .i64 x]) (l2.length + 1))).set c (.row [.sl r1 l1.length 1 0 l1.length none, .sl r2 (l2.length + 1) 1 0 (l2.length + 1) none, .sl r3 l3.length 1 0 l3.length none, .int .i64 0] 0) := by
  obtain ⟨b, a, x, c1, c2, c3⟩ := D
  unfold anH
  rw [set_in (Ne.symm c2), AH.set_set, set_in (Ne.symm x), AH.set_set, iS_snoc]
  simp only [List.length_append, List.length_cons, List.length_nil, Nat.zero_add]
theorem anH_3 {F : AH} {r1 r2 r3 c : Nat} (D : AnD r1 r2 r3 c) (l1 l2 l3 : List Int) (x : Int) :
    anH F r1 r2 r3 c l1 l2 (l3 ++ [x]) = ((anH F r1 r2 r3 c l1 l2 l3).set r3 (.row (iS .i64 l3 ++ [.int .i64 x]) (l3.length + 1))).set c (.row [.sl r1 l1.length 1 0 l1.length none, .sl r2 l2.length 1 0 l2.length none, .sl r3 (l3.length + 1) 1 0 (l3.length + 1) none, .int .i64 0] 0) := by
  obtain ⟨b, a, x, c1, c2, c3⟩ := D
  unfold anH
  rw [set_in (Ne.symm c3), AH.set_set, AH.set_set, iS_snoc]
  simp only [List.length_append, List.length_cons, List.length_nil, Nat.zero_add]
theorem anH_0 {F : AH} {r1 r2 r3 c : Nat} {o : AO} (D : AnD r1 r2 r3 c) :
    anH F r1 r2 r3 c [] [] [] = (((((((F.set c o).set r1 (.row [] 0)).set c (.row ([] ++ .sl r1 0 1 0 0 none :: [.nils, .nils, .int .i64 0]) 0)).set r2 (.row [] 0)).set c (.row ([.sl r1 0 1 0 0 none] ++ .sl r2 0 1 0 0 none :: [.nils, .int .i64 0]) 0)).set r3 (.row [] 0)).set c (.row ([.sl r1 0 1 0 0 none, .sl r2 0 1 0 0 none] ++ .sl r3 0 1 0 0 none :: [.int .i64 0]) 0)) := by
  obtain ⟨b, a, x, c1, c2, c3⟩ := D
  unfold anH
  rw [set_in (Ne.symm c1), AH.set_set, set_in (Ne.symm c2), AH.set_set, set_in (Ne.symm c3), AH.set_set]
  rfl
set_option maxHeartbeats 4000000 in
theorem flat_ed (l : List Ed) : ∀ x, x ∈ edL l → Flat x := fun x hx => by
  obtain ⟨e, _, he⟩ := List.mem_flatMap.1 hx
  simp only [edA, List.mem_cons, List.not_mem_nil, or_false] at he
  rcases he with rfl | rfl | rfl | rfl <;> exact .int _ _
theorem flat_fx (l : List Fx) : ∀ x, x ∈ fxL l → Flat x := fun x hx => by
  obtain ⟨e, _, he⟩ := List.mem_flatMap.1 hx
  simp only [fxA, List.mem_cons, List.not_mem_nil, or_false] at he
  rcases he with rfl | rfl | rfl <;> exact .int _ _
set_option maxHeartbeats 4000000 in
set_option maxRecDepth 8000 in
theorem solve_s (n : Nat) (es : List Ed) (fs : List Fx) (hv : validV n es fs = 0) (H : AH) :
    ACall Try.prog 14 [.int .i64 n, .cs (edL es) es.length, .cs (fxL fs) fs.length] H (fun y H' => ∃ A d o r1 r2 r3 v1 v2 v3, Sv n es fs A d o ∧ H r1 = none ∧ H r2 = none ∧ H r3 = none ∧ r1 ≠ r2 ∧ r1 ≠ r3 ∧ r2 ≠ r3 ∧
      y = .tup [.agg [.sl r1 v1 1 0 n none, .sl r2 v2 1 0 es.length none, .sl r3 v3 1 0 fs.length none, .int .i64 (costR es fs (fnL n (offS n d o))).1], .int .i64 0] ∧
      H' = ((H.set r1 (.row (iS .i64 (fnL n (offS n d o))) v1)).set r2 (.row (iS .i64 (flE es A)) v2)).set r3 (.row (iS .i64 (flF es A)) v3)) := by
  obtain ⟨⟨_, hn64⟩, ⟨he, hf⟩, hE, hF⟩ := validV_ok hv
  have hv1 := fun H => valid_c n es fs (by omega) (by omega) H
  rw [hv] at hv1
  refine ACall.told ?_
  have hJ0 := net0_ok hE hF
  have hlen0 : (net0 n es fs).length = es.length + fs.length := by unfold net0; simp
  refine ACall_of tt_ok (dok _) Try.func14 rfl (by decide) rfl ?_
  (repeat' ((conv => whnf); first | left | refine OpsA.cons ?_ | refine OpsA.nil ?_ | refine AWq.seq ?_ | refine AWq.region ?_ | refine AWq.cond ?_ | refine AWq.block ?_ | refine AWq.skip ?_ | refine AWq.ret ?_ | refine AWq.exit ?_ | refine AWq.loop ?_ | refine DrawA.consD ?_ | refine DrawA.nil ?_ | refine AWq.draw (by decide +kernel) ?_ | (refine Both.mk ?_ ?_ <;> intro hc <;> (first | exact Bool.noConfusion hc | exact absurd (by with_reducible rfl) hc | (exfalso; omega) | skip)) | (intro c hc; (try (simp only [AH.none_iff] at hc; repeat (have hn := hc.1; replace hc := hc.2))); (first | (refine i64_k hc ?_ ?_ ?_ ; omega; omega; (clear hc; intro hc; subst hc)) | skip)) | (apply Exists.intro; apply And.intro; (first | (focus (repeat (first | (with_reducible assumption) | (with_reducible exact AH.set_same _ _ _) | ((first | refine AH.get_ne ?_ ?_); (first | (with_reducible assumption) | exact Ne.symm (by with_reducible assumption))))); done))) | (apply Exists.intro; apply And.intro; first | (with_reducible assumption) | ((try simp only [List.getElem?_drop, Nat.mul_one, Nat.add_zero, Nat.zero_add]); first | (with_reducible assumption) | rfl)) | (apply And.intro; (first | rfl | (with_reducible assumption) | exact Nat.le_of_ble_eq_true rfl | omega | (simp <;> omega) | (focus (repeat' (first | (with_reducible assumption) | rfl | apply one_take | apply one_drop)); done))))) <;> (try (conv => whnf))
  (obtain ⟨c6, hq_⟩ : ∃ c6, c6 = c := ⟨_, rfl⟩); subst hq_
  have hc6 : H c6 = none := hc
  refine Then.mk ?_
  (repeat' ((conv => whnf); first | refine Then.mk ?_ | left | refine OpsA.cons ?_ | refine OpsA.nil ?_ | refine AWq.seq ?_ | refine AWq.region ?_ | refine AWq.cond ?_ | refine AWq.block ?_ | refine AWq.skip ?_ | refine AWq.ret ?_ | refine AWq.exit ?_ | refine AWq.loop ?_ | refine DrawA.consD ?_ | refine DrawA.nil ?_ | refine AWq.draw (by decide +kernel) ?_ | (refine Both.mk ?_ ?_ <;> intro hc <;> (first | exact Bool.noConfusion hc | exact absurd (by with_reducible rfl) hc | (exfalso; omega) | skip)) | (intro c hc; (try (simp only [AH.none_iff] at hc; repeat (have hn := hc.1; replace hc := hc.2))); (first | (refine i64_k hc ?_ ?_ ?_ ; omega; omega; (clear hc; intro hc; subst hc)) | skip)) | (apply Exists.intro; apply And.intro; (first | (focus (repeat (first | (with_reducible assumption) | (with_reducible exact AH.set_same _ _ _) | ((first | refine AH.get_ne ?_ ?_); (first | (with_reducible assumption) | exact Ne.symm (by with_reducible assumption))))); done))) | (apply Exists.intro; apply And.intro; first | (with_reducible assumption) | ((try simp only [List.getElem?_drop, Nat.mul_one, Nat.add_zero, Nat.zero_add]); first | (with_reducible assumption) | rfl)) | (apply And.intro; (first | rfl | (with_reducible assumption) | exact Nat.le_of_ble_eq_true rfl | omega | (simp <;> omega) | (focus (repeat' (first | (with_reducible assumption) | rfl | apply one_take | apply one_drop)); done))) | (refine ACall.to (hv1 _) ?_))) <;> (try (conv => whnf))
  refine (start_c n (by omega) es fs he hf hE hF _).mono ?_
  rintro y H' ⟨g, ra, hg, hra, hgra, rfl, rfl⟩
  obtain ⟨A0, hA0⟩ : ∃ A0, A0 = net0 n es fs := ⟨_, rfl⟩
  rw [← hA0] at hJ0 hlen0 ⊢
  obtain ⟨S, hS⟩ : ∃ S, S = stH (H.set c6 (.row [.nils, .nils, .nils, .int .i64 0] 0)) n g ra A0 := ⟨_, rfl⟩
  have hSra : S ra = some (.row (acL A0) A0.length) := by rw [hS]; unfold stH; rw [AH.set_ne _ _ (Ne.symm hgra), AH.set_same]
  have hSg : S g = some (.row [.int .i64 n, .sl ra A0.length 5 0 A0.length none] 0) := by rw [hS]; unfold stH; rw [AH.set_same]
  (repeat' ((conv => whnf); first | left | refine OpsA.cons ?_ | refine OpsA.nil ?_ | refine AWq.seq ?_ | refine AWq.region ?_ | refine AWq.cond ?_ | refine AWq.block ?_ | refine AWq.skip ?_ | refine AWq.ret ?_ | refine AWq.exit ?_ | refine AWq.loop ?_ | refine DrawA.consD ?_ | refine DrawA.nil ?_ | refine AWq.draw (by decide +kernel) ?_ | (refine Both.mk ?_ ?_ <;> intro hc <;> (first | exact Bool.noConfusion hc | exact absurd (by with_reducible rfl) hc | (exfalso; omega) | skip)) | (intro c hc; (try (simp only [AH.none_iff] at hc; repeat (have hn := hc.1; replace hc := hc.2))); (first | (refine i64_k hc ?_ ?_ ?_ ; omega; omega; (clear hc; intro hc; subst hc)) | skip)) | (apply Exists.intro; apply And.intro; (first | (focus (repeat (first | (with_reducible assumption) | (with_reducible exact AH.set_same _ _ _) | ((first | refine AH.get_ne ?_ ?_); (first | (with_reducible assumption) | exact Ne.symm (by with_reducible assumption))))); done))) | (apply Exists.intro; apply And.intro; first | (with_reducible assumption) | ((try simp only [List.getElem?_drop, Nat.mul_one, Nat.add_zero, Nat.zero_add]); first | (with_reducible assumption) | rfl)) | (apply And.intro; (first | rfl | (with_reducible assumption) | exact Nat.le_of_ble_eq_true rfl | omega | (simp <;> omega) | (focus (repeat' (first | (with_reducible assumption) | rfl | apply one_take | apply one_drop)); done))))) <;> (try (conv => whnf))
  refine Then.mk (AWq.in ?_)
  refine AWp_less S (HLe.of_eq hS) ?_
  refine AWp.of tt_ok (dok _) rfl ?_
  (repeat' ((conv => whnf); first | refine Then.mk ?_ | left | refine OpsA.cons ?_ | refine OpsA.nil ?_ | refine AWq.seq ?_ | refine AWq.region ?_ | refine AWq.cond ?_ | refine AWq.block ?_ | refine AWq.skip ?_ | refine AWq.ret ?_ | refine AWq.exit ?_ | refine AWq.loop ?_ | refine DrawA.consD ?_ | refine DrawA.nil ?_ | refine AWq.draw (by decide +kernel) ?_ | (refine Both.mk ?_ ?_ <;> intro hc <;> (first | exact Bool.noConfusion hc | exact absurd (by with_reducible rfl) hc | (exfalso; omega) | skip)) | (intro c hc; (try (simp only [AH.none_iff] at hc; repeat (have hn := hc.1; replace hc := hc.2))); (first | (refine i64_k hc ?_ ?_ ?_ ; omega; omega; (clear hc; intro hc; subst hc)) | skip)) | (apply Exists.intro; apply And.intro; (first | (focus (repeat (first | (with_reducible assumption) | (with_reducible exact AH.set_same _ _ _) | ((first | refine AH.get_ne ?_ ?_); (first | (with_reducible assumption) | exact Ne.symm (by with_reducible assumption))))); done))) | (apply Exists.intro; apply And.intro; first | (with_reducible assumption) | ((try simp only [List.getElem?_drop, Nat.mul_one, Nat.add_zero, Nat.zero_add]); first | (with_reducible assumption) | rfl)) | (apply And.intro; (first | rfl | (with_reducible assumption) | exact Nat.le_of_ble_eq_true rfl | omega | (simp <;> omega) | (focus (repeat' (first | (with_reducible assumption) | rfl | apply one_take | apply one_drop)); done))))) <;> (try (conv => whnf))
  refine AWp_loop (σ := List Ac) (10 :: 11 :: 30 :: 31 :: 32 :: 33 :: 34 :: 35 :: 36 :: 37 :: 38 :: 39 :: []) (fun A => []) (fun A => S.set ra (.row (acL A) A0.length)) (fun A => J n A ∧ Alk A0 A) (fun A => posN A n) A0 rfl ⟨hJ0, Alk.refl _⟩ trivial (HLe.of_eq (AH.set_id hSra)) ?_
  rintro A ⟨hJ, hal⟩
  refine AWp.of tt_ok (dok _) rfl ?_
  dsimp only
  have hlA := hal.len
  have hNet : NetAt (S.set ra (.row (acL A) A0.length)) n A g 0 ra A0.length none := ⟨by rw [AH.set_ne _ _ hgra, hlA]; exact hSg, AH.set_same _ _ _, hgra⟩
  have hnet := net_c n (by omega) A hJ.ok (by omega) _ g 0 ra A0.length none hNet
  have hix := index0_c (fun x => decide (0 < x)) 39 (fnL (n + 1) (netN A)) (by simp; omega) (S.set ra (.row (acL A) A0.length)) (fun x _ => sol1_c x _)
  rw [fnL_len] at hix
  (repeat' ((conv => whnf); first | refine Then.mk ?_ | left | refine OpsA.cons ?_ | refine OpsA.nil ?_ | refine AWq.seq ?_ | refine AWq.region ?_ | refine AWq.cond ?_ | refine AWq.block ?_ | refine AWq.skip ?_ | refine AWq.ret ?_ | refine AWq.exit ?_ | refine AWq.loop ?_ | refine DrawA.consD ?_ | refine DrawA.nil ?_ | refine AWq.draw (by decide +kernel) ?_ | (refine Both.mk ?_ ?_ <;> intro hc <;> (first | exact Bool.noConfusion hc | exact absurd (by with_reducible rfl) hc | (exfalso; omega) | skip)) | (intro c hc; (try (simp only [AH.none_iff] at hc; repeat (have hn := hc.1; replace hc := hc.2))); (first | (refine i64_k hc ?_ ?_ ?_ ; omega; omega; (clear hc; intro hc; subst hc)) | skip)) | (apply Exists.intro; apply And.intro; (first | (focus (repeat (first | (with_reducible assumption) | (with_reducible exact AH.set_same _ _ _) | ((first | refine AH.get_ne ?_ ?_); (first | (with_reducible assumption) | exact Ne.symm (by with_reducible assumption))))); done))) | (apply Exists.intro; apply And.intro; first | (with_reducible assumption) | ((try simp only [List.getElem?_drop, Nat.mul_one, Nat.add_zero, Nat.zero_add]); first | (with_reducible assumption) | rfl)) | (apply And.intro; (first | rfl | (with_reducible assumption) | exact Nat.le_of_ble_eq_true rfl | omega | (simp <;> omega) | (focus (repeat' (first | (with_reducible assumption) | rfl | apply one_take | apply one_drop)); done))) | (refine ACall.to (hnet) ?_))) <;> (try (conv => whnf))
  refine ACall.mono hix ?_
  rintro y H' ⟨k, hk, rfl, rfl⟩
  clear hnet hix
  rcases hk with ⟨rfl, hno⟩ | ⟨i, hi, rfl, hpos⟩
  · have hnp : ∀ v, v ≤ n → netN A v ≤ 0 := fun v hv => by
      have := hno (netN A v) (List.mem_map.2 ⟨v, by simp; omega, rfl⟩)
      have := of_decide_eq_false this
      omega
    have hnz := net_zero hJ.ok hnp
    obtain ⟨F, hF0⟩ : ∃ F, F = S.set ra (.row (acL A) A0.length) := ⟨_, rfl⟩
    rw [← hF0] at hNet ⊢
    obtain ⟨hFg, hFa, _⟩ := id hNet
    have hF6 : F c6 = some (.row [.nils, .nils, .nils, .int .i64 0] 0) := by
      have h1 := AH.none_set hg
      have h2 := AH.none_set hra
      rw [hF0, hS]; unfold stH
      rw [AH.set_ne _ _ (Ne.symm h2.1), AH.set_ne _ _ (Ne.symm h1.1), AH.set_ne _ _ (Ne.symm h2.1), AH.set_same]
    have hHF : HLe (H.set c6 (.row [.nils, .nils, .nils, .int .i64 0] 0)) F := by
      rw [hF0, hS]; unfold stH
      exact HLe.set_of _ _ (HLe.set_of _ _ (HLe.set_of _ _ (HLe.refl _) hra) hg) hra
    (repeat' ((conv => whnf); first | refine Then.mk ?_ | left | refine OpsA.cons ?_ | refine OpsA.nil ?_ | refine AWq.seq ?_ | refine AWq.region ?_ | refine AWq.cond ?_ | refine AWq.block ?_ | refine AWq.skip ?_ | refine AWq.ret ?_ | refine AWq.exit ?_ | refine AWq.loop ?_ | refine DrawA.consD ?_ | refine DrawA.nil ?_ | refine AWq.draw (by decide +kernel) ?_ | (refine Both.mk ?_ ?_ <;> intro hc <;> (first | exact Bool.noConfusion hc | exact absurd (by with_reducible rfl) hc | (exfalso; omega) | skip)) | (intro c hc; (try (simp only [AH.none_iff] at hc; repeat (have hn := hc.1; replace hc := hc.2))); (first | (refine i64_k hc ?_ ?_ ?_ ; omega; omega; (clear hc; intro hc; subst hc)) | skip)) | (apply Exists.intro; apply And.intro; (first | (focus (repeat (first | (with_reducible assumption) | (with_reducible exact AH.set_same _ _ _) | ((first | refine AH.get_ne ?_ ?_); (first | (with_reducible assumption) | exact Ne.symm (by with_reducible assumption))))); done))) | (apply Exists.intro; apply And.intro; first | (with_reducible assumption) | ((try simp only [List.getElem?_drop, Nat.mul_one, Nat.add_zero, Nat.zero_add]); first | (with_reducible assumption) | rfl)) | (apply And.intro; (first | rfl | (with_reducible assumption) | exact Nat.le_of_ble_eq_true rfl | omega | (simp <;> omega) | (focus (repeat' (first | (with_reducible assumption) | rfl | apply one_take | apply one_drop)); done))))) <;> (try (conv => whnf))
    (obtain ⟨r12, hq_⟩ : ∃ r12, r12 = c := ⟨_, rfl⟩); subst hq_
    have h12 : F r12 = none := hc
    have n12g : g ≠ r12 := AH.none_ne' h12 hFg
    have n12a : ra ≠ r12 := AH.none_ne' h12 hFa
    refine ACall.less (H' := F.set r12 (.row (dL (n + 1) fun _ => 0) 0)) (HLe.of_eq (by rw [← dL_zero, show n + 1 = ((n : Int) + 1).toNat by omega])) ?_
    have hdist := dist0_c n (by omega) A hJ (by omega) (F.set r12 (.row (dL (n + 1) fun _ => 0) 0)) g 0 ra A0.length none ⟨by (first | (focus (repeat (first | (with_reducible assumption) | (with_reducible exact AH.set_same _ _ _) | ((first | refine AH.get_ne ?_ ?_); (first | (with_reducible assumption) | exact Ne.symm (by with_reducible assumption))))); done)), by (first | (focus (repeat (first | (with_reducible assumption) | (with_reducible exact AH.set_same _ _ _) | ((first | refine AH.get_ne ?_ ?_); (first | (with_reducible assumption) | exact Ne.symm (by with_reducible assumption))))); done)), hgra⟩ r12 (AH.set_same _ _ _) (Ne.symm n12g) (Ne.symm n12a)
    refine ACall.mono hdist ?_
    clear hdist
    rintro y H' ⟨σ, rs, ⟨hfe, hmx, hbd⟩, hrs, rfl, rfl⟩
    obtain ⟨hrs12, hFrs⟩ := AH.none_set hrs
    unfold dsH
    rw [AH.set_set]
    generalize hd : σ.d = d at *
    (repeat' ((conv => whnf); first | left | refine OpsA.cons ?_ | refine OpsA.nil ?_ | refine AWq.seq ?_ | refine AWq.region ?_ | refine AWq.cond ?_ | refine AWq.block ?_ | refine AWq.skip ?_ | refine AWq.ret ?_ | refine AWq.exit ?_ | refine AWq.loop ?_ | refine DrawA.consD ?_ | refine DrawA.nil ?_ | refine AWq.draw (by decide +kernel) ?_ | (refine Both.mk ?_ ?_ <;> intro hc <;> (first | exact Bool.noConfusion hc | exact absurd (by with_reducible rfl) hc | (exfalso; omega) | skip)) | (intro c hc; (try (simp only [AH.none_iff] at hc; repeat (have hn := hc.1; replace hc := hc.2))); (first | (refine i64_k hc ?_ ?_ ?_ ; omega; omega; (clear hc; intro hc; subst hc)) | skip)) | (apply Exists.intro; apply And.intro; (first | (focus (repeat (first | (with_reducible assumption) | (with_reducible exact AH.set_same _ _ _) | ((first | refine AH.get_ne ?_ ?_); (first | (with_reducible assumption) | exact Ne.symm (by with_reducible assumption))))); done))) | (apply Exists.intro; apply And.intro; first | (with_reducible assumption) | ((try simp only [List.getElem?_drop, Nat.mul_one, Nat.add_zero, Nat.zero_add]); first | (with_reducible assumption) | rfl)) | (apply And.intro; (first | rfl | (with_reducible assumption) | exact Nat.le_of_ble_eq_true rfl | omega | (simp <;> omega) | (focus (repeat' (first | (with_reducible assumption) | rfl | apply one_take | apply one_drop)); done))))) <;> (try (conv => whnf))
    refine Then.mk (AWq.in ?_)
    refine AWp_freeze1 12 (r := r12) (v := 0) (es := 1) (n := n + 1) (lim := none) (cells := dL (n + 1) d) rfl rfl (by (first | (focus (repeat (first | (with_reducible assumption) | (with_reducible exact AH.set_same _ _ _) | ((first | refine AH.get_ne ?_ ?_); (first | (with_reducible assumption) | exact Ne.symm (by with_reducible assumption))))); done))) (by simp) ?_
    refine AWp_less F ?_ ?_
    · refine HLe.del _ (HLe.set_of _ _ (HLe.fresh _ h12) hFrs) h12
    refine AWp.of tt_ok (dok _) rfl ?_
    (repeat' ((conv => whnf); first | refine Then.mk ?_ | left | refine OpsA.cons ?_ | refine OpsA.nil ?_ | refine AWq.seq ?_ | refine AWq.region ?_ | refine AWq.cond ?_ | refine AWq.block ?_ | refine AWq.skip ?_ | refine AWq.ret ?_ | refine AWq.exit ?_ | refine AWq.loop ?_ | refine DrawA.consD ?_ | refine DrawA.nil ?_ | refine AWq.draw (by decide +kernel) ?_ | (refine Both.mk ?_ ?_ <;> intro hc <;> (first | exact Bool.noConfusion hc | exact absurd (by with_reducible rfl) hc | (exfalso; omega) | skip)) | (intro c hc; (try (simp only [AH.none_iff] at hc; repeat (have hn := hc.1; replace hc := hc.2))); (first | (refine i64_k hc ?_ ?_ ?_ ; omega; omega; (clear hc; intro hc; subst hc)) | skip)) | (apply Exists.intro; apply And.intro; (first | (focus (repeat (first | (with_reducible assumption) | (with_reducible exact AH.set_same _ _ _) | ((first | refine AH.get_ne ?_ ?_); (first | (with_reducible assumption) | exact Ne.symm (by with_reducible assumption))))); done))) | (apply Exists.intro; apply And.intro; first | (with_reducible assumption) | ((try simp only [List.getElem?_drop, Nat.mul_one, Nat.add_zero, Nat.zero_add]); first | (with_reducible assumption) | rfl)) | (apply And.intro; (first | rfl | (with_reducible assumption) | exact Nat.le_of_ble_eq_true rfl | omega | (simp <;> omega) | (focus (repeat' (first | (with_reducible assumption) | rfl | apply one_take | apply one_drop)); done))))) <;> (try (conv => whnf))
    refine ACall.mono (bases_c n (by omega) A hJ.ok (by omega) F g 0 ra A0.length none hNet) ?_
    rintro y H' ⟨o, r13, hBI, hoe, h13, rfl, rfl⟩
    have hSv : Sv n es fs A d o := ⟨by rw [← hA0]; exact hal, hJ.ok, hnz, hfe, fun v hv => (hbd v hv).1, fun v hv => (hbd v hv).2, hmx, hBI, hoe⟩
    (repeat' ((conv => whnf); first | left | refine OpsA.cons ?_ | refine OpsA.nil ?_ | refine AWq.seq ?_ | refine AWq.region ?_ | refine AWq.cond ?_ | refine AWq.block ?_ | refine AWq.skip ?_ | refine AWq.ret ?_ | refine AWq.exit ?_ | refine AWq.loop ?_ | refine DrawA.consD ?_ | refine DrawA.nil ?_ | refine AWq.draw (by decide +kernel) ?_ | (refine Both.mk ?_ ?_ <;> intro hc <;> (first | exact Bool.noConfusion hc | exact absurd (by with_reducible rfl) hc | (exfalso; omega) | skip)) | (intro c hc; (try (simp only [AH.none_iff] at hc; repeat (have hn := hc.1; replace hc := hc.2))); (first | (refine i64_k hc ?_ ?_ ?_ ; omega; omega; (clear hc; intro hc; subst hc)) | skip)) | (apply Exists.intro; apply And.intro; (first | (focus (repeat (first | (with_reducible assumption) | (with_reducible exact AH.set_same _ _ _) | ((first | refine AH.get_ne ?_ ?_); (first | (with_reducible assumption) | exact Ne.symm (by with_reducible assumption))))); done))) | (apply Exists.intro; apply And.intro; first | (with_reducible assumption) | ((try simp only [List.getElem?_drop, Nat.mul_one, Nat.add_zero, Nat.zero_add]); first | (with_reducible assumption) | rfl)) | (apply And.intro; (first | rfl | (with_reducible assumption) | exact Nat.le_of_ble_eq_true rfl | omega | (simp <;> omega) | (focus (repeat' (first | (with_reducible assumption) | rfl | apply one_take | apply one_drop)); done))))) <;> (try (conv => whnf))
    refine Then.mk (AWq.in ?_)
    refine AWp_freeze1 13 (r := r13) (v := 0) (es := 1) (n := n + 1) (lim := none) (cells := dL (n + 1) (bsN n o)) rfl rfl (by (first | (focus (repeat (first | (with_reducible assumption) | (with_reducible exact AH.set_same _ _ _) | ((first | refine AH.get_ne ?_ ?_); (first | (with_reducible assumption) | exact Ne.symm (by with_reducible assumption))))); done))) (by simp) ?_
    rw [AH.del_set _ _ _ h13]
    refine AWp.of tt_ok (dok _) rfl ?_
    (repeat' ((conv => whnf); first | left | refine OpsA.cons ?_ | refine OpsA.nil ?_ | refine AWq.seq ?_ | refine AWq.region ?_ | refine AWq.cond ?_ | refine AWq.block ?_ | refine AWq.skip ?_ | refine AWq.ret ?_ | refine AWq.exit ?_ | refine AWq.loop ?_ | refine DrawA.consD ?_ | refine DrawA.nil ?_ | refine AWq.draw (by decide +kernel) ?_ | (refine Both.mk ?_ ?_ <;> intro hc <;> (first | exact Bool.noConfusion hc | exact absurd (by with_reducible rfl) hc | (exfalso; omega) | skip)) | (intro c hc; (try (simp only [AH.none_iff] at hc; repeat (have hn := hc.1; replace hc := hc.2))); (first | (refine i64_k hc ?_ ?_ ?_ ; omega; omega; (clear hc; intro hc; subst hc)) | skip)) | (apply Exists.intro; apply And.intro; (first | (focus (repeat (first | (with_reducible assumption) | (with_reducible exact AH.set_same _ _ _) | ((first | refine AH.get_ne ?_ ?_); (first | (with_reducible assumption) | exact Ne.symm (by with_reducible assumption))))); done))) | (apply Exists.intro; apply And.intro; first | (with_reducible assumption) | ((try simp only [List.getElem?_drop, Nat.mul_one, Nat.add_zero, Nat.zero_add]); first | (with_reducible assumption) | rfl)) | (apply And.intro; (first | rfl | (with_reducible assumption) | exact Nat.le_of_ble_eq_true rfl | omega | (simp <;> omega) | (focus (repeat' (first | (with_reducible assumption) | rfl | apply one_take | apply one_drop)); done))))) <;> (try (conv => whnf))
    (obtain ⟨c14, hq_⟩ : ∃ c14, c14 = c := ⟨_, rfl⟩); subst hq_
    have h14 : F c14 = none := hc
    have n146 : c6 ≠ c14 := AH.none_ne' h14 hF6
    have n14g : g ≠ c14 := AH.none_ne' h14 hFg
    have n14a : ra ≠ c14 := AH.none_ne' h14 hFa
    refine Then.mk (AWq.in ?_)
    refine AWp_nilC (p := c14) 1 [] [.nils, .nils, .int .i64 0] (AH.set_same _ _ _) fun r1 hr1 n1 => ?_
    obtain ⟨_, hr1⟩ := AH.none_set hr1
    refine AWp_nilC (p := c14) 1 [.sl r1 0 1 0 0 none] [.nils, .int .i64 0] (AH.set_same _ _ _) fun r2 hr2 n2 => ?_
    obtain ⟨_, hr2⟩ := AH.none_set hr2
    obtain ⟨n21, hr2⟩ := AH.none_set hr2
    obtain ⟨_, hr2⟩ := AH.none_set hr2
    refine AWp_nilC (p := c14) 1 [.sl r1 0 1 0 0 none, .sl r2 0 1 0 0 none] [.int .i64 0] (AH.set_same _ _ _) fun r3 hr3 n3 => ?_
    obtain ⟨_, hr3⟩ := AH.none_set hr3
    obtain ⟨n32, hr3⟩ := AH.none_set hr3
    obtain ⟨_, hr3⟩ := AH.none_set hr3
    obtain ⟨n31, hr3⟩ := AH.none_set hr3
    obtain ⟨_, hr3⟩ := AH.none_set hr3
    have hD : AnD r1 r2 r3 c14 := ⟨Ne.symm n21, Ne.symm n31, Ne.symm n32, n1, n2, n3⟩
    refine AWp_less (anH F r1 r2 r3 c14 [] [] []) (HLe.of_eq (anH_0 hD)) ?_
    refine AWp.of tt_ok (dok _) rfl ?_
    have k6 : ∀ l1 l2 l3, anH F r1 r2 r3 c14 l1 l2 l3 c6 = some (.row [.nils, .nils, .nils, .int .i64 0] 0) := fun l1 l2 l3 => by
      unfold anH; rw [AH.set_ne _ _ n146, AH.set_ne _ _ (AH.none_ne' hr3 hF6), AH.set_ne _ _ (AH.none_ne' hr2 hF6), AH.set_ne _ _ (AH.none_ne' hr1 hF6)]; exact hF6
    have kg : ∀ l1 l2 l3, anH F r1 r2 r3 c14 l1 l2 l3 g = some (.row [.int .i64 n, .sl ra A0.length 5 0 A.length none] 0) := fun l1 l2 l3 => by
      unfold anH; rw [AH.set_ne _ _ n14g, AH.set_ne _ _ (AH.none_ne' hr3 hFg), AH.set_ne _ _ (AH.none_ne' hr2 hFg), AH.set_ne _ _ (AH.none_ne' hr1 hFg)]; exact hFg
    have ka : ∀ l1 l2 l3, anH F r1 r2 r3 c14 l1 l2 l3 ra = some (.row (acL A) A0.length) := fun l1 l2 l3 => by
      unfold anH; rw [AH.set_ne _ _ n14a, AH.set_ne _ _ (AH.none_ne' hr3 hFa), AH.set_ne _ _ (AH.none_ne' hr2 hFa), AH.set_ne _ _ (AH.none_ne' hr1 hFa)]; exact hFa
    have k14 : ∀ l1 l2 l3, anH F r1 r2 r3 c14 l1 l2 l3 c14 = some (.row [.sl r1 l1.length 1 0 l1.length none, .sl r2 l2.length 1 0 l2.length none, .sl r3 l3.length 1 0 l3.length none, .int .i64 0] 0) := fun l1 l2 l3 => AH.set_same _ _ _
    have k1 : ∀ l1 l2 l3, anH F r1 r2 r3 c14 l1 l2 l3 r1 = some (.row (iS .i64 l1) l1.length) := fun l1 l2 l3 => by
      unfold anH; rw [AH.set_ne _ _ n1, AH.set_ne _ _ hD.a, AH.set_ne _ _ hD.b, AH.set_same]
    have k2 : ∀ l1 l2 l3, anH F r1 r2 r3 c14 l1 l2 l3 r2 = some (.row (iS .i64 l2) l2.length) := fun l1 l2 l3 => by
      unfold anH; rw [AH.set_ne _ _ n2, AH.set_ne _ _ (Ne.symm n32), AH.set_same]
    have k3 : ∀ l1 l2 l3, anH F r1 r2 r3 c14 l1 l2 l3 r3 = some (.row (iS .i64 l3) l3.length) := fun l1 l2 l3 => by
      unfold anH; rw [AH.set_ne _ _ n3, AH.set_same]
    have hil := fun l : List Int => iS_length .i64 l
    (repeat' ((conv => whnf); first | refine Then.mk ?_ | left | refine OpsA.cons ?_ | refine OpsA.nil ?_ | refine AWq.seq ?_ | refine AWq.region ?_ | refine AWq.cond ?_ | refine AWq.block ?_ | refine AWq.skip ?_ | refine AWq.ret ?_ | refine AWq.exit ?_ | refine AWq.loop ?_ | refine DrawA.consD ?_ | refine DrawA.nil ?_ | refine AWq.draw (by decide +kernel) ?_ | (refine Both.mk ?_ ?_ <;> intro hc <;> (first | exact Bool.noConfusion hc | exact absurd (by with_reducible rfl) hc | (exfalso; omega) | skip)) | (intro c hc; (try (simp only [AH.none_iff] at hc; repeat (have hn := hc.1; replace hc := hc.2))); (first | (refine i64_k hc ?_ ?_ ?_ ; omega; omega; (clear hc; intro hc; subst hc)) | skip)) | (apply Exists.intro; apply And.intro; (first | (focus (repeat (first | (with_reducible assumption) | (with_reducible exact AH.set_same _ _ _) | ((first | refine AH.get_ne ?_ ?_); (first | (with_reducible assumption) | exact Ne.symm (by with_reducible assumption))))); done))) | (apply Exists.intro; apply And.intro; first | (with_reducible assumption) | ((try simp only [List.getElem?_drop, Nat.mul_one, Nat.add_zero, Nat.zero_add]); first | (with_reducible assumption) | rfl)) | (apply And.intro; (first | rfl | (with_reducible assumption) | exact Nat.le_of_ble_eq_true rfl | omega | (simp <;> omega) | (focus (repeat' (first | (with_reducible assumption) | rfl | apply one_take | apply one_drop)); done))))) <;> (try (conv => whnf))
    refine AWp_loop (σ := Nat) (15 :: 49 :: 50 :: 51 :: 52 :: 53 :: 54 :: 55 :: 56 :: 57 :: 58 :: 59 :: 60 :: 61 :: 62 :: 63 :: 64 :: 65 :: 66 :: 67 :: 68 :: 69 :: []) (fun i => [(49, .int .i64 i)]) (fun i => anH F r1 r2 r3 c14 (fnL i (offS n d o)) [] []) (fun i => i ≤ n) (fun i => n - i) 0 rfl (Nat.zero_le _) ⟨rfl, trivial⟩ (HLe.refl _) ?_
    intro i hi
    refine AWp.of tt_ok (dok _) rfl ?_
    dsimp only at hi ⊢
    by_cases hilt : i < n
    · have hb1 := hbd i (by omega)
      have hlo := hBI.lo i (by omega)
      have hup := hBI.up i (by omega)
      have hbn : 0 ≤ bsN n o i ∧ bsN n o i ≤ n := by unfold bsN; split <;> omega
      have hb2 := hbd (bsN n o i).toNat (by omega)
      have gi := dL_getZ (n := n + 1) d (show i < n + 1 by omega)
      have gb := dL_getZ (n := n + 1) (bsN n o) (show i < n + 1 by omega)
      have gd : (dL (n + 1) d)[(bsN n o i).toNat]? = some (.int .i64 (d (bsN n o i).toNat)) := dL_get d (by omega)
      have hl1 := dL_len (n + 1) d
      have hl2 := dL_len (n + 1) (bsN n o)
      have hK14 := k14 (fnL i (offS n d o)) [] []
      have hK1 := k1 (fnL i (offS n d o)) [] []
      have hll := hil (fnL i (offS n d o))
      have hfl : (fnL i (offS n d o)).length = i := by simp
      have hst := anH_1 (F := F) hD (fnL i (offS n d o)) [] [] (offS n d o i)
      rw [← fnL_snoc] at hst
      have hoff : offS n d o i = d i - d (bsN n o i).toNat := rfl
      rw [hoff] at hst
      generalize bsN n o i = bi at *
      generalize d bi.toNat = db at *
      generalize d i = di at *
      generalize hG1 : anH F r1 r2 r3 c14 (fnL i (offS n d o)) [] [] = G1 at *
      generalize hG2 : anH F r1 r2 r3 c14 (fnL (i + 1) (offS n d o)) [] [] = G2 at *
      (repeat' ((conv => whnf); first | refine Then.mk ?_ | left | refine OpsA.cons ?_ | refine OpsA.nil ?_ | refine AWq.seq ?_ | refine AWq.region ?_ | refine AWq.cond ?_ | refine AWq.block ?_ | refine AWq.skip ?_ | refine AWq.ret ?_ | refine AWq.exit ?_ | refine AWq.loop ?_ | refine DrawA.consD ?_ | refine DrawA.nil ?_ | refine AWq.draw (by decide +kernel) ?_ | (refine Both.mk ?_ ?_ <;> intro hc <;> (first | exact Bool.noConfusion hc | exact absurd (by with_reducible rfl) hc | (exfalso; omega) | skip)) | (intro c hc; (try (simp only [AH.none_iff] at hc; repeat (have hn := hc.1; replace hc := hc.2))); (first | (refine i64_k hc ?_ ?_ ?_ ; omega; omega; (clear hc; intro hc; subst hc)) | skip)) | (apply Exists.intro; apply And.intro; (first | (focus (repeat (first | (with_reducible assumption) | (with_reducible exact AH.set_same _ _ _) | ((first | refine AH.get_ne ?_ ?_); (first | (with_reducible assumption) | exact Ne.symm (by with_reducible assumption))))); done))) | (apply Exists.intro; apply And.intro; first | (with_reducible assumption) | ((try simp only [List.getElem?_drop, Nat.mul_one, Nat.add_zero, Nat.zero_add]); first | (with_reducible assumption) | rfl)) | (apply And.intro; (first | rfl | (with_reducible assumption) | exact Nat.le_of_ble_eq_true rfl | omega | (simp <;> omega) | (focus (repeat' (first | (with_reducible assumption) | rfl | apply one_take | apply one_drop)); done))))) <;> (try (conv => whnf))
      exact ⟨i + 1, hilt, by omega, ⟨congrArg (AV.int .i64) (by omega), trivial⟩, HLe.of_eq (hG2.trans hst)⟩
    · have hie : i = n := by omega
      rw [hie]
      clear hi hie
      obtain ⟨offs, hoffs⟩ : ∃ offs, offs = fnL n (offS n d o) := ⟨_, rfl⟩
      have hofl : offs.length = n := by rw [hoffs]; simp
      rw [← hoffs]
      have hcl := acL_len A
      have ho := acL_one A
      have kg1 := kg offs [] []
      (repeat' ((conv => whnf); first | refine Then.mk ?_ | left | refine OpsA.cons ?_ | refine OpsA.nil ?_ | refine AWq.seq ?_ | refine AWq.region ?_ | refine AWq.cond ?_ | refine AWq.block ?_ | refine AWq.skip ?_ | refine AWq.ret ?_ | refine AWq.exit ?_ | refine AWq.loop ?_ | refine DrawA.consD ?_ | refine DrawA.nil ?_ | refine AWq.draw (by decide +kernel) ?_ | (refine Both.mk ?_ ?_ <;> intro hc <;> (first | exact Bool.noConfusion hc | exact absurd (by with_reducible rfl) hc | (exfalso; omega) | skip)) | (intro c hc; (try (simp only [AH.none_iff] at hc; repeat (have hn := hc.1; replace hc := hc.2))); (first | (refine i64_k hc ?_ ?_ ?_ ; omega; omega; (clear hc; intro hc; subst hc)) | skip)) | (apply Exists.intro; apply And.intro; (first | (focus (repeat (first | (with_reducible assumption) | (with_reducible exact AH.set_same _ _ _) | ((first | refine AH.get_ne ?_ ?_); (first | (with_reducible assumption) | exact Ne.symm (by with_reducible assumption))))); done))) | (apply Exists.intro; apply And.intro; first | (with_reducible assumption) | ((try simp only [List.getElem?_drop, Nat.mul_one, Nat.add_zero, Nat.zero_add]); first | (with_reducible assumption) | rfl)) | (apply And.intro; (first | rfl | (with_reducible assumption) | exact Nat.le_of_ble_eq_true rfl | omega | (simp <;> omega) | (focus (repeat' (first | (with_reducible assumption) | rfl | apply one_take | apply one_drop)); done))))) <;> (try (conv => whnf))
      refine AWp_loop (σ := Nat) (16 :: 17 :: 75 :: 76 :: 77 :: 78 :: 79 :: 80 :: 81 :: 82 :: 83 :: 84 :: 85 :: 86 :: 87 :: 88 :: 89 :: 90 :: 91 :: 92 :: 93 :: 94 :: 95 :: 96 :: 97 :: 98 :: []) (fun i => [(75, .int .i64 i)]) (fun i => anH F r1 r2 r3 c14 offs (flE es (A.take i)) (flF es (A.take i))) (fun i => i ≤ A.length) (fun i => A.length - i) 0 rfl (Nat.zero_le _) ⟨rfl, trivial⟩ (HLe.of_eq (by simp [flE, flF])) ?_
      intro j hj
      refine AWp.of tt_ok (dok _) rfl ?_
      dsimp only at hj ⊢
      by_cases hjlt : j < A.length
      · obtain ⟨x, hx⟩ : ∃ x, A[j]? = some x := ⟨_, List.getElem?_eq_getElem hjlt⟩
        have ka1 := ka offs (flE es (A.take j)) (flF es (A.take j))
        have kc1 := k14 offs (flE es (A.take j)) (flF es (A.take j))
        have kr2 := k2 offs (flE es (A.take j)) (flF es (A.take j))
        have kr3 := k3 offs (flE es (A.take j)) (flF es (A.take j))
        have hl2 := hil (flE es (A.take j))
        have hl3 := hil (flF es (A.take j))
        have hlE : (flE es (A.take j)).length ≤ 100000 := by unfold flE; rw [List.length_map, List.length_take, List.length_take]; omega
        have hlF : (flF es (A.take j)).length ≤ 100000 := by unfold flF; rw [List.length_map, List.length_drop, List.length_take]; omega
        have hst2 := anH_2 (F := F) hD offs (flE es (A.take j)) (flF es (A.take j)) x.f
        have hst3 := anH_3 (F := F) hD offs (flE es (A.take j)) (flF es (A.take j)) x.f
        by_cases hje : j < es.length
        · have e2 : flE es (A.take (j + 1)) = flE es (A.take j) ++ [x.f] := by
            unfold flE; rw [List.take_take, List.take_take, Nat.min_eq_right (by omega), Nat.min_eq_right (by omega), take_snoc hx]; simp
          have e3 : flF es (A.take (j + 1)) = flF es (A.take j) := by
            unfold flF; rw [List.drop_of_length_le (by rw [List.length_take]; omega), List.drop_of_length_le (by rw [List.length_take]; omega)]
          rw [← e2] at hst2
          have hst : anH F r1 r2 r3 c14 offs (flE es (A.take (j + 1))) (flF es (A.take (j + 1))) = _ := (congrArg (anH F r1 r2 r3 c14 offs (flE es (A.take (j + 1)))) e3).trans hst2
          clear hst3 hst2
          generalize hG1 : anH F r1 r2 r3 c14 offs (flE es (A.take j)) (flF es (A.take j)) = G1 at *
          generalize hG2 : anH F r1 r2 r3 c14 offs (flE es (A.take (j + 1))) (flF es (A.take (j + 1))) = G2 at *
          (iterate 3 ((repeat' ((conv => whnf); first | left | refine OpsA.cons ?_ | refine OpsA.nil ?_ | refine AWq.seq ?_ | refine AWq.region ?_ | refine AWq.cond ?_ | refine AWq.block ?_ | refine AWq.skip ?_ | refine AWq.ret ?_ | refine AWq.exit ?_ | refine AWq.loop ?_ | refine DrawA.consD ?_ | refine DrawA.nil ?_ | refine AWq.draw (by decide +kernel) ?_ | (refine Both.mk ?_ ?_ <;> intro hc <;> (first | exact Bool.noConfusion hc | exact absurd (by with_reducible rfl) hc | (exfalso; omega) | skip)) | (intro c hc; (try (simp only [AH.none_iff] at hc; repeat (have hn := hc.1; replace hc := hc.2))); (first | (refine i64_k hc ?_ ?_ ?_ ; omega; omega; (clear hc; intro hc; subst hc)) | skip)) | (apply Exists.intro; apply And.intro; (first | (focus (repeat (first | (with_reducible assumption) | (with_reducible exact AH.set_same _ _ _) | ((first | refine AH.get_ne ?_ ?_); (first | (with_reducible assumption) | exact Ne.symm (by with_reducible assumption))))); done))) | (apply Exists.intro; apply And.intro; first | (with_reducible assumption) | ((try simp only [List.getElem?_drop, Nat.mul_one, Nat.add_zero, Nat.zero_add]); first | (with_reducible assumption) | rfl)) | (apply And.intro; (first | rfl | (with_reducible assumption) | exact Nat.le_of_ble_eq_true rfl | omega | (simp <;> omega) | (focus (repeat' (first | (with_reducible assumption) | rfl | apply one_take | apply one_drop)); done))))) <;> (try (conv => whnf)); refine Then.mk ?_))
          refine AWq.in ?_
          refine AWp_segP 17 (acA x) rfl rfl (by (first | assumption | (simp only [AH.none_iff]; (repeat' (first | assumption | (refine And.intro ?_ ?_)))))) (acL_segZ hx) rfl ?_
          refine AWp.of tt_ok (dok _) rfl ?_
          (repeat' ((conv => whnf); first | refine Then.mk ?_ | left | refine OpsA.cons ?_ | refine OpsA.nil ?_ | refine AWq.seq ?_ | refine AWq.region ?_ | refine AWq.cond ?_ | refine AWq.block ?_ | refine AWq.skip ?_ | refine AWq.ret ?_ | refine AWq.exit ?_ | refine AWq.loop ?_ | refine DrawA.consD ?_ | refine DrawA.nil ?_ | refine AWq.draw (by decide +kernel) ?_ | (refine Both.mk ?_ ?_ <;> intro hc <;> (first | exact Bool.noConfusion hc | exact absurd (by with_reducible rfl) hc | (exfalso; omega) | skip)) | (intro c hc; (try (simp only [AH.none_iff] at hc; repeat (have hn := hc.1; replace hc := hc.2))); (first | (refine i64_k hc ?_ ?_ ?_ ; omega; omega; (clear hc; intro hc; subst hc)) | skip)) | (apply Exists.intro; apply And.intro; (first | (focus (repeat (first | (with_reducible assumption) | (with_reducible exact AH.set_same _ _ _) | ((first | refine AH.get_ne ?_ ?_); (first | (with_reducible assumption) | exact Ne.symm (by with_reducible assumption))))); done))) | (apply Exists.intro; apply And.intro; first | (with_reducible assumption) | ((try simp only [List.getElem?_drop, Nat.mul_one, Nat.add_zero, Nat.zero_add]); first | (with_reducible assumption) | rfl)) | (apply And.intro; (first | rfl | (with_reducible assumption) | exact Nat.le_of_ble_eq_true rfl | omega | (simp <;> omega) | (focus (repeat' (first | (with_reducible assumption) | rfl | apply one_take | apply one_drop)); done))))) <;> (try (conv => whnf))
          exact ⟨j + 1, hjlt, by omega, ⟨congrArg (AV.int .i64) (by omega), trivial⟩, HLe.of_eq (hG2.trans hst)⟩
        · have e2 : flE es (A.take (j + 1)) = flE es (A.take j) := by
            unfold flE; rw [List.take_take, List.take_take, Nat.min_eq_left (by omega), Nat.min_eq_left (by omega)]
          have e3 : flF es (A.take (j + 1)) = flF es (A.take j) ++ [x.f] := by
            unfold flF; rw [take_snoc hx, List.drop_append_of_le_length (by rw [List.length_take]; omega)]; simp
          rw [← e3] at hst3
          have hst : anH F r1 r2 r3 c14 offs (flE es (A.take (j + 1))) (flF es (A.take (j + 1))) = _ := (congrArg (fun l => anH F r1 r2 r3 c14 offs l (flF es (A.take (j + 1)))) e2).trans hst3
          clear hst3 hst2
          generalize hG1 : anH F r1 r2 r3 c14 offs (flE es (A.take j)) (flF es (A.take j)) = G1 at *
          generalize hG2 : anH F r1 r2 r3 c14 offs (flE es (A.take (j + 1))) (flF es (A.take (j + 1))) = G2 at *
          (iterate 3 ((repeat' ((conv => whnf); first | left | refine OpsA.cons ?_ | refine OpsA.nil ?_ | refine AWq.seq ?_ | refine AWq.region ?_ | refine AWq.cond ?_ | refine AWq.block ?_ | refine AWq.skip ?_ | refine AWq.ret ?_ | refine AWq.exit ?_ | refine AWq.loop ?_ | refine DrawA.consD ?_ | refine DrawA.nil ?_ | refine AWq.draw (by decide +kernel) ?_ | (refine Both.mk ?_ ?_ <;> intro hc <;> (first | exact Bool.noConfusion hc | exact absurd (by with_reducible rfl) hc | (exfalso; omega) | skip)) | (intro c hc; (try (simp only [AH.none_iff] at hc; repeat (have hn := hc.1; replace hc := hc.2))); (first | (refine i64_k hc ?_ ?_ ?_ ; omega; omega; (clear hc; intro hc; subst hc)) | skip)) | (apply Exists.intro; apply And.intro; (first | (focus (repeat (first | (with_reducible assumption) | (with_reducible exact AH.set_same _ _ _) | ((first | refine AH.get_ne ?_ ?_); (first | (with_reducible assumption) | exact Ne.symm (by with_reducible assumption))))); done))) | (apply Exists.intro; apply And.intro; first | (with_reducible assumption) | ((try simp only [List.getElem?_drop, Nat.mul_one, Nat.add_zero, Nat.zero_add]); first | (with_reducible assumption) | rfl)) | (apply And.intro; (first | rfl | (with_reducible assumption) | exact Nat.le_of_ble_eq_true rfl | omega | (simp <;> omega) | (focus (repeat' (first | (with_reducible assumption) | rfl | apply one_take | apply one_drop)); done))))) <;> (try (conv => whnf)); refine Then.mk ?_))
          refine AWq.in ?_
          refine AWp_segP 17 (acA x) rfl rfl (by (first | assumption | (simp only [AH.none_iff]; (repeat' (first | assumption | (refine And.intro ?_ ?_)))))) (acL_segZ hx) rfl ?_
          refine AWp.of tt_ok (dok _) rfl ?_
          (repeat' ((conv => whnf); first | refine Then.mk ?_ | left | refine OpsA.cons ?_ | refine OpsA.nil ?_ | refine AWq.seq ?_ | refine AWq.region ?_ | refine AWq.cond ?_ | refine AWq.block ?_ | refine AWq.skip ?_ | refine AWq.ret ?_ | refine AWq.exit ?_ | refine AWq.loop ?_ | refine DrawA.consD ?_ | refine DrawA.nil ?_ | refine AWq.draw (by decide +kernel) ?_ | (refine Both.mk ?_ ?_ <;> intro hc <;> (first | exact Bool.noConfusion hc | exact absurd (by with_reducible rfl) hc | (exfalso; omega) | skip)) | (intro c hc; (try (simp only [AH.none_iff] at hc; repeat (have hn := hc.1; replace hc := hc.2))); (first | (refine i64_k hc ?_ ?_ ?_ ; omega; omega; (clear hc; intro hc; subst hc)) | skip)) | (apply Exists.intro; apply And.intro; (first | (focus (repeat (first | (with_reducible assumption) | (with_reducible exact AH.set_same _ _ _) | ((first | refine AH.get_ne ?_ ?_); (first | (with_reducible assumption) | exact Ne.symm (by with_reducible assumption))))); done))) | (apply Exists.intro; apply And.intro; first | (with_reducible assumption) | ((try simp only [List.getElem?_drop, Nat.mul_one, Nat.add_zero, Nat.zero_add]); first | (with_reducible assumption) | rfl)) | (apply And.intro; (first | rfl | (with_reducible assumption) | exact Nat.le_of_ble_eq_true rfl | omega | (simp <;> omega) | (focus (repeat' (first | (with_reducible assumption) | rfl | apply one_take | apply one_drop)); done))))) <;> (try (conv => whnf))
          exact ⟨j + 1, hjlt, by omega, ⟨congrArg (AV.int .i64) (by omega), trivial⟩, HLe.of_eq (hG2.trans hst)⟩
      · have hje : j = A.length := by omega
        have htA : A.take j = A := List.take_of_length_le (by omega)
        rw [htA]
        have hlE : (flE es A).length = es.length := by unfold flE; rw [List.length_map, List.length_take]; omega
        have hlF : (flF es A).length = fs.length := by unfold flF; rw [List.length_map, List.length_drop]; omega
        have kc1 := k14 offs (flE es A) (flF es A)
        have kr1 := k1 offs (flE es A) (flF es A)
        have kr2 := k2 offs (flE es A) (flF es A)
        have kr3 := k3 offs (flE es A) (flF es A)
        obtain ⟨G1, hG1⟩ : ∃ G1, G1 = anH F r1 r2 r3 c14 offs (flE es A) (flF es A) := ⟨_, rfl⟩
        rw [← hG1] at kc1 kr1 kr2 kr3 ⊢
        have hll1 := hil offs
        have hll2 := hil (flE es A)
        have hll3 := hil (flF es A)
        (iterate 2 ((repeat' ((conv => whnf); first | left | refine OpsA.cons ?_ | refine OpsA.nil ?_ | refine AWq.seq ?_ | refine AWq.region ?_ | refine AWq.cond ?_ | refine AWq.block ?_ | refine AWq.skip ?_ | refine AWq.ret ?_ | refine AWq.exit ?_ | refine AWq.loop ?_ | refine DrawA.consD ?_ | refine DrawA.nil ?_ | refine AWq.draw (by decide +kernel) ?_ | (refine Both.mk ?_ ?_ <;> intro hc <;> (first | exact Bool.noConfusion hc | exact absurd (by with_reducible rfl) hc | (exfalso; omega) | skip)) | (intro c hc; (try (simp only [AH.none_iff] at hc; repeat (have hn := hc.1; replace hc := hc.2))); (first | (refine i64_k hc ?_ ?_ ?_ ; omega; omega; (clear hc; intro hc; subst hc)) | skip)) | (apply Exists.intro; apply And.intro; (first | (focus (repeat (first | (with_reducible assumption) | (with_reducible exact AH.set_same _ _ _) | ((first | refine AH.get_ne ?_ ?_); (first | (with_reducible assumption) | exact Ne.symm (by with_reducible assumption))))); done))) | (apply Exists.intro; apply And.intro; first | (with_reducible assumption) | ((try simp only [List.getElem?_drop, Nat.mul_one, Nat.add_zero, Nat.zero_add]); first | (with_reducible assumption) | rfl)) | (apply And.intro; (first | rfl | (with_reducible assumption) | exact Nat.le_of_ble_eq_true rfl | omega | (simp <;> omega) | (focus (repeat' (first | (with_reducible assumption) | rfl | apply one_take | apply one_drop)); done))))) <;> (try (conv => whnf)); refine Then.mk ?_))
        refine AWq.in ?_
        have hH14 : H c14 = none := (AH.none_set (HLe.none hHF h14)).2
        have hH1 : H r1 = none := (AH.none_set (HLe.none hHF hr1)).2
        have hH2 : H r2 = none := (AH.none_set (HLe.none hHF hr2)).2
        have hH3 : H r3 = none := (AH.none_set (HLe.none hHF hr3)).2
        have hc6r1 : c6 ≠ r1 := AH.none_ne' hr1 hF6
        have hc6r2 : c6 ≠ r2 := AH.none_ne' hr2 hF6
        have hc6r3 : c6 ≠ r3 := AH.none_ne' hr3 hF6
        obtain ⟨Z, hZ⟩ : ∃ Z, Z = anH (H.set c6 (.row [.nils, .nils, .nils, .int .i64 0] 0)) r1 r2 r3 c14 offs (flE es A) (flF es A) := ⟨_, rfl⟩
        refine AWp_less Z ?_ ?_
        · rw [hZ, hG1]; unfold anH
          exact HLe.set (HLe.set (HLe.set (HLe.set hHF _ _) _ _) _ _) _ _
        have z14 : Z c14 = some (.row [.sl r1 offs.length 1 0 offs.length none, .sl r2 (flE es A).length 1 0 (flE es A).length none, .sl r3 (flF es A).length 1 0 (flF es A).length none, .int .i64 0] 0) := by rw [hZ]; exact AH.set_same _ _ _
        have z6 : Z c6 = some (.row [.nils, .nils, .nils, .int .i64 0] 0) := by
          rw [hZ]; unfold anH; rw [AH.set_ne _ _ n146, AH.set_ne _ _ hc6r3, AH.set_ne _ _ hc6r2, AH.set_ne _ _ hc6r1, AH.set_same]
        have z1 : Z r1 = some (.row (iS .i64 offs) offs.length) := by
          rw [hZ]; unfold anH; rw [AH.set_ne _ _ n1, AH.set_ne _ _ hD.a, AH.set_ne _ _ hD.b, AH.set_same]
        refine AWp.of tt_ok (dok _) rfl ?_
        have hcost := ACall.apart1 (H := Z) (args := [.cs (edL es) es.length, .cs (fxL fs) fs.length, .sl r1 offs.length 1 0 offs.length none]) (.tup _ fun x hx => by
            simp only [List.mem_cons, List.not_mem_nil, or_false] at hx
            rcases hx with rfl | rfl
            · exact .int _ _
            · exact .int _ _) (.cons (.flat _ (.cs _ _ (flat_ed es))) (.cons (.flat _ (.cs _ _ (flat_fx fs))) (.cons (.sl z1 (by simp) (flat_iS _ _)) .nil))) (fun H => cost_c es fs offs (by omega) (by omega) (by omega) H)
        have hlr : HLe ((((H.set r1 (.row (iS .i64 offs) n)).set r2 (.row (iS .i64 (flE es A)) es.length)).set r3 (.row (iS .i64 (flF es A)) fs.length))) (((H.set c6 (.row [.nils, .nils, .nils, .int .i64 0] 0)).set r1 (.row (iS .i64 offs) n)).set r2 (.row (iS .i64 (flE es A)) es.length) |>.set r3 (.row (iS .i64 (flF es A)) fs.length)) :=
          HLe.set (HLe.set (HLe.set (HLe.fresh _ hc6) _ _) _ _) _ _
        (repeat' ((conv => whnf); first | refine Then.mk ?_ | left | refine OpsA.cons ?_ | refine OpsA.nil ?_ | refine AWq.seq ?_ | refine AWq.region ?_ | refine AWq.cond ?_ | refine AWq.block ?_ | refine AWq.skip ?_ | refine AWq.ret ?_ | refine AWq.exit ?_ | refine AWq.loop ?_ | refine DrawA.consD ?_ | refine DrawA.nil ?_ | refine AWq.draw (by decide +kernel) ?_ | (refine Both.mk ?_ ?_ <;> intro hc <;> (first | exact Bool.noConfusion hc | exact absurd (by with_reducible rfl) hc | (exfalso; omega) | skip)) | (intro c hc; (try (simp only [AH.none_iff] at hc; repeat (have hn := hc.1; replace hc := hc.2))); (first | (refine i64_k hc ?_ ?_ ?_ ; omega; omega; (clear hc; intro hc; subst hc)) | skip)) | (apply Exists.intro; apply And.intro; (first | (focus (repeat (first | (with_reducible assumption) | (with_reducible exact AH.set_same _ _ _) | ((first | refine AH.get_ne ?_ ?_); (first | (with_reducible assumption) | exact Ne.symm (by with_reducible assumption))))); done))) | (apply Exists.intro; apply And.intro; first | (with_reducible assumption) | ((try simp only [List.getElem?_drop, Nat.mul_one, Nat.add_zero, Nat.zero_add]); first | (with_reducible assumption) | rfl)) | (apply And.intro; (first | rfl | (with_reducible assumption) | exact Nat.le_of_ble_eq_true rfl | omega | (simp <;> omega) | (focus (repeat' (first | (with_reducible assumption) | rfl | apply one_take | apply one_drop)); done))) | (refine ACall.to (hcost) ?_))) <;> (try (conv => whnf))
        subst hoffs
        rw [hofl, hlE, hlF, hZ]
        refine ⟨_, (((H.set r1 (.row (iS .i64 (fnL n (offS n d o))) n)).set r2 (.row (iS .i64 (flE es A)) es.length)).set r3 (.row (iS .i64 (flF es A)) fs.length)), AVle.refl _, ?_, A, d, o, r1, r2, r3, n, es.length, fs.length, hSv, hH1, hH2, hH3, hD.b, hD.a, hD.x, rfl, rfl⟩
        unfold anH
        rw [hofl, hlE, hlF]
        have q14 : ∀ X Y Z', (((H.set r1 X).set r2 Y).set r3 Z') c14 = none := fun X Y Z' => by
          rw [AH.set_ne _ _ (Ne.symm n3), AH.set_ne _ _ (Ne.symm n2), AH.set_ne _ _ (Ne.symm n1)]; exact hH14
        have q6 : ∀ X Y Z', (((H.set r1 X).set r2 Y).set r3 Z') c6 = none := fun X Y Z' => by
          rw [AH.set_ne _ _ hc6r3, AH.set_ne _ _ hc6r2, AH.set_ne _ _ hc6r1]; exact hc6
        repeat' (first | exact hlr | refine HLe.set_of _ _ ?_ ?_ | exact q14 _ _ _ | exact q6 _ _ _)
  · have hi2 : i < n + 1 := by simpa using hi
    have hpos2 : 0 < netN A i := by
      have e : (fnL (n + 1) (netN A)).getD i 0 = netN A i := by rw [List.getD_eq_getElem?_getD, fnL_get _ hi2]; rfl
      rw [e] at hpos
      exact of_decide_eq_true hpos
    have hmv := move_c n (by omega) A hJ (by omega) i (by omega) hpos2 _ g 0 ra A0.length none hNet
    (repeat' ((conv => whnf); first | refine Then.mk ?_ | left | refine OpsA.cons ?_ | refine OpsA.nil ?_ | refine AWq.seq ?_ | refine AWq.region ?_ | refine AWq.cond ?_ | refine AWq.block ?_ | refine AWq.skip ?_ | refine AWq.ret ?_ | refine AWq.exit ?_ | refine AWq.loop ?_ | refine DrawA.consD ?_ | refine DrawA.nil ?_ | refine AWq.draw (by decide +kernel) ?_ | (refine Both.mk ?_ ?_ <;> intro hc <;> (first | exact Bool.noConfusion hc | exact absurd (by with_reducible rfl) hc | (exfalso; omega) | skip)) | (intro c hc; (try (simp only [AH.none_iff] at hc; repeat (have hn := hc.1; replace hc := hc.2))); (first | (refine i64_k hc ?_ ?_ ?_ ; omega; omega; (clear hc; intro hc; subst hc)) | skip)) | (apply Exists.intro; apply And.intro; (first | (focus (repeat (first | (with_reducible assumption) | (with_reducible exact AH.set_same _ _ _) | ((first | refine AH.get_ne ?_ ?_); (first | (with_reducible assumption) | exact Ne.symm (by with_reducible assumption))))); done))) | (apply Exists.intro; apply And.intro; first | (with_reducible assumption) | ((try simp only [List.getElem?_drop, Nat.mul_one, Nat.add_zero, Nat.zero_add]); first | (with_reducible assumption) | rfl)) | (apply And.intro; (first | rfl | (with_reducible assumption) | exact Nat.le_of_ble_eq_true rfl | omega | (simp <;> omega) | (focus (repeat' (first | (with_reducible assumption) | rfl | apply one_take | apply one_drop)); done))))) <;> (try (conv => whnf))
    refine ACall.mono hmv ?_
    rintro y H' ⟨A', hJ', hlt, hal', rfl, rfl⟩
    (repeat' ((conv => whnf); first | refine Then.mk ?_ | left | refine OpsA.cons ?_ | refine OpsA.nil ?_ | refine AWq.seq ?_ | refine AWq.region ?_ | refine AWq.cond ?_ | refine AWq.block ?_ | refine AWq.skip ?_ | refine AWq.ret ?_ | refine AWq.exit ?_ | refine AWq.loop ?_ | refine DrawA.consD ?_ | refine DrawA.nil ?_ | refine AWq.draw (by decide +kernel) ?_ | (refine Both.mk ?_ ?_ <;> intro hc <;> (first | exact Bool.noConfusion hc | exact absurd (by with_reducible rfl) hc | (exfalso; omega) | skip)) | (intro c hc; (try (simp only [AH.none_iff] at hc; repeat (have hn := hc.1; replace hc := hc.2))); (first | (refine i64_k hc ?_ ?_ ?_ ; omega; omega; (clear hc; intro hc; subst hc)) | skip)) | (apply Exists.intro; apply And.intro; (first | (focus (repeat (first | (with_reducible assumption) | (with_reducible exact AH.set_same _ _ _) | ((first | refine AH.get_ne ?_ ?_); (first | (with_reducible assumption) | exact Ne.symm (by with_reducible assumption))))); done))) | (apply Exists.intro; apply And.intro; first | (with_reducible assumption) | ((try simp only [List.getElem?_drop, Nat.mul_one, Nat.add_zero, Nat.zero_add]); first | (with_reducible assumption) | rfl)) | (apply And.intro; (first | rfl | (with_reducible assumption) | exact Nat.le_of_ble_eq_true rfl | omega | (simp <;> omega) | (focus (repeat' (first | (with_reducible assumption) | rfl | apply one_take | apply one_drop)); done))))) <;> (try (conv => whnf))
    exact ⟨A', ⟨hJ', hal.trans hal'⟩, hlt, trivial, HLe.of_eq (AH.set_set _ _ _ _).symm⟩
/-- The same, with constants. -/
theorem ACall.cold3 {P : Program} {g : FuncId} {args : List AV} {H : AH} {K : AV → Prop} (h : ACall P g args H fun y H' => ∃ r1 r2 r3 v1 v2 v3 l1 l2 l3 c e, H r1 = none ∧ H r2 = none ∧ H r3 = none ∧ r1 ≠ r2 ∧ r1 ≠ r3 ∧ r2 ≠ r3 ∧
      y = .tup [.agg [.sl r1 v1 1 0 l1.length none, .sl r2 v2 1 0 l2.length none, .sl r3 v3 1 0 l3.length none, .int .i64 c], .int .i64 e] ∧ H' = ((H.set r1 (.row (iS .i64 l1) v1)).set r2 (.row (iS .i64 l2) v2)).set r3 (.row (iS .i64 l3) v3) ∧
      K (.tup [.agg [.cs (iS .i64 l1) l1.length, .cs (iS .i64 l2) l2.length, .cs (iS .i64 l3) l3.length, .int .i64 c], .int .i64 e])) :
    ACall P g args H fun y H' => K y ∧ H' = H := by
  refine ⟨h.ent, fun κ F B w0 w cargs hI hA => (h.run κ F B w0 w cargs hI hA).mono ?_⟩
  rintro x w' ⟨v, he, y, H', κ', F', k1, k2, I, hv, r1, r2, r3, v1, v2, v3, l1, l2, l3, c, e, hr1, hr2, hr3, n12, n13, n23, rfl, rfl, hK⟩
  obtain ⟨F1, hF1, I1, ha1⟩ := I.coolAll (r := r3) (v := v3) (cells := iS .i64 l3) (AH.set_same _ _ _)
  rw [AH.del_set _ _ _ (by rw [AH.set_ne _ _ (Ne.symm n23), AH.set_ne _ _ (Ne.symm n13)]; exact hr3)] at I1
  obtain ⟨F2, hF2, I2, ha2⟩ := I1.coolAll (r := r2) (v := v2) (cells := iS .i64 l2) (AH.set_same _ _ _)
  rw [AH.del_set _ _ _ (by rw [AH.set_ne _ _ (Ne.symm n12)]; exact hr2)] at I2
  obtain ⟨F3, hF3, I3, ha3⟩ := I2.coolAll (r := r1) (v := v1) (cells := iS .i64 l1) (AH.set_same _ _ _)
  rw [AH.del_set _ _ _ hr1] at I3
  refine ⟨v, he, _, H, κ', F3, k1, ((k2.trans hF1).trans hF2).trans hF3, I3, ?_, hK, rfl⟩
  cases hv with
  | tup hsz hi =>
    refine .tup hsz fun i hi' => ?_
    match i, hi' with
    | 0, _ =>
      have h0 := hi 0 (by simp)
      simp only [List.getElem_cons_zero] at h0 ⊢
      generalize Array.getD _ _ _ = x0 at h0 ⊢
      cases h0 with
      | agg hA hj =>
        refine .agg hA fun j hj' => ?_
        match j, hj' with
        | 0, _ => exact ha3 _ _ _ _ _ (by simp) (hj 0 (by simp))
        | 1, _ => exact (ha2 _ _ _ _ _ (by simp) (hj 1 (by simp))).mono (KLe.refl _) hF3
        | 2, _ => exact ((ha1 _ _ _ _ _ (by simp) (hj 2 (by simp))).mono (KLe.refl _) hF2).mono (KLe.refl _) hF3
        | 3, _ => have := hj 3 (by simp); simp only [List.getElem_cons_succ, List.getElem_cons_zero] at this ⊢; generalize Array.getD _ _ _ = x3 at this ⊢; cases this; exact .int _ _
    | 1, _ => have := hi 1 (by simp); simp only [List.getElem_cons_succ, List.getElem_cons_zero] at this ⊢; generalize Array.getD _ _ _ = x3 at this ⊢; cases this; exact .int _ _
theorem solve_c (n : Nat) (es : List Ed) (fs : List Fx) (hv : validV n es fs = 0) (H : AH) :
    ACall Try.prog 14 [.int .i64 n, .cs (edL es) es.length, .cs (fxL fs) fs.length] H (fun y H' => ∃ A d o, Sv n es fs A d o ∧ y = solV n es fs A d o ∧ H' = H) := by
  refine (ACall.cold3 (K := fun y => ∃ A d o, Sv n es fs A d o ∧ y = solV n es fs A d o) ((solve_s n es fs hv H).mono ?_)).mono fun y H' ⟨⟨A, d, o, h1, h2⟩, h3⟩ => ⟨A, d, o, h1, h2, h3⟩
  rintro y H' ⟨A, d, o, r1, r2, r3, v1, v2, v3, hSv, h1, h2, h3, n12, n13, n23, rfl, rfl⟩
  have hl := hSv.alk.len
  have hl0 : (net0 n es fs).length = es.length + fs.length := by unfold net0; simp
  have f4 : (flE es A).length = es.length := by unfold flE; rw [List.length_map, List.length_take]; omega
  have f5 : (flF es A).length = fs.length := by unfold flF; rw [List.length_map, List.length_drop]; omega
  refine ⟨r1, r2, r3, v1, v2, v3, fnL n (offS n d o), flE es A, flF es A, (costR es fs (fnL n (offS n d o))).1, 0, h1, h2, h3, n12, n13, n23, ?_, rfl, A, d, o, hSv, ?_⟩
  · rw [fnL_len, f4, f5]
  · rw [fnL_len, f4, f5]; rfl
end Go.Proofs.Ytebflkgpbbjhnaa
/- The walk of balance: Check. -/
namespace Go.Proofs.Ytebflkgpbbjhnaa
open Go.Fw Go
set_option linter.unusedVariables false
set_option linter.unusedSimpArgs false

/-- What Check accepts. -/
structure ChkP (n : Nat) (es : List Ed) (fs : List Fx) (O E F : List Int) (c : Int) : Prop where
  l1 : O.length = n
  l2 : E.length = es.length
  l3 : F.length = fs.length
  al : allW (net0 n es fs) (E ++ F)
  co : costR es fs O = (c, 0)
  va : valF (net0 n es fs) (E ++ F) = c
  ne : ∀ v, v < n → netN (setFl (net0 n es fs) (E ++ F)) v = 0
theorem allW_snoc {A : List Ac} {L : List Int} {x : Ac} {f : Int} (hx : A[L.length]? = some x) (h : allW A L) (hf : inW x f) : allW A (L ++ [f]) := by
  intro i y hy hi
  rw [List.length_append] at hi
  simp at hi
  by_cases e : i = L.length
  · subst e
    rw [hx] at hy; cases hy
    simpa using hf
  · rw [List.getD_eq_getElem?_getD, List.getElem?_append_left (by omega), ← List.getD_eq_getElem?_getD]
    exact h i y hy (by omega)
theorem getD_app {L : List Int} {i : Nat} (h : i < L.length) : L.take (i + 1) = L.take i ++ [L.getD i 0] := by
  rw [List.take_add_one, List.getElem?_eq_getElem h, List.getD_eq_getElem?_getD, List.getElem?_eq_getElem h]; rfl
theorem setFl_ok {n : Nat} : ∀ {A : List Ac} {L : List Int}, (∀ x ∈ A, AcOk n x) → allW A L → ∀ x ∈ setFl A L, AcOk n x
  | [], L, h, _ => by simp [setFl]
  | x :: A, [], h, _ => h
  | x :: A, f :: L, h, hw => by
    intro y hy
    simp only [setFl, List.mem_cons] at hy
    rcases hy with rfl | hy
    · obtain ⟨xa, xb, d1, d2, w1, w2, f1, f2⟩ := h x (by simp)
      have h1 : inW x f := hw 0 x rfl (by simp)
      exact ⟨xa, xb, d1, d2, w1, w2, h1.1, h1.2⟩
    · refine setFl_ok (A := A) (L := L) (fun z hz => h z (by simp [hz])) (fun i z hz hi => ?_) y hy
      have := hw (i + 1) z (by simpa using hz) (by simpa using hi)
      simpa using this
set_option maxHeartbeats 4000000 in
set_option maxRecDepth 8000 in
theorem check_c (n : Nat) (es : List Ed) (fs : List Fx) (hv : validV n es fs = 0) (O E F : List Int) (c : Int) (hO : O.length ≤ 1000000) (hE' : E.length ≤ 1000000) (hF' : F.length ≤ 1000000) (e : Int) (he1 : ChkP n es fs O E F c → e = 0) (he2 : ¬ ChkP n es fs O E F c → e = 17) (H : AH) :
    ACall Try.prog 22 [.int .i64 n, .cs (edL es) es.length, .cs (fxL fs) fs.length, .agg [.cs (iS .i64 O) O.length, .cs (iS .i64 E) E.length, .cs (iS .i64 F) F.length, .int .i64 c]] H (fun y H' => y = .int .i64 e ∧ H' = H) := by
  obtain ⟨⟨_, hn64⟩, ⟨he, hf⟩, hE, hF⟩ := validV_ok hv
  have hv1 := fun H => valid_c n es fs (by omega) (by omega) H
  rw [hv] at hv1
  refine ACall.back ?_
  have hJ0 := net0_ok hE hF
  have hlen0 : (net0 n es fs).length = es.length + fs.length := by unfold net0; simp
  by_cases hl : O.length = n ∧ E.length = es.length ∧ F.length = fs.length
  · obtain ⟨l1, l2, l3⟩ := hl
    have hcc := fun H => concat_c E F (by omega) (by omega) H
    obtain ⟨L, hL⟩ : ∃ L, L = E ++ F := ⟨_, rfl⟩
    have hLl : L.length = es.length + fs.length := by rw [hL, List.length_append]; omega
    rw [← hL] at hcc
    have hil := iS_length .i64 L
    obtain ⟨R, hR⟩ : ∃ R, R = iS .i64 L := ⟨_, rfl⟩
    rw [← hR] at hcc hil
    refine ACall_of tt_ok (dok _) Try.func22 rfl (by decide) rfl ?_
    (repeat' ((conv => whnf); first | left | refine OpsA.cons ?_ | refine OpsA.nil ?_ | refine AWq.seq ?_ | refine AWq.region ?_ | refine AWq.cond ?_ | refine AWq.block ?_ | refine AWq.skip ?_ | refine AWq.ret ?_ | refine AWq.exit ?_ | refine AWq.loop ?_ | (refine Both.mk ?_ ?_ <;> intro hc <;> (first | exact Bool.noConfusion hc | exact absurd (by with_reducible rfl) hc | (exfalso; omega) | skip)) | (intro c hc; (try (simp only [AH.none_iff] at hc; repeat (have hn := hc.1; replace hc := hc.2))); (first | (refine i64_k hc ?_ ?_ ?_ ; omega; omega; (clear hc; intro hc; subst hc)) | skip)) | (apply Exists.intro; apply And.intro; (first | (focus (repeat (first | (with_reducible assumption) | (with_reducible exact AH.set_same _ _ _))); done))) | (apply Exists.intro; apply And.intro; first | (with_reducible assumption) | ((try simp only [List.getElem?_drop, Nat.mul_one, Nat.add_zero, Nat.zero_add]); first | (with_reducible assumption) | rfl)) | (apply And.intro; (first | rfl | (with_reducible assumption) | omega | (simp <;> omega))))) <;> (try (conv => whnf))
    (obtain ⟨c7, hq_⟩ : ∃ c7, c7 = c := ⟨_, rfl⟩); subst hq_
    have hc7 : H c7 = none := hc
    refine Then.mk ?_
    (repeat' ((conv => whnf); first | refine Then.mk ?_ | left | refine OpsA.cons ?_ | refine OpsA.nil ?_ | refine AWq.seq ?_ | refine AWq.region ?_ | refine AWq.cond ?_ | refine AWq.block ?_ | refine AWq.skip ?_ | refine AWq.ret ?_ | refine AWq.exit ?_ | refine AWq.loop ?_ | (refine Both.mk ?_ ?_ <;> intro hc <;> (first | exact Bool.noConfusion hc | exact absurd (by with_reducible rfl) hc | (exfalso; omega) | skip)) | (intro c hc; (try (simp only [AH.none_iff] at hc; repeat (have hn := hc.1; replace hc := hc.2))); (first | (refine i64_k hc ?_ ?_ ?_ ; omega; omega; (clear hc; intro hc; subst hc)) | skip)) | (apply Exists.intro; apply And.intro; (first | (focus (repeat (first | (with_reducible assumption) | (with_reducible exact AH.set_same _ _ _))); done))) | (apply Exists.intro; apply And.intro; first | (with_reducible assumption) | ((try simp only [List.getElem?_drop, Nat.mul_one, Nat.add_zero, Nat.zero_add]); first | (with_reducible assumption) | rfl)) | (apply And.intro; (first | rfl | (with_reducible assumption) | omega | (simp <;> omega))) | (refine ACall.to (hv1 _) ?_))) <;> (try (conv => whnf))
    refine (start_c n (by omega) es fs he hf hE hF _).mono ?_
    rintro y H' ⟨g, ra, hg, hra, hgra, rfl, rfl⟩
    obtain ⟨A0, hA0⟩ : ∃ A0, A0 = net0 n es fs := ⟨_, rfl⟩
    rw [← hA0] at hJ0 hlen0 ⊢
    obtain ⟨S, hS⟩ : ∃ S, S = stH (H.set c7 (.row [.cs (iS .i64 O) O.length, .cs (iS .i64 E) E.length, .cs (iS .i64 F) F.length, .int .i64 c] 0)) n g ra A0 := ⟨_, rfl⟩
    have hSra : S ra = some (.row (acL A0) A0.length) := by rw [hS]; unfold stH; rw [AH.set_ne _ _ (Ne.symm hgra), AH.set_same]
    have hSg : S g = some (.row [.int .i64 n, .sl ra A0.length 5 0 A0.length none] 0) := by rw [hS]; unfold stH; rw [AH.set_same]
    have ng7 := (AH.none_set hg).1
    have na7 := (AH.none_set hra).1
    have hSc : S c7 = some (.row [.cs (iS .i64 O) O.length, .cs (iS .i64 E) E.length, .cs (iS .i64 F) F.length, .int .i64 c] 0) := by rw [hS]; unfold stH; rw [AH.set_ne _ _ (Ne.symm ng7), AH.set_ne _ _ (Ne.symm na7), AH.set_same]
    have hHS : HLe H S := by
      rw [hS]; unfold stH
      exact HLe.set_of _ _ (HLe.set_of _ _ (HLe.fresh _ hc7) (AH.none_set hra).2) (AH.none_set hg).2
    have hHra : H ra = none := (AH.none_set hra).2
    (repeat' ((conv => whnf); first | left | refine OpsA.cons ?_ | refine OpsA.nil ?_ | refine AWq.seq ?_ | refine AWq.region ?_ | refine AWq.cond ?_ | refine AWq.block ?_ | refine AWq.skip ?_ | refine AWq.ret ?_ | refine AWq.exit ?_ | refine AWq.loop ?_ | (refine Both.mk ?_ ?_ <;> intro hc <;> (first | exact Bool.noConfusion hc | exact absurd (by with_reducible rfl) hc | (exfalso; omega) | skip)) | (intro c hc; (try (simp only [AH.none_iff] at hc; repeat (have hn := hc.1; replace hc := hc.2))); (first | (refine i64_k hc ?_ ?_ ?_ ; omega; omega; (clear hc; intro hc; subst hc)) | skip)) | (apply Exists.intro; apply And.intro; (first | (focus (repeat (first | (with_reducible assumption) | (with_reducible exact AH.set_same _ _ _))); done))) | (apply Exists.intro; apply And.intro; first | (with_reducible assumption) | ((try simp only [List.getElem?_drop, Nat.mul_one, Nat.add_zero, Nat.zero_add]); first | (with_reducible assumption) | rfl)) | (apply And.intro; (first | rfl | (with_reducible assumption) | omega | (simp <;> omega))))) <;> (try (conv => whnf))
    refine Then.mk (AWq.in ?_)
    refine AWp_less S (HLe.of_eq hS) ?_
    refine AWp.of tt_ok (dok _) rfl ?_
    (repeat' ((conv => whnf); first | refine Then.mk ?_ | left | refine OpsA.cons ?_ | refine OpsA.nil ?_ | refine AWq.seq ?_ | refine AWq.region ?_ | refine AWq.cond ?_ | refine AWq.block ?_ | refine AWq.skip ?_ | refine AWq.ret ?_ | refine AWq.exit ?_ | refine AWq.loop ?_ | (refine Both.mk ?_ ?_ <;> intro hc <;> (first | exact Bool.noConfusion hc | exact absurd (by with_reducible rfl) hc | (exfalso; omega) | skip)) | (intro c hc; (try (simp only [AH.none_iff] at hc; repeat (have hn := hc.1; replace hc := hc.2))); (first | (refine i64_k hc ?_ ?_ ?_ ; omega; omega; (clear hc; intro hc; subst hc)) | skip)) | (apply Exists.intro; apply And.intro; (first | (focus (repeat (first | (with_reducible assumption) | (with_reducible exact AH.set_same _ _ _))); done))) | (apply Exists.intro; apply And.intro; first | (with_reducible assumption) | ((try simp only [List.getElem?_drop, Nat.mul_one, Nat.add_zero, Nat.zero_add]); first | (with_reducible assumption) | rfl)) | (apply And.intro; (first | rfl | (with_reducible assumption) | omega | (simp <;> omega))) | (refine ACall.to (hcc _) ?_))) <;> (try (conv => whnf))
    refine AWp_loop (σ := Nat) (8 :: 11 :: 12 :: 13 :: 14 :: 56 :: 57 :: 58 :: 59 :: 60 :: 61 :: 62 :: 63 :: 64 :: 65 :: 66 :: 67 :: 68 :: 69 :: 70 :: 71 :: 72 :: 73 :: 74 :: 75 :: 76 :: 77 :: 78 :: 79 :: 80 :: 81 :: 82 :: 83 :: 84 :: 85 :: 86 :: 87 :: []) (fun i => [(56, .int .i64 i), (11, .int .i64 (valF A0 (L.take i)))]) (fun i => S.set ra (.row (acL (setFl A0 (L.take i))) A0.length)) (fun i => i ≤ L.length ∧ allW A0 (L.take i)) (fun i => L.length - i) 0 rfl ⟨Nat.zero_le _, fun j x _ hj => by simp at hj⟩ ⟨rfl, congrArg (AV.int .i64) (by cases A0 <;> rfl), trivial⟩ (HLe.of_eq (by rw [List.take_zero, setFl_nil]; exact AH.set_id hSra)) ?_
    rintro i ⟨hi, hall⟩
    refine AWp.of tt_ok (dok _) rfl ?_
    dsimp only at hi ⊢
    have hA0s : ∀ x ∈ A0, (-65535 ≤ x.d ∧ x.d ≤ 65535) ∧ x.w ≤ 65536 := fun x hx => by
      obtain ⟨xa, xb, d1, d2, w1, w2, f1, f2⟩ := hJ0.ok x hx
      exact ⟨⟨d1, d2⟩, w2⟩
    have hvb := valF_bd A0 (L.take i) hA0s hall
    have htl : ((L.take i).length : Int) ≤ 16384 := by rw [List.length_take]; omega
    by_cases hil2 : i < L.length
    · obtain ⟨x, hx⟩ : ∃ x, A0[i]? = some x := ⟨_, List.getElem?_eq_getElem (by omega)⟩
      obtain ⟨xa, xb, d1, d2, w1, w2, f1, f2⟩ := hJ0.ok x (List.mem_of_getElem? hx)
      have htli : (L.take i).length = i := by rw [List.length_take]; omega
      have hx2 : (setFl A0 (L.take i))[i]? = some x := by rw [setFl_get _ _ _ (by omega)]; exact hx
      have gf : R[(i : Int).toNat]? = some (.int .i64 (L.getD i 0)) := by rw [hR]; exact iS_get hil2
      have htk := getD_app hil2
      have hsn := setFl_snoc A0 (L.take i) x (L.getD i 0) (by rw [htli]; exact hx)
      have hvn := valF_snoc A0 (L.take i) x (L.getD i 0) (by rw [htli]; exact hx)
      have hwn : inW x (L.getD i 0) → allW A0 (L.take i ++ [L.getD i 0]) := allW_snoc (by rw [htli]; exact hx) hall
      rw [htli] at hsn
      rw [← htk] at hsn hvn hwn
      have hg0 : (S.set ra (.row (acL (setFl A0 (L.take i))) A0.length)) g = some (.row [.int .i64 n, .sl ra A0.length 5 0 A0.length none] 0) := by rw [AH.set_ne _ _ hgra]; exact hSg
      have hcl := acL_len (setFl A0 (L.take i))
      rw [setFl_len] at hcl
      have hsl := setFl_len A0 (L.take i)
      have gw : (acL (setFl A0 (L.take i)))[(i : Int).toNat * 5 + 3]? = some (.int .i64 x.w) := acL_get hx2 3 (by decide)
      have gd : (wrA (acL (setFl A0 (L.take i))) (0 + (i : Int).toNat * 5 + 4) [.int .i64 (L.getD i 0)])[(i : Int).toNat * 5 + 2]? = some (.int .i64 x.d) := by
        rw [acL_wrZ hx2]
        exact acL_get (i := i) (x := ⟨x.a, x.b, x.d, x.w, L.getD i 0⟩) (List.getElem?_set_self (by rw [setFl_len]; omega)) 2 (by decide)
      have hst : acL (setFl A0 (L.take (i + 1))) = wrA (acL (setFl A0 (L.take i))) (0 + (i : Int).toNat * 5 + 4) [.int .i64 (L.getD i 0)] := by rw [acL_wrZ hx2, hsn]
      have hno : ¬ inW x (L.getD i 0) → ¬ ChkP n es fs O E F c := fun h k => h (by
        have := k.al i x (by rw [← hA0]; exact hx) (by rw [← hL]; exact hil2)
        rw [hL]; exact this)
      generalize L.getD i 0 = f at *
      generalize setFl A0 (L.take i) = A1 at *
      generalize valF A0 (L.take i) = vv at *
      by_cases hin : -x.w ≤ f ∧ f ≤ x.w
      · have key : -4294967296 ≤ f * x.d ∧ f * x.d ≤ 4294967296 := by
          have a1 : (65536 - f) * (65535 - x.d) ≥ 0 := Int.mul_nonneg (by omega) (by omega)
          have a2 : (65536 + f) * (65535 + x.d) ≥ 0 := Int.mul_nonneg (by omega) (by omega)
          have a3 : (65536 - f) * (65535 + x.d) ≥ 0 := Int.mul_nonneg (by omega) (by omega)
          have a4 : (65536 + f) * (65535 - x.d) ≥ 0 := Int.mul_nonneg (by omega) (by omega)
          simp only [Int.sub_mul, Int.add_mul, Int.mul_sub, Int.mul_add] at a1 a2 a3 a4
          omega
        have hwi := fun H => within1_c x.w (by omega) f true (decide_eq_true hin) H
        (iterate 4 ((repeat' ((conv => whnf); first | left | refine OpsA.cons ?_ | refine OpsA.nil ?_ | refine AWq.seq ?_ | refine AWq.region ?_ | refine AWq.cond ?_ | refine AWq.block ?_ | refine AWq.skip ?_ | refine AWq.ret ?_ | refine AWq.exit ?_ | refine AWq.loop ?_ | (refine Both.mk ?_ ?_ <;> intro hc <;> (first | exact Bool.noConfusion hc | exact absurd (by with_reducible rfl) hc | (exfalso; omega) | skip)) | (intro c hc; (try (simp only [AH.none_iff] at hc; repeat (have hn := hc.1; replace hc := hc.2))); (first | (refine i64_k hc ?_ ?_ ?_ ; omega; omega; (clear hc; intro hc; subst hc)) | skip)) | (apply Exists.intro; apply And.intro; (first | (focus (repeat (first | (with_reducible assumption) | (with_reducible exact AH.set_same _ _ _))); done))) | (apply Exists.intro; apply And.intro; first | (with_reducible assumption) | ((try simp only [List.getElem?_drop, Nat.mul_one, Nat.add_zero, Nat.zero_add]); first | (with_reducible assumption) | rfl)) | (apply And.intro; (first | rfl | (with_reducible assumption) | omega | (simp <;> omega))))) <;> (try (conv => whnf)); refine Then.mk ?_))
        (repeat' ((conv => whnf); first | left | refine OpsA.cons ?_ | refine OpsA.nil ?_ | refine AWq.seq ?_ | refine AWq.region ?_ | refine AWq.cond ?_ | refine AWq.block ?_ | refine AWq.skip ?_ | refine AWq.ret ?_ | refine AWq.exit ?_ | refine AWq.loop ?_ | (refine Both.mk ?_ ?_ <;> intro hc <;> (first | exact Bool.noConfusion hc | exact absurd (by with_reducible rfl) hc | (exfalso; omega) | skip)) | (intro c hc; (try (simp only [AH.none_iff] at hc; repeat (have hn := hc.1; replace hc := hc.2))); (first | (refine i64_k hc ?_ ?_ ?_ ; omega; omega; (clear hc; intro hc; subst hc)) | skip)) | (apply Exists.intro; apply And.intro; (first | (focus (repeat (first | (with_reducible assumption) | (with_reducible exact AH.set_same _ _ _))); done))) | (apply Exists.intro; apply And.intro; first | (with_reducible assumption) | ((try simp only [List.getElem?_drop, Nat.mul_one, Nat.add_zero, Nat.zero_add]); first | (with_reducible assumption) | rfl)) | (apply And.intro; (first | rfl | (with_reducible assumption) | omega | (simp <;> omega))) | (refine ACall.to (hwi _) ?_))) <;> (try (conv => whnf))
        refine Then.mk ?_
        (iterate 1 ((repeat' ((conv => whnf); first | left | refine OpsA.cons ?_ | refine OpsA.nil ?_ | refine AWq.seq ?_ | refine AWq.region ?_ | refine AWq.cond ?_ | refine AWq.block ?_ | refine AWq.skip ?_ | refine AWq.ret ?_ | refine AWq.exit ?_ | refine AWq.loop ?_ | (refine Both.mk ?_ ?_ <;> intro hc <;> (first | exact Bool.noConfusion hc | exact absurd (by with_reducible rfl) hc | (exfalso; omega) | skip)) | (intro c hc; (try (simp only [AH.none_iff] at hc; repeat (have hn := hc.1; replace hc := hc.2))); (first | (refine i64_k hc ?_ ?_ ?_ ; omega; omega; (clear hc; intro hc; subst hc)) | skip)) | (apply Exists.intro; apply And.intro; (first | (focus (repeat (first | (with_reducible assumption) | (with_reducible exact AH.set_same _ _ _))); done))) | (apply Exists.intro; apply And.intro; first | (with_reducible assumption) | ((try simp only [List.getElem?_drop, Nat.mul_one, Nat.add_zero, Nat.zero_add]); first | (with_reducible assumption) | rfl)) | (apply And.intro; (first | rfl | (with_reducible assumption) | omega | (simp <;> omega))))) <;> (try (conv => whnf)); refine Then.mk ?_))
        (repeat' ((conv => whnf); first | left | refine OpsA.cons ?_ | refine OpsA.nil ?_ | refine AWq.seq ?_ | refine AWq.region ?_ | refine AWq.cond ?_ | refine AWq.block ?_ | refine AWq.skip ?_ | refine AWq.ret ?_ | refine AWq.exit ?_ | refine AWq.loop ?_ | (refine Both.mk ?_ ?_ <;> intro hc <;> (first | exact Bool.noConfusion hc | exact absurd (by with_reducible rfl) hc | (exfalso; omega) | skip)) | (intro c hc; (try (simp only [AH.none_iff] at hc; repeat (have hn := hc.1; replace hc := hc.2))); (first | (refine i64_k hc ?_ ?_ ?_ ; omega; omega; (clear hc; intro hc; subst hc)) | skip)) | (apply Exists.intro; apply And.intro; (first | (focus (repeat (first | (with_reducible assumption) | (with_reducible exact AH.set_same _ _ _))); done))) | (apply Exists.intro; apply And.intro; first | (with_reducible assumption) | ((try simp only [List.getElem?_drop, Nat.mul_one, Nat.add_zero, Nat.zero_add]); first | (with_reducible assumption) | rfl)) | (apply And.intro; (first | rfl | (with_reducible assumption) | omega | (simp <;> omega))))) <;> (try (conv => whnf))
        refine Then.mk (AWq.in ?_)
        have hA2l : (acL (setFl A0 (L.take (i + 1)))).length = A0.length * 5 := by rw [acL_len, setFl_len]
        rw [← hst] at gd
        refine AWp_less (S.set ra (.row (acL (setFl A0 (L.take (i + 1)))) A0.length)) (HLe.of_eq (by rw [hst]; exact (AH.set_set _ _ _ _).symm)) ?_
        refine AWp.of tt_ok (dok _) rfl ?_
        generalize hA2 : acL (setFl A0 (L.take (i + 1))) = R2 at *
        (repeat' ((conv => whnf); first | refine Then.mk ?_ | left | refine OpsA.cons ?_ | refine OpsA.nil ?_ | refine AWq.seq ?_ | refine AWq.region ?_ | refine AWq.cond ?_ | refine AWq.block ?_ | refine AWq.skip ?_ | refine AWq.ret ?_ | refine AWq.exit ?_ | refine AWq.loop ?_ | (refine Both.mk ?_ ?_ <;> intro hc <;> (first | exact Bool.noConfusion hc | exact absurd (by with_reducible rfl) hc | (exfalso; omega) | skip)) | (intro c hc; (try (simp only [AH.none_iff] at hc; repeat (have hn := hc.1; replace hc := hc.2))); (first | (refine i64_k hc ?_ ?_ ?_ ; omega; omega; (clear hc; intro hc; subst hc)) | skip)) | (apply Exists.intro; apply And.intro; (first | (focus (repeat (first | (with_reducible assumption) | (with_reducible exact AH.set_same _ _ _))); done))) | (apply Exists.intro; apply And.intro; first | (with_reducible assumption) | ((try simp only [List.getElem?_drop, Nat.mul_one, Nat.add_zero, Nat.zero_add]); first | (with_reducible assumption) | rfl)) | (apply And.intro; (first | rfl | (with_reducible assumption) | omega | (simp <;> omega))))) <;> (try (conv => whnf))
        refine ⟨i + 1, ⟨hil2, hwn hin⟩, by omega, ⟨congrArg (AV.int .i64) (by omega), congrArg (AV.int .i64) (by rw [hvn]), trivial⟩, HLe.of_eq ?_⟩
        rw [hA2]
      · have hwi := fun H => within1_c x.w (by omega) f false (decide_eq_false hin) H
        have hen := he2 (hno hin)
        subst hen
        (repeat' ((conv => whnf); first | refine Then.mk ?_ | left | refine OpsA.cons ?_ | refine OpsA.nil ?_ | refine AWq.seq ?_ | refine AWq.region ?_ | refine AWq.cond ?_ | refine AWq.block ?_ | refine AWq.skip ?_ | refine AWq.ret ?_ | refine AWq.exit ?_ | refine AWq.loop ?_ | (refine Both.mk ?_ ?_ <;> intro hc <;> (first | exact Bool.noConfusion hc | exact absurd (by with_reducible rfl) hc | (exfalso; omega) | skip)) | (intro c hc; (try (simp only [AH.none_iff] at hc; repeat (have hn := hc.1; replace hc := hc.2))); (first | (refine i64_k hc ?_ ?_ ?_ ; omega; omega; (clear hc; intro hc; subst hc)) | skip)) | (apply Exists.intro; apply And.intro; (first | (focus (repeat (first | (with_reducible assumption) | (with_reducible exact AH.set_same _ _ _))); done))) | (apply Exists.intro; apply And.intro; first | (with_reducible assumption) | ((try simp only [List.getElem?_drop, Nat.mul_one, Nat.add_zero, Nat.zero_add]); first | (with_reducible assumption) | rfl)) | (apply And.intro; (first | rfl | (with_reducible assumption) | omega | (simp <;> omega))) | (refine ACall.to (hwi _) ?_))) <;> (try (conv => whnf))
        exact HLe.set_of _ _ hHS hHra
    · have hie : i = L.length := by omega
      rw [hie, List.take_of_length_le (Nat.le_refl _)] at hall
      have hte : L.take i = L := List.take_of_length_le (by omega)
      rw [hte] at hvb ⊢
      obtain ⟨A, hA⟩ : ∃ A, A = setFl A0 L := ⟨_, rfl⟩
      have hAok : ∀ x ∈ A, AcOk n x := by rw [hA]; exact setFl_ok hJ0.ok hall
      have hAl : A.length = A0.length := by rw [hA, setFl_len]
      rw [← hA]
      obtain ⟨vv, hvv⟩ : ∃ vv, vv = valF A0 L := ⟨_, rfl⟩
      rw [← hvv] at hvb ⊢
      have hk7 : (S.set ra (.row (acL A) A0.length)) c7 = some (.row [.cs (iS .i64 O) O.length, .cs (iS .i64 E) E.length, .cs (iS .i64 F) F.length, .int .i64 c] 0) := by rw [AH.set_ne _ _ (Ne.symm na7)]; exact hSc
      have hNet : NetAt (S.set ra (.row (acL A) A0.length)) n A g 0 ra A0.length none := ⟨by rw [AH.set_ne _ _ hgra, hAl]; exact hSg, AH.set_same _ _ _, hgra⟩
      have hnet := net_c n (by omega) A hAok (by omega) _ g 0 ra A0.length none hNet
      have hHG : HLe H (S.set ra (.row (acL A) A0.length)) := HLe.set_of _ _ hHS hHra
      obtain ⟨G, hG⟩ : ∃ G, G = S.set ra (.row (acL A) A0.length) := ⟨_, rfl⟩
      rw [← hG] at hk7 hnet hHG ⊢
      have hcost := fun H => cost_c es fs O (by omega) (by omega) (by omega) H
      have hcon := fun H => contains0_c (fun x => decide (x ≠ 0)) 48 (fnL n (netN A)) (by simp; omega) H (fun x _ => chk1_c x H)
      have htn : dL n (netN A) = List.take ((n : Int).toNat * 1) (dL (n + 1) (netN A)) := by
        rw [Int.toNat_natCast, Nat.mul_one]
        unfold dL iS
        rw [← List.map_take]
        congr 1
        unfold fnL
        rw [← List.map_take, List.take_range]
        congr 2; omega
      rw [fnL_len] at hcon
      have hcon : ∀ H, ACall Try.prog 47 [.cs (List.take ((n : Int).toNat * 1) (dL (n + 1) (netN A))) (n : Int).toNat, .fn (.func 48) [] []] H (fun y H' => y = .bool ((fnL n (netN A)).any fun x => decide (x ≠ 0)) ∧ H' = H) := fun H => by
        rw [← htn]; exact hcon H
      have hdl := dL_len (n + 1) (netN A)
      have hany : ((fnL n (netN A)).any fun x => decide (x ≠ 0)) = false ↔ ∀ v, v < n → netN A v = 0 := by
        rw [List.any_eq_false]
        constructor
        · intro h v hv
          have := h (netN A v) (List.mem_map.2 ⟨v, by simpa using hv, rfl⟩)
          simpa using this
        · intro h x hx
          obtain ⟨v, hv, rfl⟩ := List.mem_map.1 hx
          simpa using h v (by simpa using hv)
      have hP : ChkP n es fs O E F c ↔ (costR es fs O).2 = 0 ∧ (costR es fs O).1 = c ∧ vv = c ∧ ((fnL n (netN A)).any fun x => decide (x ≠ 0)) = false := by
        rw [hany]
        constructor
        · intro k
          refine ⟨by rw [k.co], by rw [k.co], ?_, ?_⟩
          · rw [hvv, hL, hA0]; exact k.va
          · rw [hA, hL, hA0]; exact k.ne
        · rintro ⟨k1, k2, k3, k4⟩
          refine ⟨l1, l2, l3, ?_, Prod.ext k2 k1, ?_, ?_⟩
          · rw [← hL, ← hA0]; exact hall
          · rw [← hL, ← hA0, ← hvv]; exact k3
          · rw [← hL, ← hA0, ← hA]; exact k4
      generalize ((fnL n (netN A)).any fun x => decide (x ≠ 0)) = bb at *
      generalize costR es fs O = cr at *
      obtain ⟨cr1, cr2⟩ := cr
      dsimp only at hP hcost
      by_cases hgood : cr2 = 0 ∧ cr1 = c ∧ vv = c ∧ bb = false
      · have hen := he1 (hP.2 hgood)
        obtain ⟨rfl, rfl, rfl, rfl⟩ := hgood
        subst hen
        (repeat' ((conv => whnf); first | refine Then.mk ?_ | left | refine OpsA.cons ?_ | refine OpsA.nil ?_ | refine AWq.seq ?_ | refine AWq.region ?_ | refine AWq.cond ?_ | refine AWq.block ?_ | refine AWq.skip ?_ | refine AWq.ret ?_ | refine AWq.exit ?_ | refine AWq.loop ?_ | (refine Both.mk ?_ ?_ <;> intro hc <;> (first | exact Bool.noConfusion hc | exact absurd (by with_reducible rfl) hc | (exfalso; omega) | skip)) | (intro c hc; (try (simp only [AH.none_iff] at hc; repeat (have hn := hc.1; replace hc := hc.2))); (first | (refine i64_k hc ?_ ?_ ?_ ; omega; omega; (clear hc; intro hc; subst hc)) | skip)) | (apply Exists.intro; apply And.intro; (first | (focus (repeat (first | (with_reducible assumption) | (with_reducible exact AH.set_same _ _ _))); done))) | (apply Exists.intro; apply And.intro; first | (with_reducible assumption) | ((try simp only [List.getElem?_drop, Nat.mul_one, Nat.add_zero, Nat.zero_add]); first | (with_reducible assumption) | rfl)) | (apply And.intro; (first | rfl | (with_reducible assumption) | omega | (simp <;> omega))) | (refine ACall.to (hcost _) ?_) | (refine ACall.to (hnet) ?_) | (refine ACall.to (hcon _) ?_))) <;> (try (conv => whnf))
        all_goals exact hHG
      · have hen := he2 (fun k => hgood (hP.1 k))
        subst hen
        cases bb with
        | true =>
          (repeat' ((conv => whnf); first | refine Then.mk ?_ | left | refine OpsA.cons ?_ | refine OpsA.nil ?_ | refine AWq.seq ?_ | refine AWq.region ?_ | refine AWq.cond ?_ | refine AWq.block ?_ | refine AWq.skip ?_ | refine AWq.ret ?_ | refine AWq.exit ?_ | refine AWq.loop ?_ | (refine Both.mk ?_ ?_ <;> intro hc <;> (first | exact Bool.noConfusion hc | exact absurd (by with_reducible rfl) hc | (exfalso; omega) | skip)) | (intro c hc; (try (simp only [AH.none_iff] at hc; repeat (have hn := hc.1; replace hc := hc.2))); (first | (refine i64_k hc ?_ ?_ ?_ ; omega; omega; (clear hc; intro hc; subst hc)) | skip)) | (apply Exists.intro; apply And.intro; (first | (focus (repeat (first | (with_reducible assumption) | (with_reducible exact AH.set_same _ _ _))); done))) | (apply Exists.intro; apply And.intro; first | (with_reducible assumption) | ((try simp only [List.getElem?_drop, Nat.mul_one, Nat.add_zero, Nat.zero_add]); first | (with_reducible assumption) | rfl)) | (apply And.intro; (first | rfl | (with_reducible assumption) | omega | (simp <;> omega))) | (refine ACall.to (hcost _) ?_) | (refine ACall.to (hnet) ?_) | (refine ACall.to (hcon _) ?_))) <;> (try (conv => whnf))
          all_goals exact hHG
        | false =>
          have hg2 : ¬ (cr2 = 0 ∧ cr1 = c ∧ vv = c) := fun k => hgood ⟨k.1, k.2.1, k.2.2, rfl⟩
          (repeat' ((conv => whnf); first | refine Then.mk ?_ | left | refine OpsA.cons ?_ | refine OpsA.nil ?_ | refine AWq.seq ?_ | refine AWq.region ?_ | refine AWq.cond ?_ | refine AWq.block ?_ | refine AWq.skip ?_ | refine AWq.ret ?_ | refine AWq.exit ?_ | refine AWq.loop ?_ | (refine Both.mk ?_ ?_ <;> intro hc <;> (first | exact Bool.noConfusion hc | exact absurd (by with_reducible rfl) hc | (exfalso; omega) | skip)) | (intro c hc; (try (simp only [AH.none_iff] at hc; repeat (have hn := hc.1; replace hc := hc.2))); (first | (refine i64_k hc ?_ ?_ ?_ ; omega; omega; (clear hc; intro hc; subst hc)) | skip)) | (apply Exists.intro; apply And.intro; (first | (focus (repeat (first | (with_reducible assumption) | (with_reducible exact AH.set_same _ _ _))); done))) | (apply Exists.intro; apply And.intro; first | (with_reducible assumption) | ((try simp only [List.getElem?_drop, Nat.mul_one, Nat.add_zero, Nat.zero_add]); first | (with_reducible assumption) | rfl)) | (apply And.intro; (first | rfl | (with_reducible assumption) | omega | (simp <;> omega))) | (refine ACall.to (hcost _) ?_) | (refine ACall.to (hnet) ?_) | (refine ACall.to (hcon _) ?_))) <;> (try (conv => whnf))
          all_goals exact hHG
  · have hen := he2 (fun k => hl ⟨k.l1, k.l2, k.l3⟩)
    subst hen
    refine ACall_of tt_ok (dok _) Try.func22 rfl (by decide) rfl ?_
    (repeat' ((conv => whnf); first | refine Then.mk ?_ | left | refine OpsA.cons ?_ | refine OpsA.nil ?_ | refine AWq.seq ?_ | refine AWq.region ?_ | refine AWq.cond ?_ | refine AWq.block ?_ | refine AWq.skip ?_ | refine AWq.ret ?_ | refine AWq.exit ?_ | refine AWq.loop ?_ | (refine Both.mk ?_ ?_ <;> intro hc <;> (first | exact Bool.noConfusion hc | exact absurd (by with_reducible rfl) hc | (exfalso; omega) | skip)) | (intro c hc; (try (simp only [AH.none_iff] at hc; repeat (have hn := hc.1; replace hc := hc.2))); (first | (refine i64_k hc ?_ ?_ ?_ ; omega; omega; (clear hc; intro hc; subst hc)) | skip)) | (apply Exists.intro; apply And.intro; (first | (focus (repeat (first | (with_reducible assumption) | (with_reducible exact AH.set_same _ _ _))); done))) | (apply Exists.intro; apply And.intro; first | (with_reducible assumption) | ((try simp only [List.getElem?_drop, Nat.mul_one, Nat.add_zero, Nat.zero_add]); first | (with_reducible assumption) | rfl)) | (apply And.intro; (first | rfl | (with_reducible assumption) | omega | (simp <;> omega))) | (refine ACall.to (hv1 _) ?_))) <;> (try (conv => whnf))
    all_goals exact HLe.fresh _ (by assumption)
end Go.Proofs.Ytebflkgpbbjhnaa
/- The plain law of balance: Solve's answer is the best one. -/
namespace Go.Proofs.Ytebflkgpbbjhnaa
open Go.Fw Go
set_option linter.unusedVariables false
set_option linter.unusedSimpArgs false

theorem Alk.cons {x : Ac} {A B : List Ac} (h : Alk (x :: A) B) : ∃ g B', B = addF x g :: B' ∧ Alk A B' := by
  obtain ⟨g, hg⟩ := (h 0).1 x rfl
  cases B with
  | nil => simp at hg
  | cons y B =>
    simp at hg
    subst hg
    refine ⟨g, B, rfl, fun i => ⟨fun z hz => ?_, fun hn => ?_⟩⟩
    · have := (h (i + 1)).1 z (by simpa using hz)
      simpa using this
    · have := (h (i + 1)).2 (by simpa using hn)
      simpa using this
theorem Alk.sum {g : Ac → Int} (hg : ∀ x z, g (addF x z) = g x) : ∀ {A B : List Ac}, Alk A B → (B.map g).sum = (A.map g).sum
  | [], B, h => by
    have := h.len
    have : B = [] := List.eq_nil_of_length_eq_zero (by simpa using this)
    rw [this]
  | x :: A, B, h => by
    obtain ⟨z, B', rfl, h'⟩ := h.cons
    rw [List.map_cons, List.sum_cons, List.map_cons, List.sum_cons, hg, Alk.sum hg h']
/-- Offsets with 0 for the further node. -/
def nul (n : Nat) (q : Nat → Int) : Nat → Int := fun v => if v = n then 0 else q v
theorem cost_net {n : Nat} {es : List Ed} {fs : List Fx} (hE : ∀ x ∈ es, vE n x) (hF : ∀ x ∈ fs, vF n x) (q : Nat → Int) : costA (nul n q) (net0 n es fs) = costP es fs q := by
  unfold costA costP net0
  rw [List.map_append, List.sum_append, List.map_map, List.map_map]
  congr 1
  · refine congrArg List.sum (List.map_congr_left fun x hx => ?_)
    obtain ⟨v1, v2, v3, v4, v5⟩ := hE x hx
    show x.w * absI (nul n q x.a.toNat - nul n q x.b.toNat - x.d) = costE q x
    unfold nul costE
    rw [if_neg (by omega), if_neg (by omega)]
  · refine congrArg List.sum (List.map_congr_left fun x hx => ?_)
    obtain ⟨v1, v4, v5⟩ := hF x hx
    show x.w * absI (nul n q x.a.toNat - nul n q n - x.v) = costF q x
    unfold nul costF
    rw [if_neg (by omega), if_pos rfl, Int.sub_zero]
theorem cost_alk {n : Nat} {es : List Ed} {fs : List Fx} (hE : ∀ x ∈ es, vE n x) (hF : ∀ x ∈ fs, vF n x) {A : List Ac} (h : Alk (net0 n es fs) A) (q : Nat → Int) : costA (nul n q) A = costP es fs q := by
  rw [← cost_net hE hF]
  exact h.sum fun x z => rfl

theorem Sv.bs {n : Nat} {es : List Ed} {fs : List Fx} {A : List Ac} {d o : Nat → Int} (h : Sv n es fs A d o) {v : Nat} (hv : v ≤ n) : 0 ≤ bsN n o v ∧ bsN n o v ≤ n := by
  have h1 := h.bi.lo v hv
  have h2 := h.bi.up v hv
  unfold bsN; split <;> omega
theorem Sv.at {n : Nat} {es : List Ed} {fs : List Fx} {A : List Ac} {d o : Nat → Int} (h : Sv n es fs A d o) {v : Nat} (hv : v < n) : ofL (fnL n (offS n d o)) v = d v - d (bsN n o v).toNat := by
  unfold ofL
  rw [List.getD_eq_getElem?_getD, fnL_get _ hv]; rfl
theorem Sv.off {n : Nat} {es : List Ed} {fs : List Fx} {A : List Ac} {d o : Nat → Int} (h : Sv n es fs A d o) {x : Ac} (hx : x ∈ A) : off (nul n (ofL (fnL n (offS n d o)))) x = off d x := by
  obtain ⟨xa, xb, _, _, _, _, _, _⟩ := h.ok x hx
  have key : ∀ v, v ≤ n → nul n (ofL (fnL n (offS n d o))) v = d v - d (bsN n o v).toNat := fun v hv => by
    unfold nul
    by_cases e : v = n
    · rw [if_pos e, e]
      have : bsN n o n = n := by unfold bsN; rw [h.bi.last]; rfl
      rw [this, Int.toNat_natCast]; omega
    · rw [if_neg e]; exact h.at (by omega)
  have hb : bsN n o x.a = bsN n o x.b := by unfold bsN; rw [h.eq x hx]
  unfold Proofs.Ytebflkgpbbjhnaa.off
  rw [key _ xa, key _ xb, hb]; omega
theorem Sv.bd {n : Nat} {es : List Ed} {fs : List Fx} {A : List Ac} {d o : Nat → Int} (h : Sv n es fs A d o) {v : Nat} (hn : n ≤ 64) (hv : v < n) : -4259840 ≤ ofL (fnL n (offS n d o)) v ∧ ofL (fnL n (offS n d o)) v ≤ 4259840 := by
  rw [h.at hv]
  obtain ⟨b1, b2⟩ := h.bs (v := v) (by omega)
  have l1 := h.lo v (by omega)
  have u1 := h.up v (by omega)
  have l2 := h.lo (bsN n o v).toNat (by omega)
  have u2 := h.up (bsN n o v).toNat (by omega)
  omega
theorem Sv.range {n : Nat} {es : List Ed} {fs : List Fx} {A : List Ac} {d o : Nat → Int} (h : Sv n es fs A d o) (hn : n ≤ 64) : ∀ x ∈ fnL n (offS n d o), -1073741824 ≤ x ∧ x ≤ 1073741824 := by
  intro x hx
  obtain ⟨v, hv, rfl⟩ := List.mem_map.1 hx
  have hv : v < n := by simpa using hv
  have h1 := h.bd hn hv
  have h2 := h.at hv
  have : offS n d o v = d v - d (bsN n o v).toNat := rfl
  omega
/-- Its cost is what its flows are worth. -/
theorem Sv.cost {n : Nat} {es : List Ed} {fs : List Fx} {A : List Ac} {d o : Nat → Int} (h : Sv n es fs A d o) (hE : ∀ x ∈ es, vE n x) (hF : ∀ x ∈ fs, vF n x) : costP es fs (ofL (fnL n (offS n d o))) = valA A := by
  rw [← cost_alk hE hF h.alk, equal h.ok (o := d) (fun v hv => by rw [h.net v hv, Int.mul_zero]) h.fe]
  unfold costA
  exact congrArg List.sum (List.map_congr_left fun x hx => by rw [h.off hx])
/-- No other offsets cost less. -/
theorem Sv.min {n : Nat} {es : List Ed} {fs : List Fx} {A : List Ac} {d o : Nat → Int} (h : Sv n es fs A d o) (hE : ∀ x ∈ es, vE n x) (hF : ∀ x ∈ fs, vF n x) (q : Nat → Int) : costP es fs (ofL (fnL n (offS n d o))) ≤ costP es fs q := by
  rw [h.cost hE hF, ← cost_alk hE hF h.alk]
  exact weak h.ok fun v hv => by rw [h.net v hv, Int.mul_zero]
theorem Sv.costR {n : Nat} {es : List Ed} {fs : List Fx} {A : List Ac} {d o : Nat → Int} (h : Sv n es fs A d o) (hE : ∀ x ∈ es, vE n x) (hF : ∀ x ∈ fs, vF n x) (hv : validV n es fs = 0) : Proofs.Ytebflkgpbbjhnaa.costR es fs (fnL n (offS n d o)) = (costP es fs (ofL (fnL n (offS n d o))), 0) := by
  obtain ⟨⟨_, hn⟩, _, _, _⟩ := validV_ok hv
  unfold Proofs.Ytebflkgpbbjhnaa.costR
  rw [fnL_len, hv, if_neg (by simp), if_pos (h.range (by omega))]
theorem Sv.flows {n : Nat} {es : List Ed} {fs : List Fx} {A : List Ac} {d o : Nat → Int} (h : Sv n es fs A d o) (hE : ∀ x ∈ es, vE n x) (hF : ∀ x ∈ fs, vF n x) : setFl (net0 n es fs) (flE es A ++ flF es A) = A ∧ allW (net0 n es fs) (flE es A ++ flF es A) ∧ valF (net0 n es fs) (flE es A ++ flF es A) = valA A ∧ (flE es A).length = es.length ∧ (flF es A).length = fs.length := by
  have hl := h.alk.len
  have hl0 : (net0 n es fs).length = es.length + fs.length := by unfold net0; simp
  have hEF : flE es A ++ flF es A = A.map (·.f) := by
    unfold flE flF; rw [← List.map_append, List.take_append_drop]
  rw [hEF]
  have gen : ∀ {A0 A : List Ac}, Alk A0 A → (∀ x ∈ A, -x.w ≤ x.f ∧ x.f ≤ x.w) → setFl A0 (A.map (·.f)) = A ∧ allW A0 (A.map (·.f)) ∧ valF A0 (A.map (·.f)) = valA A := by
    intro A0
    induction A0 with
    | nil =>
      intro A hal _
      have : A = [] := List.eq_nil_of_length_eq_zero (by simpa using hal.len)
      subst this
      exact ⟨rfl, fun i x hx => by simp at hx, rfl⟩
    | cons x A0 ih =>
      intro A hal hw
      obtain ⟨z, B, rfl, h'⟩ := hal.cons
      obtain ⟨i1, i2, i3⟩ := ih h' fun y hy => hw y (by simp [hy])
      have hw0 := hw _ (List.mem_cons_self ..)
      refine ⟨?_, fun i y hy hi => ?_, ?_⟩
      · simp only [List.map_cons, setFl, i1]; rfl
      · cases i with
        | zero => simp at hy; subst hy; exact hw0
        | succ i =>
          have := i2 i y (by simpa using hy) (by simpa using hi)
          simpa using this
      · simp only [List.map_cons, valF, i3]; rfl
  obtain ⟨g1, g2, g3⟩ := gen h.alk fun x hx => ⟨(h.ok x hx).f1, (h.ok x hx).f2⟩
  refine ⟨g1, g2, g3, ?_, ?_⟩
  · unfold flE; rw [List.length_map, List.length_take]; omega
  · unfold flF; rw [List.length_map, List.length_drop]; omega
theorem Sv.chk {n : Nat} {es : List Ed} {fs : List Fx} {A : List Ac} {d o : Nat → Int} (h : Sv n es fs A d o) (hE : ∀ x ∈ es, vE n x) (hF : ∀ x ∈ fs, vF n x) (hv : validV n es fs = 0) : ChkP n es fs (fnL n (offS n d o)) (flE es A) (flF es A) (Proofs.Ytebflkgpbbjhnaa.costR es fs (fnL n (offS n d o))).1 := by
  obtain ⟨f1, f2, f3, f4, f5⟩ := h.flows hE hF
  have hc := h.costR hE hF hv
  refine ⟨fnL_len _ _, f4, f5, f2, by rw [hc], ?_, fun v hv => ?_⟩
  · rw [hc, f3, h.cost hE hF]
  · rw [f1]; exact h.net v (by omega)
end Go.Proofs.Ytebflkgpbbjhnaa
/- The walks of balance: Solve's answer is accepted; the example. -/
namespace Go.Proofs.Ytebflkgpbbjhnaa
open Go.Fw Go
set_option linter.unusedVariables false
set_option linter.unusedSimpArgs false

theorem check_solved {n : Nat} {es : List Ed} {fs : List Fx} {A : List Ac} {d o : Nat → Int} (h : Sv n es fs A d o) (hv : validV n es fs = 0) (H : AH) :
    ACall Try.prog 22 [.int .i64 n, .cs (edL es) es.length, .cs (fxL fs) fs.length, .agg [.cs (iS .i64 (fnL n (offS n d o))) n, .cs (iS .i64 (flE es A)) es.length, .cs (iS .i64 (flF es A)) fs.length, .int .i64 (costR es fs (fnL n (offS n d o))).1]] H (fun y H' => y = .int .i64 0 ∧ H' = H) := by
  obtain ⟨⟨_, hn⟩, ⟨he, hf⟩, hE, hF⟩ := validV_ok hv
  obtain ⟨_, _, _, f4, f5⟩ := h.flows hE hF
  have hc := check_c n es fs hv (fnL n (offS n d o)) (flE es A) (flF es A) (costR es fs (fnL n (offS n d o))).1 (by rw [fnL_len]; omega) (by omega) (by omega) 0 (fun _ => rfl) (fun k => absurd (h.chk hE hF hv) k) H
  rw [fnL_len, f4, f5] at hc
  exact hc
set_option maxRecDepth 8000 in
theorem lives17_c (H : AH) : ACall Try.prog 19 [] H (fun y H' => y = .bool true ∧ H' = H) := by
  obtain ⟨es, hes⟩ : ∃ es : List Ed, es = [⟨0, 1, 5, 2⟩] := ⟨_, rfl⟩
  obtain ⟨fs, hfs⟩ : ∃ fs : List Fx, fs = [⟨0, 0, 1⟩, ⟨1, 3, 1⟩] := ⟨_, rfl⟩
  have hv : validV (2 : Nat) es fs = 0 := by rw [hes, hfs]; decide
  obtain ⟨_, _, hE, hF⟩ := validV_ok hv
  have hsolve := fun H => solve_c 2 es fs hv H
  have c1 := fun H => cost_c es fs [0, -5] (by rw [hes]; decide) (by rw [hfs]; decide) (by decide) H
  have c2 := fun H => cost_c es fs [8, 3] (by rw [hes]; decide) (by rw [hfs]; decide) (by decide) H
  have e1 : costR es fs [0, -5] = (8, 0) := by rw [hes, hfs]; decide
  have e2 : costR es fs [8, 3] = (8, 0) := by rw [hes, hfs]; decide
  rw [e1] at c1
  rw [e2] at c2
  have p1 : costP es fs (ofL [0, -5]) = 8 := by rw [hes, hfs]; decide
  have hlow : ∀ q : Nat → Int, 8 ≤ costP es fs q := fun q => by
    rw [hes, hfs]
    unfold costP
    simp only [List.map_cons, List.map_nil, List.sum_cons, List.sum_nil, costE, costF]
    show 8 ≤ 2 * absI (q 0 - q 1 - 5) + 0 + (1 * absI (q 0 - 0) + (1 * absI (q 1 - 3) + 0))
    unfold absI
    split <;> split <;> split <;> omega
  have hchk := fun A d o (h : Sv 2 es fs A d o) H => check_solved h hv H
  have hR : edL es = [.int .i64 0, .int .i64 1, .int .i64 5, .int .i64 2] := by rw [hes]; rfl
  have hR2 : fxL fs = [.int .i64 0, .int .i64 0, .int .i64 1, .int .i64 1, .int .i64 3, .int .i64 1] := by rw [hfs]; rfl
  have l1 : es.length = 1 := by rw [hes]; rfl
  have l2 : fs.length = 2 := by rw [hfs]; rfl
  rw [l1, l2, hR, hR2] at hsolve c1 c2 hchk
  refine ACall.back ?_
  refine ACall_of tt_ok (dok _) Try.func19 rfl (by decide) rfl ?_
  (repeat' ((conv => whnf); first | refine Then.mk ?_ | left | refine OpsA.cons ?_ | refine OpsA.nil ?_ | refine AWq.seq ?_ | refine AWq.region ?_ | refine AWq.ret ?_ | (refine Both.mk ?_ ?_ <;> intro hc <;> (first | exact absurd (by with_reducible rfl) hc | skip)) | (intro c hc; (try (simp only [AH.none_iff] at hc; repeat (have hn := hc.1; replace hc := hc.2))); (first | skip)) | (apply Exists.intro; apply And.intro; (first | (focus (repeat (first | (with_reducible assumption) | (with_reducible exact AH.set_same _ _ _))); done))) | (apply Exists.intro; apply And.intro; first | (with_reducible assumption) | ((try simp only [List.getElem?_drop, Nat.mul_one, Nat.add_zero, Nat.zero_add]); first | (with_reducible assumption) | rfl)) | (apply And.intro; (first | rfl | (with_reducible assumption) | exact Nat.le_of_ble_eq_true rfl)))) <;> (try (conv => whnf))
  refine ACall.mono (hsolve _) ?_
  rintro y H' ⟨A, d, o, hSv, rfl, rfl⟩
  have hk := fun H => hchk A d o hSv H
  have hm1 := hSv.min hE hF (ofL [0, -5])
  have hm2 := hlow (ofL (fnL 2 (offS 2 d o)))
  have hcr := hSv.costR hE hF hv
  have hco : (costR es fs (fnL 2 (offS 2 d o))).1 = 8 := by rw [hcr]; show costP es fs _ = 8; omega
  unfold solV
  rw [hco, l1, l2]
  rw [hco] at hk
  (repeat' ((conv => whnf); first | refine Then.mk ?_ | left | refine OpsA.cons ?_ | refine OpsA.nil ?_ | refine AWq.seq ?_ | refine AWq.region ?_ | refine AWq.ret ?_ | (refine Both.mk ?_ ?_ <;> intro hc <;> (first | exact absurd (by with_reducible rfl) hc | skip)) | (intro c hc; (try (simp only [AH.none_iff] at hc; repeat (have hn := hc.1; replace hc := hc.2))); (first | skip)) | (apply Exists.intro; apply And.intro; (first | (focus (repeat (first | (with_reducible assumption) | (with_reducible exact AH.set_same _ _ _))); done))) | (apply Exists.intro; apply And.intro; first | (with_reducible assumption) | ((try simp only [List.getElem?_drop, Nat.mul_one, Nat.add_zero, Nat.zero_add]); first | (with_reducible assumption) | rfl)) | (apply And.intro; (first | rfl | (with_reducible assumption) | exact Nat.le_of_ble_eq_true rfl)) | (refine ACall.to (c1 _) ?_) | (refine ACall.to (c2 _) ?_) | (refine ACall.to (hk _) ?_))) <;> (try (conv => whnf))
  (first | ((repeat' (first | (with_reducible exact HLe.refl _) | (with_reducible assumption) | refine HLe.set_of _ _ ?_ ?_)); done))
end Go.Proofs.Ytebflkgpbbjhnaa
/- The walks of balance: real, plain. -/
namespace Go.Proofs.Ytebflkgpbbjhnaa
open Go.Fw Go
set_option linter.unusedVariables false
set_option linter.unusedSimpArgs false

theorem edL_get {l : List Ed} {i : Nat} {x : Ed} (h : l[i]? = some x) (j : Nat) (hj : j < 4) : (edL l)[i * 4 + j]? = (edA x)[j]? := fL_get edA_len h hj
end Go.Proofs.Ytebflkgpbbjhnaa
/- The walks of slices.Sort for short lists. -/
namespace Go.Proofs.Ytebflkgpbbjhnaa
open Go.Fw Go
set_option linter.unusedVariables false
set_option linter.unusedSimpArgs false

/-- A number put behind all that are not greater. -/
def insI (x : Int) : List Int → List Int
  | [] => [x]
  | y :: l => if y ≤ x then y :: insI x l else x :: y :: l
def sortI (l : List Int) : List Int := l.foldl (fun a x => insI x a) []
def Srt : List Int → Prop
  | [] => True
  | x :: l => (∀ y ∈ l, x ≤ y) ∧ Srt l
@[simp] theorem insI_len (x : Int) (l : List Int) : (insI x l).length = l.length + 1 := by
  induction l with
  | nil => rfl
  | cons y l ih => unfold insI; split <;> simp [ih]
theorem insI_mem {x z : Int} {l : List Int} : z ∈ insI x l ↔ z = x ∨ z ∈ l := by
  induction l with
  | nil => simp [insI]
  | cons y l ih =>
    unfold insI; split
    · simp only [List.mem_cons, ih]; exact ⟨fun h => by rcases h with h | h | h <;> simp [h], fun h => by rcases h with h | h | h <;> simp [h]⟩
    · simp only [List.mem_cons]
theorem insI_srt {x : Int} {l : List Int} (h : Srt l) : Srt (insI x l) := by
  induction l with
  | nil => exact ⟨fun y hy => by simp at hy, trivial⟩
  | cons y l ih =>
    unfold insI; split
    · refine ⟨fun z hz => ?_, ih h.2⟩
      rcases insI_mem.1 hz with rfl | hz
      · assumption
      · exact h.1 z hz
    · refine ⟨fun z hz => ?_, h⟩
      rcases List.mem_cons.1 hz with rfl | hz
      · omega
      · have := h.1 z hz; omega
theorem sortI_snoc (l : List Int) (x : Int) : sortI (l ++ [x]) = insI x (sortI l) := by unfold sortI; rw [List.foldl_append]; rfl
theorem sortI_all : ∀ (k : List Int), Srt (sortI k.reverse) ∧ (sortI k.reverse).length = k.length ∧ ∀ z, z ∈ sortI k.reverse ↔ z ∈ k
  | [] => ⟨trivial, rfl, fun z => by simp [sortI]⟩
  | x :: k => by
    obtain ⟨h1, h2, h3⟩ := sortI_all k
    rw [List.reverse_cons, sortI_snoc]
    refine ⟨insI_srt h1, by rw [insI_len, h2]; rfl, fun z => ?_⟩
    rw [insI_mem, h3, List.mem_cons]
theorem sortI_srt (l : List Int) : Srt (sortI l) := by have := (sortI_all l.reverse).1; rwa [List.reverse_reverse] at this
@[simp] theorem sortI_len (l : List Int) : (sortI l).length = l.length := by have := (sortI_all l.reverse).2.1; rwa [List.reverse_reverse, List.length_reverse] at this
theorem sortI_mem {l : List Int} {z : Int} : z ∈ sortI l ↔ z ∈ l := by have := (sortI_all l.reverse).2.2 z; rwa [List.reverse_reverse, List.mem_reverse] at this
/-- Where a number belongs: all before it are not greater, the next one is. -/
theorem insI_at {x : Int} : ∀ {A B : List Int}, (∀ a ∈ A, a ≤ x) → (∀ b, B.head? = some b → x < b) → insI x (A ++ B) = A ++ x :: B
  | [], [], _, _ => rfl
  | [], b :: B, _, h => by
    have := h b rfl
    show (if b ≤ x then _ else _) = _
    rw [if_neg (by omega)]; rfl
  | a :: A, B, h, k => by
    show (if a ≤ x then _ else _) = _
    rw [if_pos (h a (by simp)), show insI x (List.append A B) = A ++ x :: B from insI_at (fun y hy => h y (by simp [hy])) k]
    rfl
theorem Srt.append {A B : List Int} : Srt (A ++ B) → Srt A ∧ Srt B := by
  induction A with
  | nil => exact fun h => ⟨trivial, h⟩
  | cons a A ih => exact fun h => ⟨⟨fun y hy => h.1 y (by simp [hy]), (ih h.2).1⟩, (ih h.2).2⟩
theorem Srt.last {A : List Int} (h : Srt A) {j : Nat} (hj : j + 1 = A.length) {a : Int} (ha : A[j]? = some a) : ∀ z ∈ A, z ≤ a := by
  induction A generalizing j with
  | nil => simp at hj
  | cons b A ih =>
    intro z hz
    cases j with
    | zero =>
      have : A = [] := by simpa using hj
      subst this
      simp at ha hz; omega
    | succ j =>
      have ha' : A[j]? = some a := by simpa using ha
      rcases List.mem_cons.1 hz with rfl | hz
      · exact h.1 a (List.mem_of_getElem? ha')
      · exact ih h.2 (by simpa using hj) ha' z hz

set_option maxRecDepth 8000 in
theorem isnan_c (x : Int) (H : AH) : ACall Try.prog 103 [.int .i64 x] H (fun y H' => y = .bool false ∧ H' = H) := by
  refine ACall_of tt_ok (dok _) Try.func103 rfl (by decide) rfl ?_
  (repeat' ((conv => whnf); first | refine Then.mk ?_ | refine OpsA.cons ?_ | refine OpsA.nil ?_ | refine AWq.seq ?_ | refine AWq.region ?_ | refine AWq.ret ?_ | (refine Both.mk ?_ ?_ <;> intro hc <;> (first | exact absurd (by with_reducible rfl) hc | skip)) | (apply And.intro; (first | rfl)))) <;> (try (conv => whnf))
set_option maxRecDepth 8000 in
theorem less_c (x y : Int) (H : AH) : ACall Try.prog 91 [.int .i64 x, .int .i64 y] H (fun z H' => z = .bool (decide (x < y)) ∧ H' = H) := by
  by_cases h : x < y
  · rw [decide_eq_true h]
    refine ACall_of tt_ok (dok _) Try.func91 rfl (by decide) rfl ?_
    (repeat' ((conv => whnf); first | refine Then.mk ?_ | refine OpsA.cons ?_ | refine OpsA.nil ?_ | refine AWq.seq ?_ | refine AWq.region ?_ | refine AWq.ret ?_ | (refine Both.mk ?_ ?_ <;> intro hc <;> (first | exact absurd (by assumption) hc | exact absurd hc (by assumption) | skip)) | (apply And.intro; (first | rfl)) | (refine ACall.to (isnan_c _ _) ?_))) <;> (try (conv => whnf))
  · rw [decide_eq_false h]
    refine ACall_of tt_ok (dok _) Try.func91 rfl (by decide) rfl ?_
    (repeat' ((conv => whnf); first | refine Then.mk ?_ | refine OpsA.cons ?_ | refine OpsA.nil ?_ | refine AWq.seq ?_ | refine AWq.region ?_ | refine AWq.ret ?_ | (refine Both.mk ?_ ?_ <;> intro hc <;> (first | exact absurd (by assumption) hc | exact absurd hc (by assumption) | skip)) | (apply And.intro; (first | rfl)) | (refine ACall.to (isnan_c _ _) ?_))) <;> (try (conv => whnf))
set_option maxRecDepth 8000 in
theorem len64s_c (u : Nat) (hu : u ≤ 12) (H : AH) : ACall Try.prog 95 [.int .u64 u] H (fun y H' => ∃ k : Int, y = .int .i64 k ∧ H' = H) := by
  rcases (show u = 0 ∨ u = 1 ∨ u = 2 ∨ u = 3 ∨ u = 4 ∨ u = 5 ∨ u = 6 ∨ u = 7 ∨ u = 8 ∨ u = 9 ∨ u = 10 ∨ u = 11 ∨ u = 12 by omega) with rfl | rfl | rfl | rfl | rfl | rfl | rfl | rfl | rfl | rfl | rfl | rfl | rfl
  all_goals
    refine ACall_of tt_ok (dok _) Try.func95 rfl (by decide) rfl ?_
    (repeat' ((conv => whnf); first | refine Then.mk ?_ | refine OpsA.cons ?_ | refine OpsA.nil ?_ | refine AWq.seq ?_ | refine AWq.region ?_ | refine AWq.cond ?_ | refine AWq.skip ?_ | refine AWq.ret ?_ | (refine Both.mk ?_ ?_ <;> intro hc <;> (first | exact Bool.noConfusion hc | (exfalso; omega) | skip)) | (intro c hc; (try (simp only [AH.none_iff] at hc; repeat (have hn := hc.1; replace hc := hc.2))); (first | (refine u8_k hc ?_ ?_ ?_ ; omega; omega; (clear hc; intro hc; subst hc)) | subst hc | skip)) | (apply Exists.intro; apply And.intro; first | ((try simp only [List.getElem?_drop, Nat.mul_one, Nat.add_zero, Nat.zero_add]); first | rfl)) | (apply And.intro; (first | rfl | omega | (simp <;> fail))))) <;> (try (conv => whnf))
set_option maxRecDepth 8000 in
theorem lens_c (u : Nat) (hu : u ≤ 12) (H : AH) : ACall Try.prog 82 [.int .u64 u] H (fun y H' => ∃ k : Int, y = .int .i64 k ∧ H' = H) := by
  refine ACall_of tt_ok (dok _) Try.func82 rfl (by decide) rfl ?_
  (repeat' ((conv => whnf); first | refine Then.mk ?_ | refine OpsA.cons ?_ | refine OpsA.nil ?_ | refine AWq.seq ?_ | refine AWq.region ?_ | refine AWq.cond ?_ | refine AWq.skip ?_ | refine AWq.ret ?_ | (refine Both.mk ?_ ?_ <;> intro hc <;> (first | exact Bool.noConfusion hc | skip)) | (apply Exists.intro; apply And.intro; first | ((try simp only [List.getElem?_drop, Nat.mul_one, Nat.add_zero, Nat.zero_add]); first | rfl)) | (apply And.intro; (first | rfl)))) <;> (try (conv => whnf))
  refine (len64s_c u hu _).mono ?_
  rintro y H' ⟨k, rfl, rfl⟩
  (repeat' ((conv => whnf); first | refine Then.mk ?_ | refine OpsA.cons ?_ | refine OpsA.nil ?_ | refine AWq.seq ?_ | refine AWq.region ?_ | refine AWq.cond ?_ | refine AWq.skip ?_ | refine AWq.ret ?_ | (refine Both.mk ?_ ?_ <;> intro hc <;> (first | exact Bool.noConfusion hc | skip)) | (apply Exists.intro; apply And.intro; first | ((try simp only [List.getElem?_drop, Nat.mul_one, Nat.add_zero, Nat.zero_add]); first | rfl)) | (apply And.intro; (first | rfl)))) <;> (try (conv => whnf))
end Go.Proofs.Ytebflkgpbbjhnaa
/- The walks of slices.Sort for short lists. -/
namespace Go.Proofs.Ytebflkgpbbjhnaa
open Go.Fw Go
set_option linter.unusedVariables false
set_option linter.unusedSimpArgs false

/-- A list while a number moves to its place. -/
def mvI (S : List Int) (x : Int) (R : List Int) (j : Nat) : List Int := S.take j ++ x :: (S.drop j ++ R)
theorem mvI_len {S : List Int} {x : Int} {R : List Int} {j : Nat} (hj : j ≤ S.length) : (mvI S x R j).length = S.length + 1 + R.length := by
  unfold mvI; simp only [List.length_append, List.length_cons, List.length_take, List.length_drop]; omega
theorem mvI_at {S : List Int} {x : Int} {R : List Int} {j : Nat} (hj : j ≤ S.length) : (mvI S x R j).getD j 0 = x := by
  unfold mvI
  rw [List.getD_eq_getElem?_getD, List.getElem?_append_right (by rw [List.length_take]; omega), List.length_take, Nat.min_eq_left hj, Nat.sub_self]; rfl
theorem mvI_pr {S : List Int} {x : Int} {R : List Int} {j : Nat} (hj : j + 1 ≤ S.length) : (mvI S x R (j + 1)).getD j 0 = S.getD j 0 := by
  unfold mvI
  rw [List.getD_eq_getElem?_getD, List.getElem?_append_left (by rw [List.length_take]; omega), List.getElem?_take_of_lt (by omega), List.getD_eq_getElem?_getD]
theorem mvI_step {S : List Int} {x : Int} {R : List Int} {j : Nat} (hj : j + 1 ≤ S.length) : ((mvI S x R (j + 1)).set (j + 1) (S.getD j 0)).set j x = mvI S x R j := by
  have hg : S[j]? = some (S.getD j 0) := by rw [List.getD_eq_getElem?_getD, List.getElem?_eq_getElem (show j < S.length by omega)]; rfl
  have hd : S.drop j = S.getD j 0 :: S.drop (j + 1) := by
    rw [List.drop_eq_getElem_cons (show j < S.length by omega), List.getD_eq_getElem?_getD, List.getElem?_eq_getElem (show j < S.length by omega)]; rfl
  unfold mvI
  rw [take_snoc hg, hd]
  have hl : (S.take j).length = j := by rw [List.length_take]; omega
  generalize S.take j = A at *
  generalize S.getD j 0 = z
  generalize S.drop (j + 1) = B
  subst hl
  rw [List.append_assoc, List.set_append_right (h := by omega), List.set_append_right (h := by omega)]
  simp
set_option maxHeartbeats 4000000 in
set_option maxRecDepth 8000 in
theorem insort_c (l : List Int) (hl : l.length ≤ 12) (r v : Nat) (H : AH) (hr : H r = some (.row (iS .i64 l) v)) :
    ACall Try.prog 85 [.sl r v 1 0 l.length none, .int .i64 0, .int .i64 l.length] H (fun y H' => y = .tup [] ∧ H' = H.set r (.row (iS .i64 (sortI l)) v)) := by
  refine ACall_of tt_ok (dok _) Try.func85 rfl (by decide) rfl ?_
  (repeat' ((conv => whnf); first | refine Then.mk ?_ | refine OpsA.cons ?_ | refine OpsA.nil ?_ | refine AWq.seq ?_ | refine AWq.region ?_ | refine AWq.cond ?_ | refine AWq.block ?_ | refine AWq.skip ?_ | refine AWq.exit ?_ | refine AWq.loop ?_ | refine DrawA.consD ?_ | refine DrawA.nil ?_ | refine AWq.draw (by decide +kernel) ?_ | (refine Both.mk ?_ ?_ <;> intro hc <;> (first | exact Bool.noConfusion hc | (exfalso; omega) | skip)) | (intro c hc; (try (simp only [AH.none_iff] at hc; repeat (have hn := hc.1; replace hc := hc.2))); (first | (refine i64_k hc ?_ ?_ ?_ ; omega; omega; (clear hc; intro hc; subst hc)) | skip)) | (apply Exists.intro; apply And.intro; (first | (focus (repeat (first | (with_reducible assumption) | (with_reducible exact AH.set_same _ _ _))); done))) | (apply Exists.intro; apply And.intro; first | (with_reducible assumption) | ((try simp only [List.getElem?_drop, Nat.mul_one, Nat.add_zero, Nat.zero_add]); first | (with_reducible assumption) | rfl)) | (apply And.intro; (first | rfl | (with_reducible assumption) | omega | (simp <;> omega))))) <;> (try (conv => whnf))
  refine AWp_loop (σ := Nat) (6 :: 7 :: 10 :: 11 :: 12 :: 13 :: 14 :: 15 :: 16 :: 17 :: 18 :: 19 :: 20 :: 21 :: 22 :: 23 :: 24 :: 25 :: 26 :: 27 :: 28 :: 29 :: 30 :: 31 :: 32 :: 33 :: 34 :: 35 :: 36 :: 37 :: 38 :: 39 :: 40 :: 41 :: 42 :: 43 :: 44 :: 45 :: 46 :: 47 :: 48 :: []) (fun i => [(6, .int .i64 i)]) (fun i => H.set r (.row (iS .i64 (sortI (l.take i) ++ l.drop i)) v)) (fun i => 1 ≤ i ∧ (i ≤ l.length ∨ l = [] ∧ i = 1)) (fun i => l.length - i) 1 rfl ?_ ⟨rfl, trivial⟩ ?_ ?_
  · rcases l with _ | ⟨x, l⟩
    · exact ⟨by decide, .inr ⟨rfl, rfl⟩⟩
    · exact ⟨by decide, .inl (by simp)⟩
  · have h1 : sortI (l.take 1) ++ l.drop 1 = l := by rcases l with _ | ⟨x, l⟩ <;> rfl
    rw [h1, AH.set_id hr]; exact HLe.refl _
  rintro i ⟨hi1, hi⟩
  refine AWp.of tt_ok (dok _) rfl ?_
  dsimp only at hi ⊢
  by_cases hlt : i < l.length
  · obtain ⟨x, hx⟩ : ∃ x, l[i]? = some x := ⟨_, List.getElem?_eq_getElem hlt⟩
    have hdx : l.drop i = x :: l.drop (i + 1) := by
      rw [List.drop_eq_getElem_cons hlt]; congr 1
      rw [List.getElem?_eq_getElem hlt] at hx; exact Option.some.inj hx
    have htx : l.take (i + 1) = l.take i ++ [x] := take_snoc hx
    have hSl : (sortI (l.take i)).length = i := by rw [sortI_len, List.length_take]; omega
    have hSs := sortI_srt (l.take i)
    have hfin : sortI (l.take (i + 1)) = insI x (sortI (l.take i)) := by rw [htx, sortI_snoc]
    have hRl : (l.drop (i + 1)).length = l.length - (i + 1) := List.length_drop
    rw [hdx]
    generalize sortI (l.take i) = S at *
    generalize hRd : l.drop (i + 1) = R at *
    clear htx hdx hx
    generalize hP : sortI (l.take (i + 1)) = P at *
    (repeat' ((conv => whnf); first | refine Then.mk ?_ | refine OpsA.cons ?_ | refine OpsA.nil ?_ | refine AWq.seq ?_ | refine AWq.region ?_ | refine AWq.cond ?_ | refine AWq.block ?_ | refine AWq.skip ?_ | refine AWq.exit ?_ | refine AWq.loop ?_ | refine DrawA.consD ?_ | refine DrawA.nil ?_ | refine AWq.draw (by decide +kernel) ?_ | (refine Both.mk ?_ ?_ <;> intro hc <;> (first | exact Bool.noConfusion hc | (exfalso; omega) | skip)) | (intro c hc; (try (simp only [AH.none_iff] at hc; repeat (have hn := hc.1; replace hc := hc.2))); (first | (refine i64_k hc ?_ ?_ ?_ ; omega; omega; (clear hc; intro hc; subst hc)) | skip)) | (apply Exists.intro; apply And.intro; (first | (focus (repeat (first | (with_reducible assumption) | (with_reducible exact AH.set_same _ _ _))); done))) | (apply Exists.intro; apply And.intro; first | (with_reducible assumption) | ((try simp only [List.getElem?_drop, Nat.mul_one, Nat.add_zero, Nat.zero_add]); first | (with_reducible assumption) | rfl)) | (apply And.intro; (first | rfl | (with_reducible assumption) | omega | (simp <;> omega))))) <;> (try (conv => whnf))
    refine AWp_loop (σ := Nat) (7 :: 16 :: 17 :: 18 :: 19 :: 20 :: 21 :: 22 :: 23 :: 24 :: 25 :: 26 :: 27 :: 28 :: 29 :: 30 :: 31 :: 32 :: 33 :: 34 :: 35 :: 36 :: 37 :: 38 :: 39 :: 40 :: 41 :: 42 :: 43 :: 44 :: 45 :: 46 :: 47 :: 48 :: []) (fun j => [(7, .int .i64 j), (6, .int .i64 i)]) (fun j => H.set r (.row (iS .i64 (mvI S x R j)) v)) (fun j => j ≤ i ∧ ∀ b ∈ S.drop j, x < b) (fun j => j) i rfl ⟨Nat.le_refl _, ?_⟩ ⟨rfl, rfl, trivial⟩ ?_ ?_
    · intro b hb
      rw [List.drop_of_length_le (by omega)] at hb
      simp at hb
    · unfold mvI
      rw [List.take_of_length_le (by omega), List.drop_of_length_le (by omega), List.nil_append]
      exact HLe.refl _
    rintro j ⟨hj, hjb⟩
    refine AWp.of tt_ok (dok _) rfl ?_
    dsimp only
    have hml := mvI_len (S := S) (x := x) (R := R) (j := j) (by omega)
    have hil := iS_length .i64 (mvI S x R j)
    have hgr : (H.set r (.row (iS .i64 (mvI S x R j)) v)) r = some (.row (iS .i64 (mvI S x R j)) v) := AH.set_same _ _ _
    rcases j with _ | j
    · (repeat' ((conv => whnf); first | refine Then.mk ?_ | refine OpsA.cons ?_ | refine OpsA.nil ?_ | refine AWq.seq ?_ | refine AWq.region ?_ | refine AWq.cond ?_ | refine AWq.block ?_ | refine AWq.skip ?_ | refine AWq.exit ?_ | refine AWq.loop ?_ | refine DrawA.consD ?_ | refine DrawA.nil ?_ | refine AWq.draw (by decide +kernel) ?_ | (refine Both.mk ?_ ?_ <;> intro hc <;> (first | exact Bool.noConfusion hc | (exfalso; omega) | skip)) | (intro c hc; (try (simp only [AH.none_iff] at hc; repeat (have hn := hc.1; replace hc := hc.2))); (first | (refine i64_k hc ?_ ?_ ?_ ; omega; omega; (clear hc; intro hc; subst hc)) | skip)) | (apply Exists.intro; apply And.intro; (first | (focus (repeat (first | (with_reducible assumption) | (with_reducible exact AH.set_same _ _ _))); done))) | (apply Exists.intro; apply And.intro; first | (with_reducible assumption) | ((try simp only [List.getElem?_drop, Nat.mul_one, Nat.add_zero, Nat.zero_add]); first | (with_reducible assumption) | rfl)) | (apply And.intro; (first | rfl | (with_reducible assumption) | omega | (simp <;> omega))))) <;> (try (conv => whnf))
      refine ⟨i + 1, ⟨by omega, .inl hlt⟩, show l.length - (i + 1) < l.length - i by omega, ⟨rfl, trivial⟩, HLe.of_eq ?_⟩
      rw [hP, hfin]
      have := insI_at (x := x) (A := []) (B := S) (fun a ha => by simp at ha) (fun b hb => hjb b (by rw [List.drop_zero]; exact List.mem_of_mem_head? hb))
      rw [List.nil_append] at this
      rw [this, hRd]; rfl
    · have g1 : (iS .i64 (mvI S x R (j + 1)))[((j + 1 : Nat) : Int).toNat]? = some (.int .i64 x) := by
        have := iS_get (k := .i64) (l := mvI S x R (j + 1)) (i := j + 1) (by omega)
        rw [mvI_at (by omega)] at this
        exact this
      have g2 : (iS .i64 (mvI S x R (j + 1)))[(((j + 1 : Nat) : Int) - 1).toNat]? = some (.int .i64 (S.getD j 0)) := by
        rw [show (((j + 1 : Nat) : Int) - 1).toNat = j by omega]
        have := iS_get (k := .i64) (l := mvI S x R (j + 1)) (i := j) (by omega)
        rw [mvI_pr (by omega)] at this
        exact this
      have w1 := wr_iS (K := .i64) (a := mvI S x R (j + 1)) (k := j + 1) (v := S.getD j 0) (by omega)
      have w2 := wr_iS (K := .i64) (a := (mvI S x R (j + 1)).set (j + 1) (S.getD j 0)) (k := j) (v := x) (by rw [List.length_set]; omega)
      rw [mvI_step (by omega), ← w1] at w2
      by_cases hlt2 : x < S.getD j 0
      · have ls := fun H => less_c x (S.getD j 0) H
        rw [decide_eq_true hlt2] at ls
        (repeat' ((conv => whnf); first | refine Then.mk ?_ | refine OpsA.cons ?_ | refine OpsA.nil ?_ | refine AWq.seq ?_ | refine AWq.region ?_ | refine AWq.cond ?_ | refine AWq.block ?_ | refine AWq.skip ?_ | refine AWq.exit ?_ | refine AWq.loop ?_ | refine DrawA.consD ?_ | refine DrawA.nil ?_ | refine AWq.draw (by decide +kernel) ?_ | (apply Exists.intro; apply And.intro; exact ls _) | (refine Both.mk ?_ ?_ <;> intro hc <;> (first | exact Bool.noConfusion hc | (exfalso; omega) | skip)) | (intro c hc; (try (simp only [AH.none_iff] at hc; repeat (have hn := hc.1; replace hc := hc.2))); (first | (refine i64_k hc ?_ ?_ ?_ ; omega; omega; (clear hc; intro hc; subst hc)) | skip)) | (apply Exists.intro; apply And.intro; (first | (focus (repeat (first | (with_reducible assumption) | (with_reducible exact AH.set_same _ _ _))); done))) | (apply Exists.intro; apply And.intro; first | (with_reducible assumption) | ((try simp only [List.getElem?_drop, Nat.mul_one, Nat.add_zero, Nat.zero_add]); first | (with_reducible assumption) | rfl)) | (apply And.intro; (first | rfl | (with_reducible assumption) | omega | (simp <;> omega))))) <;> (try (conv => whnf))
        refine ⟨j, ⟨by omega, fun b hb => ?_⟩, Nat.lt_succ_self j, ⟨congrArg (AV.int .i64) (by omega), rfl, trivial⟩, HLe.of_eq ?_⟩
        · rw [List.drop_eq_getElem_cons (show j < S.length by omega)] at hb
          rcases List.mem_cons.1 hb with rfl | hb
          · rw [List.getD_eq_getElem?_getD, List.getElem?_eq_getElem (show j < S.length by omega)] at hlt2; exact hlt2
          · exact hjb b hb
        · rw [AH.set_set, AH.set_set, show 0 + ((j + 1 : Nat) : Int).toNat * 1 = j + 1 by omega, show 0 + (((j + 1 : Nat) : Int) - 1).toNat * 1 = j by omega]; exact congrArg (fun z => H.set r (.row z v)) w2.symm
      · have hle : S.getD j 0 ≤ x := by omega
        have ls := fun H => less_c x (S.getD j 0) H
        rw [decide_eq_false hlt2] at ls
        (repeat' ((conv => whnf); first | refine Then.mk ?_ | refine OpsA.cons ?_ | refine OpsA.nil ?_ | refine AWq.seq ?_ | refine AWq.region ?_ | refine AWq.cond ?_ | refine AWq.block ?_ | refine AWq.skip ?_ | refine AWq.exit ?_ | refine AWq.loop ?_ | refine DrawA.consD ?_ | refine DrawA.nil ?_ | refine AWq.draw (by decide +kernel) ?_ | (apply Exists.intro; apply And.intro; exact ls _) | (refine Both.mk ?_ ?_ <;> intro hc <;> (first | exact Bool.noConfusion hc | (exfalso; omega) | skip)) | (intro c hc; (try (simp only [AH.none_iff] at hc; repeat (have hn := hc.1; replace hc := hc.2))); (first | (refine i64_k hc ?_ ?_ ?_ ; omega; omega; (clear hc; intro hc; subst hc)) | skip)) | (apply Exists.intro; apply And.intro; (first | (focus (repeat (first | (with_reducible assumption) | (with_reducible exact AH.set_same _ _ _))); done))) | (apply Exists.intro; apply And.intro; first | (with_reducible assumption) | ((try simp only [List.getElem?_drop, Nat.mul_one, Nat.add_zero, Nat.zero_add]); first | (with_reducible assumption) | rfl)) | (apply And.intro; (first | rfl | (with_reducible assumption) | omega | (simp <;> omega))))) <;> (try (conv => whnf))
        refine ⟨i + 1, ⟨by omega, .inl hlt⟩, show l.length - (i + 1) < l.length - i by omega, ⟨rfl, trivial⟩, HLe.of_eq ?_⟩
        rw [hP, hfin, hRd]
        have hTl : (S.take (j + 1)).length = j + 1 := by rw [List.length_take]; omega
        have hTs : Srt (S.take (j + 1)) := by
          have := hSs
          rw [← List.take_append_drop (j + 1) S] at this
          exact this.append.1
        have hg : (S.take (j + 1))[j]? = some (S.getD j 0) := by
          rw [List.getElem?_take_of_lt (by omega), List.getD_eq_getElem?_getD, List.getElem?_eq_getElem (show j < S.length by omega)]; rfl
        have hA := hTs.last (by omega) hg
        have := insI_at (x := x) (A := S.take (j + 1)) (B := S.drop (j + 1)) (fun a ha => by have := hA a ha; omega) (fun b hb => hjb b (List.mem_of_mem_head? hb))
        rw [List.take_append_drop] at this
        rw [this, List.append_assoc]; rfl
  · (repeat' ((conv => whnf); first | refine Then.mk ?_ | refine OpsA.cons ?_ | refine OpsA.nil ?_ | refine AWq.seq ?_ | refine AWq.region ?_ | refine AWq.cond ?_ | refine AWq.block ?_ | refine AWq.skip ?_ | refine AWq.exit ?_ | refine AWq.loop ?_ | refine DrawA.consD ?_ | refine DrawA.nil ?_ | refine AWq.draw (by decide +kernel) ?_ | (refine Both.mk ?_ ?_ <;> intro hc <;> (first | exact Bool.noConfusion hc | (exfalso; omega) | skip)) | (intro c hc; (try (simp only [AH.none_iff] at hc; repeat (have hn := hc.1; replace hc := hc.2))); (first | (refine i64_k hc ?_ ?_ ?_ ; omega; omega; (clear hc; intro hc; subst hc)) | skip)) | (apply Exists.intro; apply And.intro; (first | (focus (repeat (first | (with_reducible assumption) | (with_reducible exact AH.set_same _ _ _))); done))) | (apply Exists.intro; apply And.intro; first | (with_reducible assumption) | ((try simp only [List.getElem?_drop, Nat.mul_one, Nat.add_zero, Nat.zero_add]); first | (with_reducible assumption) | rfl)) | (apply And.intro; (first | rfl | (with_reducible assumption) | omega | (simp <;> omega))))) <;> (try (conv => whnf))
    rw [List.take_of_length_le (by omega), List.drop_of_length_le (by omega), List.append_nil]
set_option maxHeartbeats 4000000 in
set_option maxRecDepth 8000 in
theorem sort_c (l : List Int) (hl : l.length ≤ 12) (r v : Nat) (H : AH) (hr : H r = some (.row (iS .i64 l) v)) :
    ACall Try.prog 61 [.sl r v 1 0 l.length none] H (fun y H' => y = .tup [] ∧ H' = H.set r (.row (iS .i64 (sortI l)) v)) := by
  have hi := insort_c l hl r v H hr
  have hp : ∀ k : Int, ACall Try.prog 81 [.sl r v 1 0 l.length none, .int .i64 0, .int .i64 l.length, .int .i64 k] H (fun y H' => y = .tup [] ∧ H' = H.set r (.row (iS .i64 (sortI l)) v)) := by
    intro k
    refine ACall_of tt_ok (dok _) Try.func81 rfl (by decide) rfl ?_
    (repeat' ((conv => whnf); first | refine Then.mk ?_ | refine OpsA.cons ?_ | refine OpsA.nil ?_ | refine AWq.seq ?_ | refine AWq.region ?_ | refine AWq.cond ?_ | refine AWq.block ?_ | refine AWq.ret ?_ | refine AWq.loop ?_ | (refine Both.mk ?_ ?_ <;> intro hc <;> (first | exact Bool.noConfusion hc | (exfalso; omega) | skip)) | (intro c hc; (try (simp only [AH.none_iff] at hc; repeat (have hn := hc.1; replace hc := hc.2))); (first | (refine i64_k hc ?_ ?_ ?_ ; omega; omega; (clear hc; intro hc; subst hc)) | (refine u64_k hc ?_ ?_ ?_ ; omega; omega; (clear hc; intro hc; subst hc)) | skip)) | (apply And.intro; (first | rfl)))) <;> (try (conv => whnf))
    refine AWp_loop (σ := Nat) (1 :: 2 :: 3 :: 8 :: 9 :: 10 :: 11 :: 12 :: 13 :: 14 :: 15 :: 16 :: 17 :: 18 :: 19 :: 20 :: 21 :: 22 :: 23 :: 24 :: 25 :: 26 :: 27 :: 28 :: 29 :: 30 :: 31 :: 32 :: 33 :: 34 :: 35 :: 36 :: 37 :: 38 :: 39 :: 40 :: 41 :: 42 :: 43 :: 44 :: 45 :: 46 :: 47 :: 48 :: 49 :: 50 :: 51 :: 52 :: 53 :: 54 :: 55 :: 56 :: 57 :: 58 :: 59 :: 60 :: 61 :: 62 :: 63 :: 64 :: 65 :: 66 :: 67 :: 68 :: 69 :: 70 :: 71 :: 72 :: 73 :: 74 :: 75 :: 76 :: 77 :: 78 :: 79 :: 80 :: 81 :: 82 :: 83 :: 84 :: 85 :: 86 :: 87 :: 88 :: 89 :: 90 :: 91 :: 92 :: 93 :: 94 :: 95 :: 96 :: 97 :: 98 :: 99 :: 100 :: 101 :: 102 :: 103 :: 104 :: 105 :: 106 :: 107 :: 108 :: 109 :: 110 :: 111 :: 112 :: 113 :: 114 :: 115 :: 116 :: 117 :: 118 :: 119 :: 120 :: 121 :: 122 :: 123 :: 124 :: 125 :: 126 :: 127 :: 128 :: 129 :: 130 :: 131 :: 132 :: 133 :: []) (fun _ => [(0, .sl r v 1 0 l.length none), (1, .int .i64 0), (2, .int .i64 l.length)]) (fun _ => H) (fun _ => True) (fun i => i) 0 rfl trivial ⟨rfl, rfl, rfl, trivial⟩ (HLe.refl _) ?_
    intro i _
    refine AWp.of tt_ok (dok _) rfl ?_
    (repeat' ((conv => whnf); first | refine Then.mk ?_ | refine OpsA.cons ?_ | refine OpsA.nil ?_ | refine AWq.seq ?_ | refine AWq.region ?_ | refine AWq.cond ?_ | refine AWq.block ?_ | refine AWq.ret ?_ | refine AWq.loop ?_ | (refine Both.mk ?_ ?_ <;> intro hc <;> (first | exact Bool.noConfusion hc | (exfalso; omega) | skip)) | (intro c hc; (try (simp only [AH.none_iff] at hc; repeat (have hn := hc.1; replace hc := hc.2))); (first | (refine i64_k hc ?_ ?_ ?_ ; omega; omega; (clear hc; intro hc; subst hc)) | (refine u64_k hc ?_ ?_ ?_ ; omega; omega; (clear hc; intro hc; subst hc)) | skip)) | (apply And.intro; (first | rfl)) | (refine ACall.to (hi) ?_))) <;> (try (conv => whnf))
    done
  refine ACall_of tt_ok (dok _) Try.func61 rfl (by decide) rfl ?_
  (repeat' ((conv => whnf); first | refine Then.mk ?_ | refine OpsA.cons ?_ | refine OpsA.nil ?_ | refine AWq.seq ?_ | refine AWq.region ?_ | refine AWq.cond ?_ | refine AWq.block ?_ | refine AWq.ret ?_ | refine AWq.loop ?_ | (refine Both.mk ?_ ?_ <;> intro hc <;> (first | exact Bool.noConfusion hc | (exfalso; omega) | skip)) | (intro c hc; (try (simp only [AH.none_iff] at hc; repeat (have hn := hc.1; replace hc := hc.2))); (first | (refine i64_k hc ?_ ?_ ?_ ; omega; omega; (clear hc; intro hc; subst hc)) | (refine u64_k hc ?_ ?_ ?_ ; omega; omega; (clear hc; intro hc; subst hc)) | skip)) | (apply And.intro; (first | rfl)))) <;> (try (conv => whnf))
  refine (lens_c l.length (by omega) _).mono ?_
  rintro y H' ⟨k, rfl, rfl⟩
  (repeat' ((conv => whnf); first | refine Then.mk ?_ | refine OpsA.cons ?_ | refine OpsA.nil ?_ | refine AWq.seq ?_ | refine AWq.region ?_ | refine AWq.cond ?_ | refine AWq.block ?_ | refine AWq.ret ?_ | refine AWq.loop ?_ | (refine Both.mk ?_ ?_ <;> intro hc <;> (first | exact Bool.noConfusion hc | (exfalso; omega) | skip)) | (intro c hc; (try (simp only [AH.none_iff] at hc; repeat (have hn := hc.1; replace hc := hc.2))); (first | (refine i64_k hc ?_ ?_ ?_ ; omega; omega; (clear hc; intro hc; subst hc)) | (refine u64_k hc ?_ ?_ ?_ ; omega; omega; (clear hc; intro hc; subst hc)) | skip)) | (apply And.intro; (first | rfl)) | (refine ACall.to (hp _) ?_))) <;> (try (conv => whnf))
  done
end Go.Proofs.Ytebflkgpbbjhnaa
/- The law BalanceScales: the contract of the law's function. -/
namespace Go.Proofs.Ytebflkgpbbjhnaa
open Go.Fw Go
set_option linter.unusedVariables false
set_option linter.unusedSimpArgs false

/-- Solve's cost, the least one. -/
structure Least (es : List Ed) (fs : List Fx) (c : Int) : Prop where
  hit : ∃ q, costP es fs q = c
  low : ∀ q, c ≤ costP es fs q
theorem Least.one {es : List Ed} {fs : List Fx} {c d : Int} (h : Least es fs c) (k : Least es fs d) : c = d := by
  obtain ⟨p, hp⟩ := h.hit
  obtain ⟨q, hq⟩ := k.hit
  have := h.low q
  have := k.low p
  omega
theorem valid0 {n : Nat} {es : List Ed} {fs : List Fx} (hn : n ≤ 64) (he : es.length ≤ 8192) (hf : fs.length ≤ 8192) (hE : ∀ x ∈ es, vE n x) (hF : ∀ x ∈ fs, vF n x) : validV n es fs = 0 := by
  unfold validV
  rw [if_neg (by omega), if_neg (by omega), if_pos ⟨hE, hF⟩]
end Go.Proofs.Ytebflkgpbbjhnaa
