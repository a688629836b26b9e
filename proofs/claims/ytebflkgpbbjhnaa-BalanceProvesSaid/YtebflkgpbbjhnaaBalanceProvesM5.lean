/- For the law BalanceProves, part 5 of 7: the frame of the walk, the walks of the functions, the plain law, the row. No conditions. -/
import Derived.Test.YtebflkgpbbjhnaaBalanceProvesM4
/- The walks of balance: Solve. -/
namespace Go.Proofs.Ytebflkgpbbjhnaa
open Go.Fw Go
set_option linter.unusedVariables false
set_option linter.unusedSimpArgs false

/-- The greatest offsets that are at most 0. -/
def MaxP (n : Nat) (A : List Ac) (d : Nat → Int) : Prop := ∀ q, Feas A q → (∀ v, v ≤ n → q v ≤ 0) → ∀ v, v ≤ n → q v ≤ d v
/-- What Solve has at its end. -/
structure Sv (n : Nat) (es : List Ed) (fs : List Fx) (A : List Ac) (d o : Nat → Int) : Prop where
  alk : Alk (net0 n es fs) A
  ok : ∀ x ∈ A, AcOk n x
  net : ∀ v, v ≤ n → netN A v = 0
  fe : Feas A d
  lo : ∀ v, v ≤ n → -(65536 * ((n : Int) + 1)) ≤ d v
  up : ∀ v, v ≤ n → d v ≤ 0
  max : MaxP n A d
  bi : BI n A o
  eq : ∀ x ∈ A, o x.a = o x.b
def offS (n : Nat) (d o : Nat → Int) (i : Nat) : Int := d i - d (bsN n o i).toNat
def flE (es : List Ed) (A : List Ac) : List Int := (A.take es.length).map (·.f)
def flF (es : List Ed) (A : List Ac) : List Int := (A.drop es.length).map (·.f)
def solV (n : Nat) (es : List Ed) (fs : List Fx) (A : List Ac) (d o : Nat → Int) : AV :=
  .tup [.agg [.cs (iS .i64 (fnL n (offS n d o))) n, .cs (iS .i64 (flE es A)) es.length, .cs (iS .i64 (flF es A)) fs.length, .int .i64 (costR es fs (fnL n (offS n d o))).1], .int .i64 0]
theorem max_rlx {n : Nat} {A : List Ac} (hA : ∀ x ∈ A, AcOk n x) {σ : Ds} (h : MaxP n A σ.d) {i : Nat} {x : Ac} {up : Bool} (hi : A[i]? = some x) (hr : Rlx σ x up) : MaxP n A (rlx σ i x up).d := by
  intro q hq h0 v hv
  show q v ≤ if v = hd x up then σ.d (tl x up) + cs x up else σ.d v
  split
  · rename_i e
    have hx := List.mem_of_getElem? hi
    have h1 := feas_iff.1 hq x hx up hr.1
    have h2 := h q hq h0 _ (tl_le (hA x hx) up)
    rw [e]; omega
  · exact h q hq h0 v hv
theorem net0_ok {n : Nat} {es : List Ed} {fs : List Fx} (hE : ∀ x ∈ es, vE n x) (hF : ∀ x ∈ fs, vF n x) : J n (net0 n es fs) := by
  refine start_J fun x hx => ?_
  rcases List.mem_append.1 hx with h | h
  · obtain ⟨y, hy, rfl⟩ := List.mem_map.1 h
    obtain ⟨v1, v2, v3, v4, v5⟩ := hE y hy
    exact ⟨by show y.a.toNat ≤ n; omega, by show y.b.toNat ≤ n; omega, v4.1, v4.2, v5.1, v5.2, rfl⟩
  · obtain ⟨y, hy, rfl⟩ := List.mem_map.1 h
    obtain ⟨v1, v4, v5⟩ := hF y hy
    exact ⟨by show y.a.toNat ≤ n; omega, Nat.le_refl _, v4.1, v4.2, v5.1, v5.2, rfl⟩
theorem feas_end {n : Nat} {A : List Ac} {p : Nat → Int} {mu : Int} {σ : Ds} (hA : ∀ x ∈ A, AcOk n x) (h : DI A n p (fun _ => 0) mu σ) (hs : Stab A σ) : Feas A σ.d := by
  refine feas_iff.2 fun x hx up hr => stab_reach hs hx hr ?_
  have := h.dec _ (tl_le (hA x hx) up)
  have hfar : far = 1125899906842624 := rfl
  have : σ.d (tl x up) ≤ 0 := this
  omega
theorem dist0_c (n : Nat) (hnn : n ≤ 100) (A : List Ac) (hJ : J n A) (hl : A.length ≤ 100000) (H : AH) (g vg ra va : Nat) (lim : Option Nat) (hN : NetAt H n A g vg ra va lim) (rd : Nat) (hd : H rd = some (.row (dL (n + 1) fun _ => 0) 0)) (hdg : rd ≠ g) (hda : rd ≠ ra) :
    ACall Try.prog 41 [.ptr g vg 0, .sl rd 0 1 0 (n + 1) none] H (fun y H' => ∃ σ rs, (Feas A σ.d ∧ MaxP n A σ.d ∧ (∀ v, v ≤ n → -(65536 * ((n : Int) + 1)) ≤ σ.d v ∧ σ.d v ≤ 0)) ∧ H rs = none ∧ y = .sl rs 0 2 0 (n + 1) none ∧ H' = dsH H n rd 0 rs σ) := by
  obtain ⟨hA, p, hp, hpb⟩ := hJ
  have hfar : far = 1125899906842624 := rfl
  refine (distances_c n hnn A hA hl (fun σ => DI A n p (fun _ => 0) (-(65536 * ((n : Int) + 1))) σ ∧ MaxP n A σ.d) (fun σ => wgt p (-(65536 * ((n : Int) + 1))) σ.d n)
    (fun σ i x up hq hx hR => ⟨⟨hq.1.rlx hA hp hnn hx hR, max_rlx hA hq.2 hx hR⟩, hq.1.less hA hp hx hR⟩)
    (fun σ hq v hv => by
      have h1 := hq.1.low v hv
      have h2 := hq.1.dec v hv
      have h3 := hpb v hv
      have h2 : σ.d v ≤ 0 := h2
      omega)
    (fun _ => 0) ⟨⟨fun v hv => by
      have := hpb v hv
      show _ ≤ (0 : Int) - p v
      omega, fun v hv => Int.le_refl _, fun v hv hl => by
      show (0 : Int) ≤ _
      omega, fun v hv => .inl rfl⟩, fun q _ h0 v hv => h0 v hv⟩ H g vg ra va lim none hN rd 0 hd hdg hda).mono ?_
  rintro y H' ⟨σ, rs, ⟨hDI, hmx⟩, hst, hrs, rfl, rfl⟩
  refine ⟨σ, rs, ⟨feas_end hA hDI hst, hmx, fun v hv => ⟨?_, hDI.dec v hv⟩⟩, hrs, rfl, rfl⟩
  have h1 := hDI.low v hv
  have h3 := hpb v hv
  omega
structure AnD (r1 r2 r3 c : Nat) : Prop where
  b : r1 ≠ r2
  a : r1 ≠ r3
  x : r2 ≠ r3
  c1 : r1 ≠ c
  c2 : r2 ≠ c
  c3 : r3 ≠ c
/-- An answer under way. -/
def anH (F : AH) (r1 r2 r3 c : Nat) (l1 l2 l3 : List Int) : AH :=
  (((F.set r1 (.row (iS .i64 l1) l1.length)).set r2 (.row (iS .i64 l2) l2.length)).set r3 (.row (iS .i64 l3) l3.length)).set c (.row [.sl r1 l1.length 1 0 l1.length none, .sl r2 l2.length 1 0 l2.length none, .sl r3 l3.length 1 0 l3.length none, .int .i64 0] 0)
theorem set_in {G : AH} {r s : Nat} {o o' : AO} (h : r ≠ s) : (G.set r o).set s o' = (G.set s o').set r o := AH.set_comm _ _ _ h
theorem anH_1 {F : AH} {r1 r2 r3 c : Nat} (D : AnD r1 r2 r3 c) (l1 l2 l3 : List Int) (x : Int) :
    anH F r1 r2 r3 c (l1 ++ [x]) l2 l3 = ((anH F r1 r2 r3 c l1 l2 l3).set r1 (.row (iS .i64 l1 ++ [.int .i64 x]) (l1.length + 1))).set c (.row [.sl r1 (l1.length + 1) 1 0 (l1.length + 1) none, .sl r2 l2.length 1 0 l2.length none, .sl r3 l3.length 1 0 l3.length none, .int .i64 0] 0) := by
  obtain ⟨b, a, x, c1, c2, c3⟩ := D
  unfold anH
  rw [set_in (Ne.symm c1), AH.set_set, set_in (Ne.symm a), set_in (Ne.symm b), AH.set_set, iS_snoc]
  simp only [List.length_append, List.length_cons, List.length_nil, Nat.zero_add]
theorem anH_2 {F : AH} {r1 r2 r3 c : Nat} (D : AnD r1 r2 r3 c) (l1 l2 l3 : List Int) (x : Int) :
    anH F r1 r2 r3 c l1 (l2 ++ [x]) l3 = ((anH F r1 r2 r3 c l1 l2 l3).set r2 (.row (iS .i64 l2 ++ [.int .i64 x]) (l2.length + 1))).set c (.row [.sl r1 l1.length 1 0 l1.length none, .sl r2 (l2.length + 1) 1 0 (l2.length + 1) none, .sl r3 l3.length 1 0 l3.length none, .int .i64 0] 0) := by
  obtain ⟨b, a, x, c1, c2, c3⟩ := D
  unfold anH
  rw [set_in (Ne.symm c2), AH.set_set, set_in (Ne.symm x), AH.set_set, iS_snoc]
  simp only [List.length_append, List.length_cons, List.length_nil, Nat.zero_add]
theorem anH_3 {F : AH} {r1 r2 r3 c : Nat} (D : AnD r1 r2 r3 c) (l1 l2 l3 : List Int) (x : Int) :
    anH F r1 r2 r3 c l1 l2 (l3 ++ [x]) = ((anH F r1 r2 r3 c l1 l2 l3).set r3 (.row (iS .i64 l3 ++ [.int .i64 x]) (l3.length + 1))).set c (.row [.sl r1 l1.length 1 0 l1.length none, .sl r2 l2.length 1 0 l2.length none, .sl r3 (l3.length + 1) 1 0 (l3.length + 1) none, .int .i64 0] 0) := by
  obtain ⟨b, a, x, c1, c2, c3⟩ := D
  unfold anH
  rw [set_in (Ne.symm c3), AH.set_set, AH.set_set, iS_snoc]
  simp only [List.length_append, List.length_cons, List.length_nil, Nat.zero_add]
theorem anH_0 {F : AH} {r1 r2 r3 c : Nat} {o : AO} (D : AnD r1 r2 r3 c) :
    anH F r1 r2 r3 c [] [] [] = (((((((F.set c o).set r1 (.row [] 0)).set c (.row ([] ++ .sl r1 0 1 0 0 none :: [.nils, .nils, .int .i64 0]) 0)).set r2 (.row [] 0)).set c (.row ([.sl r1 0 1 0 0 none] ++ .sl r2 0 1 0 0 none :: [.nils, .int .i64 0]) 0)).set r3 (.row [] 0)).set c (.row ([.sl r1 0 1 0 0 none, .sl r2 0 1 0 0 none] ++ .sl r3 0 1 0 0 none :: [.int .i64 0]) 0)) := by
  obtain ⟨b, a, x, c1, c2, c3⟩ := D
  unfold anH
  rw [set_in (Ne.symm c1), AH.set_set, set_in (Ne.symm c2), AH.set_set, set_in (Ne.symm c3), AH.set_set]
  rfl
set_option maxHeartbeats 4000000 in
set_option maxRecDepth 8000 in
theorem solve_bad (n : Int) (es : List Ed) (fs : List Fx) (he : es.length ≤ 1000000000) (hf : fs.length ≤ 1000000000) (hv : validV n es fs ≠ 0) (H : AH) :
    ACall Try.prog 14 [.int .i64 n, .cs (edL es) es.length, .cs (fxL fs) fs.length] H (fun y H' => y = .tup [.agg [.nils, .nils, .nils, .int .i64 0], .int .i64 (validV n es fs)] ∧ H' = H) := by
  have hv1 := fun H => valid_c n es fs he hf H
  refine ACall.back ?_
  generalize validV n es fs = e at *
  refine ACall_of tt_ok (dok _) Try.func14 rfl (by decide) rfl ?_
  (repeat' ((conv => whnf); first | refine Then.mk ?_ | left | refine OpsA.cons ?_ | refine OpsA.nil ?_ | refine AWq.seq ?_ | refine AWq.region ?_ | refine AWq.cond ?_ | refine AWq.ret ?_ | (refine Both.mk ?_ ?_ <;> intro hc <;> (first | exact Bool.noConfusion hc | exact absurd (by assumption) hc | skip)) | (intro c hc; (try (simp only [AH.none_iff] at hc; repeat (have hn := hc.1; replace hc := hc.2))); (first | skip)) | (apply Exists.intro; apply And.intro; (first | (focus (repeat (first | (with_reducible assumption) | (with_reducible exact AH.set_same _ _ _))); done))) | (apply And.intro; (first | rfl | (with_reducible assumption) | exact Nat.le_of_ble_eq_true rfl)) | (refine ACall.to (hv1 _) ?_))) <;> (try (conv => whnf))
  (first | ((repeat' (first | (with_reducible exact HLe.refl _) | (with_reducible assumption) | refine HLe.set_of _ _ ?_ ?_)); done))
set_option maxHeartbeats 4000000 in
theorem flat_ed (l : List Ed) : ∀ x, x ∈ edL l → Flat x := fun x hx => by
  obtain ⟨e, _, he⟩ := List.mem_flatMap.1 hx
  simp only [edA, List.mem_cons, List.not_mem_nil, or_false] at he
  rcases he with rfl | rfl | rfl | rfl <;> exact .int _ _
theorem flat_fx (l : List Fx) : ∀ x, x ∈ fxL l → Flat x := fun x hx => by
  obtain ⟨e, _, he⟩ := List.mem_flatMap.1 hx
  simp only [fxA, List.mem_cons, List.not_mem_nil, or_false] at he
  rcases he with rfl | rfl | rfl <;> exact .int _ _
set_option maxHeartbeats 4000000 in
set_option maxRecDepth 8000 in
theorem solve_s (n : Nat) (es : List Ed) (fs : List Fx) (hv : validV n es fs = 0) (H : AH) :
    ACall Try.prog 14 [.int .i64 n, .cs (edL es) es.length, .cs (fxL fs) fs.length] H (fun y H' => ∃ A d o r1 r2 r3 v1 v2 v3, Sv n es fs A d o ∧ H r1 = none ∧ H r2 = none ∧ H r3 = none ∧ r1 ≠ r2 ∧ r1 ≠ r3 ∧ r2 ≠ r3 ∧
      y = .tup [.agg [.sl r1 v1 1 0 n none, .sl r2 v2 1 0 es.length none, .sl r3 v3 1 0 fs.length none, .int .i64 (costR es fs (fnL n (offS n d o))).1], .int .i64 0] ∧
      H' = ((H.set r1 (.row (iS .i64 (fnL n (offS n d o))) v1)).set r2 (.row (iS .i64 (flE es A)) v2)).set r3 (.row (iS .i64 (flF es A)) v3)) := by
  obtain ⟨⟨_, hn64⟩, ⟨he, hf⟩, hE, hF⟩ := validV_ok hv
  have hv1 := fun H => valid_c n es fs (by omega) (by omega) H
  rw [hv] at hv1
  refine ACall.told ?_
  have hJ0 := net0_ok hE hF
  have hlen0 : (net0 n es fs).length = es.length + fs.length := by unfold net0; simp
  refine ACall_of tt_ok (dok _) Try.func14 rfl (by decide) rfl ?_
  (repeat' ((conv => whnf); first | left | refine OpsA.cons ?_ | refine OpsA.nil ?_ | refine AWq.seq ?_ | refine AWq.region ?_ | refine AWq.cond ?_ | refine AWq.block ?_ | refine AWq.skip ?_ | refine AWq.ret ?_ | refine AWq.exit ?_ | refine AWq.loop ?_ | refine DrawA.consD ?_ | refine DrawA.nil ?_ | refine AWq.draw (by decide +kernel) ?_ | (refine Both.mk ?_ ?_ <;> intro hc <;> (first | exact Bool.noConfusion hc | exact absurd (by with_reducible rfl) hc | (exfalso; omega) | skip)) | (intro c hc; (try (simp only [AH.none_iff] at hc; repeat (have hn := hc.1; replace hc := hc.2))); (first | (refine i64_k hc ?_ ?_ ?_ ; omega; omega; (clear hc; intro hc; subst hc)) | skip)) | (apply Exists.intro; apply And.intro; (first | (focus (repeat (first | (with_reducible assumption) | (with_reducible exact AH.set_same _ _ _) | ((first | refine AH.get_ne ?_ ?_); (first | (with_reducible assumption) | exact Ne.symm (by with_reducible assumption))))); done))) | (apply Exists.intro; apply And.intro; first | (with_reducible assumption) | ((try simp only [List.getElem?_drop, Nat.mul_one, Nat.add_zero, Nat.zero_add]); first | (with_reducible assumption) | rfl)) | (apply And.intro; (first | rfl | (with_reducible assumption) | exact Nat.le_of_ble_eq_true rfl | omega | (simp <;> omega) | (focus (repeat' (first | (with_reducible assumption) | rfl | apply one_take | apply one_drop)); done))))) <;> (try (conv => whnf))
  (obtain ⟨c6, hq_⟩ : ∃ c6, c6 = c := ⟨_, rfl⟩); subst hq_
  have hc6 : H c6 = none := hc
  refine Then.mk ?_
  (repeat' ((conv => whnf); first | refine Then.mk ?_ | left | refine OpsA.cons ?_ | refine OpsA.nil ?_ | refine AWq.seq ?_ | refine AWq.region ?_ | refine AWq.cond ?_ | refine AWq.block ?_ | refine AWq.skip ?_ | refine AWq.ret ?_ | refine AWq.exit ?_ | refine AWq.loop ?_ | refine DrawA.consD ?_ | refine DrawA.nil ?_ | refine AWq.draw (by decide +kernel) ?_ | (refine Both.mk ?_ ?_ <;> intro hc <;> (first | exact Bool.noConfusion hc | exact absurd (by with_reducible rfl) hc | (exfalso; omega) | skip)) | (intro c hc; (try (simp only [AH.none_iff] at hc; repeat (have hn := hc.1; replace hc := hc.2))); (first | (refine i64_k hc ?_ ?_ ?_ ; omega; omega; (clear hc; intro hc; subst hc)) | skip)) | (apply Exists.intro; apply And.intro; (first | (focus (repeat (first | (with_reducible assumption) | (with_reducible exact AH.set_same _ _ _) | ((first | refine AH.get_ne ?_ ?_); (first | (with_reducible assumption) | exact Ne.symm (by with_reducible assumption))))); done))) | (apply Exists.intro; apply And.intro; first | (with_reducible assumption) | ((try simp only [List.getElem?_drop, Nat.mul_one, Nat.add_zero, Nat.zero_add]); first | (with_reducible assumption) | rfl)) | (apply And.intro; (first | rfl | (with_reducible assumption) | exact Nat.le_of_ble_eq_true rfl | omega | (simp <;> omega) | (focus (repeat' (first | (with_reducible assumption) | rfl | apply one_take | apply one_drop)); done))) | (refine ACall.to (hv1 _) ?_))) <;> (try (conv => whnf))
  refine (start_c n (by omega) es fs he hf hE hF _).mono ?_
  rintro y H' ⟨g, ra, hg, hra, hgra, rfl, rfl⟩
  obtain ⟨A0, hA0⟩ : ∃ A0, A0 = net0 n es fs := ⟨_, rfl⟩
  rw [← hA0] at hJ0 hlen0 ⊢
  obtain ⟨S, hS⟩ : ∃ S, S = stH (H.set c6 (.row [.nils, .nils, .nils, .int .i64 0] 0)) n g ra A0 := ⟨_, rfl⟩
  have hSra : S ra = some (.row (acL A0) A0.length) := by rw [hS]; unfold stH; rw [AH.set_ne _ _ (Ne.symm hgra), AH.set_same]
  have hSg : S g = some (.row [.int .i64 n, .sl ra A0.length 5 0 A0.length none] 0) := by rw [hS]; unfold stH; rw [AH.set_same]
  (repeat' ((conv => whnf); first | left | refine OpsA.cons ?_ | refine OpsA.nil ?_ | refine AWq.seq ?_ | refine AWq.region ?_ | refine AWq.cond ?_ | refine AWq.block ?_ | refine AWq.skip ?_ | refine AWq.ret ?_ | refine AWq.exit ?_ | refine AWq.loop ?_ | refine DrawA.consD ?_ | refine DrawA.nil ?_ | refine AWq.draw (by decide +kernel) ?_ | (refine Both.mk ?_ ?_ <;> intro hc <;> (first | exact Bool.noConfusion hc | exact absurd (by with_reducible rfl) hc | (exfalso; omega) | skip)) | (intro c hc; (try (simp only [AH.none_iff] at hc; repeat (have hn := hc.1; replace hc := hc.2))); (first | (refine i64_k hc ?_ ?_ ?_ ; omega; omega; (clear hc; intro hc; subst hc)) | skip)) | (apply Exists.intro; apply And.intro; (first | (focus (repeat (first | (with_reducible assumption) | (with_reducible exact AH.set_same _ _ _) | ((first | refine AH.get_ne ?_ ?_); (first | (with_reducible assumption) | exact Ne.symm (by with_reducible assumption))))); done))) | (apply Exists.intro; apply And.intro; first | (with_reducible assumption) | ((try simp only [List.getElem?_drop, Nat.mul_one, Nat.add_zero, Nat.zero_add]); first | (with_reducible assumption) | rfl)) | (apply And.intro; (first | rfl | (with_reducible assumption) | exact Nat.le_of_ble_eq_true rfl | omega | (simp <;> omega) | (focus (repeat' (first | (with_reducible assumption) | rfl | apply one_take | apply one_drop)); done))))) <;> (try (conv => whnf))
  refine Then.mk (AWq.in ?_)
  refine AWp_less S (HLe.of_eq hS) ?_
  refine AWp.of tt_ok (dok _) rfl ?_
  (repeat' ((conv => whnf); first | refine Then.mk ?_ | left | refine OpsA.cons ?_ | refine OpsA.nil ?_ | refine AWq.seq ?_ | refine AWq.region ?_ | refine AWq.cond ?_ | refine AWq.block ?_ | refine AWq.skip ?_ | refine AWq.ret ?_ | refine AWq.exit ?_ | refine AWq.loop ?_ | refine DrawA.consD ?_ | refine DrawA.nil ?_ | refine AWq.draw (by decide +kernel) ?_ | (refine Both.mk ?_ ?_ <;> intro hc <;> (first | exact Bool.noConfusion hc | exact absurd (by with_reducible rfl) hc | (exfalso; omega) | skip)) | (intro c hc; (try (simp only [AH.none_iff] at hc; repeat (have hn := hc.1; replace hc := hc.2))); (first | (refine i64_k hc ?_ ?_ ?_ ; omega; omega; (clear hc; intro hc; subst hc)) | skip)) | (apply Exists.intro; apply And.intro; (first | (focus (repeat (first | (with_reducible assumption) | (with_reducible exact AH.set_same _ _ _) | ((first | refine AH.get_ne ?_ ?_); (first | (with_reducible assumption) | exact Ne.symm (by with_reducible assumption))))); done))) | (apply Exists.intro; apply And.intro; first | (with_reducible assumption) | ((try simp only [List.getElem?_drop, Nat.mul_one, Nat.add_zero, Nat.zero_add]); first | (with_reducible assumption) | rfl)) | (apply And.intro; (first | rfl | (with_reducible assumption) | exact Nat.le_of_ble_eq_true rfl | omega | (simp <;> omega) | (focus (repeat' (first | (with_reducible assumption) | rfl | apply one_take | apply one_drop)); done))))) <;> (try (conv => whnf))
  refine AWp_loop (σ := List Ac) (10 :: 11 :: 30 :: 31 :: 32 :: 33 :: 34 :: 35 :: 36 :: 37 :: 38 :: 39 :: []) (fun A => []) (fun A => S.set ra (.row (acL A) A0.length)) (fun A => J n A ∧ Alk A0 A) (fun A => posN A n) A0 rfl ⟨hJ0, Alk.refl _⟩ trivial (HLe.of_eq (AH.set_id hSra)) ?_
  rintro A ⟨hJ, hal⟩
  refine AWp.of tt_ok (dok _) rfl ?_
  dsimp only
  have hlA := hal.len
  have hNet : NetAt (S.set ra (.row (acL A) A0.length)) n A g 0 ra A0.length none := ⟨by rw [AH.set_ne _ _ hgra, hlA]; exact hSg, AH.set_same _ _ _, hgra⟩
  have hnet := net_c n (by omega) A hJ.ok (by omega) _ g 0 ra A0.length none hNet
  have hix := index0_c (fun x => decide (0 < x)) 39 (fnL (n + 1) (netN A)) (by simp; omega) (S.set ra (.row (acL A) A0.length)) (fun x _ => sol1_c x _)
  rw [fnL_len] at hix
  (repeat' ((conv => whnf); first | refine Then.mk ?_ | left | refine OpsA.cons ?_ | refine OpsA.nil ?_ | refine AWq.seq ?_ | refine AWq.region ?_ | refine AWq.cond ?_ | refine AWq.block ?_ | refine AWq.skip ?_ | refine AWq.ret ?_ | refine AWq.exit ?_ | refine AWq.loop ?_ | refine DrawA.consD ?_ | refine DrawA.nil ?_ | refine AWq.draw (by decide +kernel) ?_ | (refine Both.mk ?_ ?_ <;> intro hc <;> (first | exact Bool.noConfusion hc | exact absurd (by with_reducible rfl) hc | (exfalso; omega) | skip)) | (intro c hc; (try (simp only [AH.none_iff] at hc; repeat (have hn := hc.1; replace hc := hc.2))); (first | (refine i64_k hc ?_ ?_ ?_ ; omega; omega; (clear hc; intro hc; subst hc)) | skip)) | (apply Exists.intro; apply And.intro; (first | (focus (repeat (first | (with_reducible assumption) | (with_reducible exact AH.set_same _ _ _) | ((first | refine AH.get_ne ?_ ?_); (first | (with_reducible assumption) | exact Ne.symm (by with_reducible assumption))))); done))) | (apply Exists.intro; apply And.intro; first | (with_reducible assumption) | ((try simp only [List.getElem?_drop, Nat.mul_one, Nat.add_zero, Nat.zero_add]); first | (with_reducible assumption) | rfl)) | (apply And.intro; (first | rfl | (with_reducible assumption) | exact Nat.le_of_ble_eq_true rfl | omega | (simp <;> omega) | (focus (repeat' (first | (with_reducible assumption) | rfl | apply one_take | apply one_drop)); done))) | (refine ACall.to (hnet) ?_))) <;> (try (conv => whnf))
  refine ACall.mono hix ?_
  rintro y H' ⟨k, hk, rfl, rfl⟩
  clear hnet hix
  rcases hk with ⟨rfl, hno⟩ | ⟨i, hi, rfl, hpos⟩
  · have hnp : ∀ v, v ≤ n → netN A v ≤ 0 := fun v hv => by
      have := hno (netN A v) (List.mem_map.2 ⟨v, by simp; omega, rfl⟩)
      have := of_decide_eq_false this
      omega
    have hnz := net_zero hJ.ok hnp
    obtain ⟨F, hF0⟩ : ∃ F, F = S.set ra (.row (acL A) A0.length) := ⟨_, rfl⟩
    rw [← hF0] at hNet ⊢
    obtain ⟨hFg, hFa, _⟩ := id hNet
    have hF6 : F c6 = some (.row [.nils, .nils, .nils, .int .i64 0] 0) := by
      have h1 := AH.none_set hg
      have h2 := AH.none_set hra
      rw [hF0, hS]; unfold stH
      rw [AH.set_ne _ _ (Ne.symm h2.1), AH.set_ne _ _ (Ne.symm h1.1), AH.set_ne _ _ (Ne.symm h2.1), AH.set_same]
    have hHF : HLe (H.set c6 (.row [.nils, .nils, .nils, .int .i64 0] 0)) F := by
      rw [hF0, hS]; unfold stH
      exact HLe.set_of _ _ (HLe.set_of _ _ (HLe.set_of _ _ (HLe.refl _) hra) hg) hra
    (repeat' ((conv => whnf); first | refine Then.mk ?_ | left | refine OpsA.cons ?_ | refine OpsA.nil ?_ | refine AWq.seq ?_ | refine AWq.region ?_ | refine AWq.cond ?_ | refine AWq.block ?_ | refine AWq.skip ?_ | refine AWq.ret ?_ | refine AWq.exit ?_ | refine AWq.loop ?_ | refine DrawA.consD ?_ | refine DrawA.nil ?_ | refine AWq.draw (by decide +kernel) ?_ | (refine Both.mk ?_ ?_ <;> intro hc <;> (first | exact Bool.noConfusion hc | exact absurd (by with_reducible rfl) hc | (exfalso; omega) | skip)) | (intro c hc; (try (simp only [AH.none_iff] at hc; repeat (have hn := hc.1; replace hc := hc.2))); (first | (refine i64_k hc ?_ ?_ ?_ ; omega; omega; (clear hc; intro hc; subst hc)) | skip)) | (apply Exists.intro; apply And.intro; (first | (focus (repeat (first | (with_reducible assumption) | (with_reducible exact AH.set_same _ _ _) | ((first | refine AH.get_ne ?_ ?_); (first | (with_reducible assumption) | exact Ne.symm (by with_reducible assumption))))); done))) | (apply Exists.intro; apply And.intro; first | (with_reducible assumption) | ((try simp only [List.getElem?_drop, Nat.mul_one, Nat.add_zero, Nat.zero_add]); first | (with_reducible assumption) | rfl)) | (apply And.intro; (first | rfl | (with_reducible assumption) | exact Nat.le_of_ble_eq_true rfl | omega | (simp <;> omega) | (focus (repeat' (first | (with_reducible assumption) | rfl | apply one_take | apply one_drop)); done))))) <;> (try (conv => whnf))
    (obtain ⟨r12, hq_⟩ : ∃ r12, r12 = c := ⟨_, rfl⟩); subst hq_
    have h12 : F r12 = none := hc
    have n12g : g ≠ r12 := AH.none_ne' h12 hFg
    have n12a : ra ≠ r12 := AH.none_ne' h12 hFa
    refine ACall.less (H' := F.set r12 (.row (dL (n + 1) fun _ => 0) 0)) (HLe.of_eq (by rw [← dL_zero, show n + 1 = ((n : Int) + 1).toNat by omega])) ?_
    have hdist := dist0_c n (by omega) A hJ (by omega) (F.set r12 (.row (dL (n + 1) fun _ => 0) 0)) g 0 ra A0.length none ⟨by (first | (focus (repeat (first | (with_reducible assumption) | (with_reducible exact AH.set_same _ _ _) | ((first | refine AH.get_ne ?_ ?_); (first | (with_reducible assumption) | exact Ne.symm (by with_reducible assumption))))); done)), by (first | (focus (repeat (first | (with_reducible assumption) | (with_reducible exact AH.set_same _ _ _) | ((first | refine AH.get_ne ?_ ?_); (first | (with_reducible assumption) | exact Ne.symm (by with_reducible assumption))))); done)), hgra⟩ r12 (AH.set_same _ _ _) (Ne.symm n12g) (Ne.symm n12a)
    refine ACall.mono hdist ?_
    clear hdist
    rintro y H' ⟨σ, rs, ⟨hfe, hmx, hbd⟩, hrs, rfl, rfl⟩
    obtain ⟨hrs12, hFrs⟩ := AH.none_set hrs
    unfold dsH
    rw [AH.set_set]
    generalize hd : σ.d = d at *
    (repeat' ((conv => whnf); first | left | refine OpsA.cons ?_ | refine OpsA.nil ?_ | refine AWq.seq ?_ | refine AWq.region ?_ | refine AWq.cond ?_ | refine AWq.block ?_ | refine AWq.skip ?_ | refine AWq.ret ?_ | refine AWq.exit ?_ | refine AWq.loop ?_ | refine DrawA.consD ?_ | refine DrawA.nil ?_ | refine AWq.draw (by decide +kernel) ?_ | (refine Both.mk ?_ ?_ <;> intro hc <;> (first | exact Bool.noConfusion hc | exact absurd (by with_reducible rfl) hc | (exfalso; omega) | skip)) | (intro c hc; (try (simp only [AH.none_iff] at hc; repeat (have hn := hc.1; replace hc := hc.2))); (first | (refine i64_k hc ?_ ?_ ?_ ; omega; omega; (clear hc; intro hc; subst hc)) | skip)) | (apply Exists.intro; apply And.intro; (first | (focus (repeat (first | (with_reducible assumption) | (with_reducible exact AH.set_same _ _ _) | ((first | refine AH.get_ne ?_ ?_); (first | (with_reducible assumption) | exact Ne.symm (by with_reducible assumption))))); done))) | (apply Exists.intro; apply And.intro; first | (with_reducible assumption) | ((try simp only [List.getElem?_drop, Nat.mul_one, Nat.add_zero, Nat.zero_add]); first | (with_reducible assumption) | rfl)) | (apply And.intro; (first | rfl | (with_reducible assumption) | exact Nat.le_of_ble_eq_true rfl | omega | (simp <;> omega) | (focus (repeat' (first | (with_reducible assumption) | rfl | apply one_take | apply one_drop)); done))))) <;> (try (conv => whnf))
    refine Then.mk (AWq.in ?_)
    refine AWp_freeze1 12 (r := r12) (v := 0) (es := 1) (n := n + 1) (lim := none) (cells := dL (n + 1) d) rfl rfl (by (first | (focus (repeat (first | (with_reducible assumption) | (with_reducible exact AH.set_same _ _ _) | ((first | refine AH.get_ne ?_ ?_); (first | (with_reducible assumption) | exact Ne.symm (by with_reducible assumption))))); done))) (by simp) ?_
    refine AWp_less F ?_ ?_
    · refine HLe.del _ (HLe.set_of _ _ (HLe.fresh _ h12) hFrs) h12
    refine AWp.of tt_ok (dok _) rfl ?_
    (repeat' ((conv => whnf); first | refine Then.mk ?_ | left | refine OpsA.cons ?_ | refine OpsA.nil ?_ | refine AWq.seq ?_ | refine AWq.region ?_ | refine AWq.cond ?_ | refine AWq.block ?_ | refine AWq.skip ?_ | refine AWq.ret ?_ | refine AWq.exit ?_ | refine AWq.loop ?_ | refine DrawA.consD ?_ | refine DrawA.nil ?_ | refine AWq.draw (by decide +kernel) ?_ | (refine Both.mk ?_ ?_ <;> intro hc <;> (first | exact Bool.noConfusion hc | exact absurd (by with_reducible rfl) hc | (exfalso; omega) | skip)) | (intro c hc; (try (simp only [AH.none_iff] at hc; repeat (have hn := hc.1; replace hc := hc.2))); (first | (refine i64_k hc ?_ ?_ ?_ ; omega; omega; (clear hc; intro hc; subst hc)) | skip)) | (apply Exists.intro; apply And.intro; (first | (focus (repeat (first | (with_reducible assumption) | (with_reducible exact AH.set_same _ _ _) | ((first | refine AH.get_ne ?_ ?_); (first | (with_reducible assumption) | exact Ne.symm (by with_reducible assumption))))); done))) | (apply Exists.intro; apply And.intro; first | (with_reducible assumption) | ((try simp only [List.getElem?_drop, Nat.mul_one, Nat.add_zero, Nat.zero_add]); first | (with_reducible assumption) | rfl)) | (apply And.intro; (first | rfl | (with_reducible assumption) | exact Nat.le_of_ble_eq_true rfl | omega | (simp <;> omega) | (focus (repeat' (first | (with_reducible assumption) | rfl | apply one_take | apply one_drop)); done))))) <;> (try (conv => whnf))
    refine ACall.mono (bases_c n (by omega) A hJ.ok (by omega) F g 0 ra A0.length none hNet) ?_
    rintro y H' ⟨o, r13, hBI, hoe, h13, rfl, rfl⟩
    have hSv : Sv n es fs A d o := ⟨by rw [← hA0]; exact hal, hJ.ok, hnz, hfe, fun v hv => (hbd v hv).1, fun v hv => (hbd v hv).2, hmx, hBI, hoe⟩
    (repeat' ((conv => whnf); first | left | refine OpsA.cons ?_ | refine OpsA.nil ?_ | refine AWq.seq ?_ | refine AWq.region ?_ | refine AWq.cond ?_ | refine AWq.block ?_ | refine AWq.skip ?_ | refine AWq.ret ?_ | refine AWq.exit ?_ | refine AWq.loop ?_ | refine DrawA.consD ?_ | refine DrawA.nil ?_ | refine AWq.draw (by decide +kernel) ?_ | (refine Both.mk ?_ ?_ <;> intro hc <;> (first | exact Bool.noConfusion hc | exact absurd (by with_reducible rfl) hc | (exfalso; omega) | skip)) | (intro c hc; (try (simp only [AH.none_iff] at hc; repeat (have hn := hc.1; replace hc := hc.2))); (first | (refine i64_k hc ?_ ?_ ?_ ; omega; omega; (clear hc; intro hc; subst hc)) | skip)) | (apply Exists.intro; apply And.intro; (first | (focus (repeat (first | (with_reducible assumption) | (with_reducible exact AH.set_same _ _ _) | ((first | refine AH.get_ne ?_ ?_); (first | (with_reducible assumption) | exact Ne.symm (by with_reducible assumption))))); done))) | (apply Exists.intro; apply And.intro; first | (with_reducible assumption) | ((try simp only [List.getElem?_drop, Nat.mul_one, Nat.add_zero, Nat.zero_add]); first | (with_reducible assumption) | rfl)) | (apply And.intro; (first | rfl | (with_reducible assumption) | exact Nat.le_of_ble_eq_true rfl | omega | (simp <;> omega) | (focus (repeat' (first | (with_reducible assumption) | rfl | apply one_take | apply one_drop)); done))))) <;> (try (conv => whnf))
    refine Then.mk (AWq.in ?_)
    refine AWp_freeze1 13 (r := r13) (v := 0) (es := 1) (n := n + 1) (lim := none) (cells := dL (n + 1) (bsN n o)) rfl rfl (by (first | (focus (repeat (first | (with_reducible assumption) | (with_reducible exact AH.set_same _ _ _) | ((first | refine AH.get_ne ?_ ?_); (first | (with_reducible assumption) | exact Ne.symm (by with_reducible assumption))))); done))) (by simp) ?_
    rw [AH.del_set _ _ _ h13]
    refine AWp.of tt_ok (dok _) rfl ?_
    (repeat' ((conv => whnf); first | left | refine OpsA.cons ?_ | refine OpsA.nil ?_ | refine AWq.seq ?_ | refine AWq.region ?_ | refine AWq.cond ?_ | refine AWq.block ?_ | refine AWq.skip ?_ | refine AWq.ret ?_ | refine AWq.exit ?_ | refine AWq.loop ?_ | refine DrawA.consD ?_ | refine DrawA.nil ?_ | refine AWq.draw (by decide +kernel) ?_ | (refine Both.mk ?_ ?_ <;> intro hc <;> (first | exact Bool.noConfusion hc | exact absurd (by with_reducible rfl) hc | (exfalso; omega) | skip)) | (intro c hc; (try (simp only [AH.none_iff] at hc; repeat (have hn := hc.1; replace hc := hc.2))); (first | (refine i64_k hc ?_ ?_ ?_ ; omega; omega; (clear hc; intro hc; subst hc)) | skip)) | (apply Exists.intro; apply And.intro; (first | (focus (repeat (first | (with_reducible assumption) | (with_reducible exact AH.set_same _ _ _) | ((first | refine AH.get_ne ?_ ?_); (first | (with_reducible assumption) | exact Ne.symm (by with_reducible assumption))))); done))) | (apply Exists.intro; apply And.intro; first | (with_reducible assumption) | ((try simp only [List.getElem?_drop, Nat.mul_one, Nat.add_zero, Nat.zero_add]); first | (with_reducible assumption) | rfl)) | (apply And.intro; (first | rfl | (with_reducible assumption) | exact Nat.le_of_ble_eq_true rfl | omega | (simp <;> omega) | (focus (repeat' (first | (with_reducible assumption) | rfl | apply one_take | apply one_drop)); done))))) <;> (try (conv => whnf))
    (obtain ⟨c14, hq_⟩ : ∃ c14, c14 = c := ⟨_, rfl⟩); subst hq_
    have h14 : F c14 = none := hc
    have n146 : c6 ≠ c14 := AH.none_ne' h14 hF6
    have n14g : g ≠ c14 := AH.none_ne' h14 hFg
    have n14a : ra ≠ c14 := AH.none_ne' h14 hFa
    refine Then.mk (AWq.in ?_)
    refine AWp_nilC (p := c14) 1 [] [.nils, .nils, .int .i64 0] (AH.set_same _ _ _) fun r1 hr1 n1 => ?_
    obtain ⟨_, hr1⟩ := AH.none_set hr1
    refine AWp_nilC (p := c14) 1 [.sl r1 0 1 0 0 none] [.nils, .int .i64 0] (AH.set_same _ _ _) fun r2 hr2 n2 => ?_
    obtain ⟨_, hr2⟩ := AH.none_set hr2
    obtain ⟨n21, hr2⟩ := AH.none_set hr2
    obtain ⟨_, hr2⟩ := AH.none_set hr2
    refine AWp_nilC (p := c14) 1 [.sl r1 0 1 0 0 none, .sl r2 0 1 0 0 none] [.int .i64 0] (AH.set_same _ _ _) fun r3 hr3 n3 => ?_
    obtain ⟨_, hr3⟩ := AH.none_set hr3
    obtain ⟨n32, hr3⟩ := AH.none_set hr3
    obtain ⟨_, hr3⟩ := AH.none_set hr3
    obtain ⟨n31, hr3⟩ := AH.none_set hr3
    obtain ⟨_, hr3⟩ := AH.none_set hr3
    have hD : AnD r1 r2 r3 c14 := ⟨Ne.symm n21, Ne.symm n31, Ne.symm n32, n1, n2, n3⟩
    refine AWp_less (anH F r1 r2 r3 c14 [] [] []) (HLe.of_eq (anH_0 hD)) ?_
    refine AWp.of tt_ok (dok _) rfl ?_
    have k6 : ∀ l1 l2 l3, anH F r1 r2 r3 c14 l1 l2 l3 c6 = some (.row [.nils, .nils, .nils, .int .i64 0] 0) := fun l1 l2 l3 => by
      unfold anH; rw [AH.set_ne _ _ n146, AH.set_ne _ _ (AH.none_ne' hr3 hF6), AH.set_ne _ _ (AH.none_ne' hr2 hF6), AH.set_ne _ _ (AH.none_ne' hr1 hF6)]; exact hF6
    have kg : ∀ l1 l2 l3, anH F r1 r2 r3 c14 l1 l2 l3 g = some (.row [.int .i64 n, .sl ra A0.length 5 0 A.length none] 0) := fun l1 l2 l3 => by
      unfold anH; rw [AH.set_ne _ _ n14g, AH.set_ne _ _ (AH.none_ne' hr3 hFg), AH.set_ne _ _ (AH.none_ne' hr2 hFg), AH.set_ne _ _ (AH.none_ne' hr1 hFg)]; exact hFg
    have ka : ∀ l1 l2 l3, anH F r1 r2 r3 c14 l1 l2 l3 ra = some (.row (acL A) A0.length) := fun l1 l2 l3 => by
      unfold anH; rw [AH.set_ne _ _ n14a, AH.set_ne _ _ (AH.none_ne' hr3 hFa), AH.set_ne _ _ (AH.none_ne' hr2 hFa), AH.set_ne _ _ (AH.none_ne' hr1 hFa)]; exact hFa
    have k14 : ∀ l1 l2 l3, anH F r1 r2 r3 c14 l1 l2 l3 c14 = some (.row [.sl r1 l1.length 1 0 l1.length none, .sl r2 l2.length 1 0 l2.length none, .sl r3 l3.length 1 0 l3.length none, .int .i64 0] 0) := fun l1 l2 l3 => AH.set_same _ _ _
    have k1 : ∀ l1 l2 l3, anH F r1 r2 r3 c14 l1 l2 l3 r1 = some (.row (iS .i64 l1) l1.length) := fun l1 l2 l3 => by
      unfold anH; rw [AH.set_ne _ _ n1, AH.set_ne _ _ hD.a, AH.set_ne _ _ hD.b, AH.set_same]
    have k2 : ∀ l1 l2 l3, anH F r1 r2 r3 c14 l1 l2 l3 r2 = some (.row (iS .i64 l2) l2.length) := fun l1 l2 l3 => by
      unfold anH; rw [AH.set_ne _ _ n2, AH.set_ne _ _ (Ne.symm n32), AH.set_same]
    have k3 : ∀ l1 l2 l3, anH F r1 r2 r3 c14 l1 l2 l3 r3 = some (.row (iS .i64 l3) l3.length) := fun l1 l2 l3 => by
      unfold anH; rw [AH.set_ne _ _ n3, AH.set_same]
    have hil := fun l : List Int => iS_length .i64 l
    (repeat' ((conv => whnf); first | refine Then.mk ?_ | left | refine OpsA.cons ?_ | refine OpsA.nil ?_ | refine AWq.seq ?_ | refine AWq.region ?_ | refine AWq.cond ?_ | refine AWq.block ?_ | refine AWq.skip ?_ | refine AWq.ret ?_ | refine AWq.exit ?_ | refine AWq.loop ?_ | refine DrawA.consD ?_ | refine DrawA.nil ?_ | refine AWq.draw (by decide +kernel) ?_ | (refine Both.mk ?_ ?_ <;> intro hc <;> (first | exact Bool.noConfusion hc | exact absurd (by with_reducible rfl) hc | (exfalso; omega) | skip)) | (intro c hc; (try (simp only [AH.none_iff] at hc; repeat (have hn := hc.1; replace hc := hc.2))); (first | (refine i64_k hc ?_ ?_ ?_ ; omega; omega; (clear hc; intro hc; subst hc)) | skip)) | (apply Exists.intro; apply And.intro; (first | (focus (repeat (first | (with_reducible assumption) | (with_reducible exact AH.set_same _ _ _) | ((first | refine AH.get_ne ?_ ?_); (first | (with_reducible assumption) | exact Ne.symm (by with_reducible assumption))))); done))) | (apply Exists.intro; apply And.intro; first | (with_reducible assumption) | ((try simp only [List.getElem?_drop, Nat.mul_one, Nat.add_zero, Nat.zero_add]); first | (with_reducible assumption) | rfl)) | (apply And.intro; (first | rfl | (with_reducible assumption) | exact Nat.le_of_ble_eq_true rfl | omega | (simp <;> omega) | (focus (repeat' (first | (with_reducible assumption) | rfl | apply one_take | apply one_drop)); done))))) <;> (try (conv => whnf))
    refine AWp_loop (σ := Nat) (15 :: 49 :: 50 :: 51 :: 52 :: 53 :: 54 :: 55 :: 56 :: 57 :: 58 :: 59 :: 60 :: 61 :: 62 :: 63 :: 64 :: 65 :: 66 :: 67 :: 68 :: 69 :: []) (fun i => [(49, .int .i64 i)]) (fun i => anH F r1 r2 r3 c14 (fnL i (offS n d o)) [] []) (fun i => i ≤ n) (fun i => n - i) 0 rfl (Nat.zero_le _) ⟨rfl, trivial⟩ (HLe.refl _) ?_
    intro i hi
    refine AWp.of tt_ok (dok _) rfl ?_
    dsimp only at hi ⊢
    by_cases hilt : i < n
    · have hb1 := hbd i (by omega)
      have hlo := hBI.lo i (by omega)
      have hup := hBI.up i (by omega)
      have hbn : 0 ≤ bsN n o i ∧ bsN n o i ≤ n := by unfold bsN; split <;> omega
      have hb2 := hbd (bsN n o i).toNat (by omega)
      have gi := dL_getZ (n := n + 1) d (show i < n + 1 by omega)
      have gb := dL_getZ (n := n + 1) (bsN n o) (show i < n + 1 by omega)
      have gd : (dL (n + 1) d)[(bsN n o i).toNat]? = some (.int .i64 (d (bsN n o i).toNat)) := dL_get d (by omega)
      have hl1 := dL_len (n + 1) d
      have hl2 := dL_len (n + 1) (bsN n o)
      have hK14 := k14 (fnL i (offS n d o)) [] []
      have hK1 := k1 (fnL i (offS n d o)) [] []
      have hll := hil (fnL i (offS n d o))
      have hfl : (fnL i (offS n d o)).length = i := by simp
      have hst := anH_1 (F := F) hD (fnL i (offS n d o)) [] [] (offS n d o i)
      rw [← fnL_snoc] at hst
      have hoff : offS n d o i = d i - d (bsN n o i).toNat := rfl
      rw [hoff] at hst
      generalize bsN n o i = bi at *
      generalize d bi.toNat = db at *
      generalize d i = di at *
      generalize hG1 : anH F r1 r2 r3 c14 (fnL i (offS n d o)) [] [] = G1 at *
      generalize hG2 : anH F r1 r2 r3 c14 (fnL (i + 1) (offS n d o)) [] [] = G2 at *
      (repeat' ((conv => whnf); first | refine Then.mk ?_ | left | refine OpsA.cons ?_ | refine OpsA.nil ?_ | refine AWq.seq ?_ | refine AWq.region ?_ | refine AWq.cond ?_ | refine AWq.block ?_ | refine AWq.skip ?_ | refine AWq.ret ?_ | refine AWq.exit ?_ | refine AWq.loop ?_ | refine DrawA.consD ?_ | refine DrawA.nil ?_ | refine AWq.draw (by decide +kernel) ?_ | (refine Both.mk ?_ ?_ <;> intro hc <;> (first | exact Bool.noConfusion hc | exact absurd (by with_reducible rfl) hc | (exfalso; omega) | skip)) | (intro c hc; (try (simp only [AH.none_iff] at hc; repeat (have hn := hc.1; replace hc := hc.2))); (first | (refine i64_k hc ?_ ?_ ?_ ; omega; omega; (clear hc; intro hc; subst hc)) | skip)) | (apply Exists.intro; apply And.intro; (first | (focus (repeat (first | (with_reducible assumption) | (with_reducible exact AH.set_same _ _ _) | ((first | refine AH.get_ne ?_ ?_); (first | (with_reducible assumption) | exact Ne.symm (by with_reducible assumption))))); done))) | (apply Exists.intro; apply And.intro; first | (with_reducible assumption) | ((try simp only [List.getElem?_drop, Nat.mul_one, Nat.add_zero, Nat.zero_add]); first | (with_reducible assumption) | rfl)) | (apply And.intro; (first | rfl | (with_reducible assumption) | exact Nat.le_of_ble_eq_true rfl | omega | (simp <;> omega) | (focus (repeat' (first | (with_reducible assumption) | rfl | apply one_take | apply one_drop)); done))))) <;> (try (conv => whnf))
      exact ⟨i + 1, hilt, by omega, ⟨congrArg (AV.int .i64) (by omega), trivial⟩, HLe.of_eq (hG2.trans hst)⟩
    · have hie : i = n := by omega
      rw [hie]
      clear hi hie
      obtain ⟨offs, hoffs⟩ : ∃ offs, offs = fnL n (offS n d o) := ⟨_, rfl⟩
      have hofl : offs.length = n := by rw [hoffs]; simp
      rw [← hoffs]
      have hcl := acL_len A
      have ho := acL_one A
      have kg1 := kg offs [] []
      (repeat' ((conv => whnf); first | refine Then.mk ?_ | left | refine OpsA.cons ?_ | refine OpsA.nil ?_ | refine AWq.seq ?_ | refine AWq.region ?_ | refine AWq.cond ?_ | refine AWq.block ?_ | refine AWq.skip ?_ | refine AWq.ret ?_ | refine AWq.exit ?_ | refine AWq.loop ?_ | refine DrawA.consD ?_ | refine DrawA.nil ?_ | refine AWq.draw (by decide +kernel) ?_ | (refine Both.mk ?_ ?_ <;> intro hc <;> (first | exact Bool.noConfusion hc | exact absurd (by with_reducible rfl) hc | (exfalso; omega) | skip)) | (intro c hc; (try (simp only [AH.none_iff] at hc; repeat (have hn := hc.1; replace hc := hc.2))); (first | (refine i64_k hc ?_ ?_ ?_ ; omega; omega; (clear hc; intro hc; subst hc)) | skip)) | (apply Exists.intro; apply And.intro; (first | (focus (repeat (first | (with_reducible assumption) | (with_reducible exact AH.set_same _ _ _) | ((first | refine AH.get_ne ?_ ?_); (first | (with_reducible assumption) | exact Ne.symm (by with_reducible assumption))))); done))) | (apply Exists.intro; apply And.intro; first | (with_reducible assumption) | ((try simp only [List.getElem?_drop, Nat.mul_one, Nat.add_zero, Nat.zero_add]); first | (with_reducible assumption) | rfl)) | (apply And.intro; (first | rfl | (with_reducible assumption) | exact Nat.le_of_ble_eq_true rfl | omega | (simp <;> omega) | (focus (repeat' (first | (with_reducible assumption) | rfl | apply one_take | apply one_drop)); done))))) <;> (try (conv => whnf))
      refine AWp_loop (σ := Nat) (16 :: 17 :: 75 :: 76 :: 77 :: 78 :: 79 :: 80 :: 81 :: 82 :: 83 :: 84 :: 85 :: 86 :: 87 :: 88 :: 89 :: 90 :: 91 :: 92 :: 93 :: 94 :: 95 :: 96 :: 97 :: 98 :: []) (fun i => [(75, .int .i64 i)]) (fun i => anH F r1 r2 r3 c14 offs (flE es (A.take i)) (flF es (A.take i))) (fun i => i ≤ A.length) (fun i => A.length - i) 0 rfl (Nat.zero_le _) ⟨rfl, trivial⟩ (HLe.of_eq (by simp [flE, flF])) ?_
      intro j hj
      refine AWp.of tt_ok (dok _) rfl ?_
      dsimp only at hj ⊢
      by_cases hjlt : j < A.length
      · obtain ⟨x, hx⟩ : ∃ x, A[j]? = some x := ⟨_, List.getElem?_eq_getElem hjlt⟩
        have ka1 := ka offs (flE es (A.take j)) (flF es (A.take j))
        have kc1 := k14 offs (flE es (A.take j)) (flF es (A.take j))
        have kr2 := k2 offs (flE es (A.take j)) (flF es (A.take j))
        have kr3 := k3 offs (flE es (A.take j)) (flF es (A.take j))
        have hl2 := hil (flE es (A.take j))
        have hl3 := hil (flF es (A.take j))
        have hlE : (flE es (A.take j)).length ≤ 100000 := by unfold flE; rw [List.length_map, List.length_take, List.length_take]; omega
        have hlF : (flF es (A.take j)).length ≤ 100000 := by unfold flF; rw [List.length_map, List.length_drop, List.length_take]; omega
        have hst2 := anH_2 (F := F) hD offs (flE es (A.take j)) (flF es (A.take j)) x.f
        have hst3 := anH_3 (F := F) hD offs (flE es (A.take j)) (flF es (A.take j)) x.f
        by_cases hje : j < es.length
        · have e2 : flE es (A.take (j + 1)) = flE es (A.take j) ++ [x.f] := by
            unfold flE; rw [List.take_take, List.take_take, Nat.min_eq_right (by omega), Nat.min_eq_right (by omega), take_snoc hx]; simp
          have e3 : flF es (A.take (j + 1)) = flF es (A.take j) := by
            unfold flF; rw [List.drop_of_length_le (by rw [List.length_take]; omega), List.drop_of_length_le (by rw [List.length_take]; omega)]
          rw [← e2] at hst2
          have hst : anH F r1 r2 r3 c14 offs (flE es (A.take (j + 1))) (flF es (A.take (j + 1))) = _ := (congrArg (anH F r1 r2 r3 c14 offs (flE es (A.take (j + 1)))) e3).trans hst2
          clear hst3 hst2
          generalize hG1 : anH F r1 r2 r3 c14 offs (flE es (A.take j)) (flF es (A.take j)) = G1 at *
          generalize hG2 : anH F r1 r2 r3 c14 offs (flE es (A.take (j + 1))) (flF es (A.take (j + 1))) = G2 at *
          (iterate 3 ((repeat' ((conv => whnf); first | left | refine OpsA.cons ?_ | refine OpsA.nil ?_ | refine AWq.seq ?_ | refine AWq.region ?_ | refine AWq.cond ?_ | refine AWq.block ?_ | refine AWq.skip ?_ | refine AWq.ret ?_ | refine AWq.exit ?_ | refine AWq.loop ?_ | refine DrawA.consD ?_ | refine DrawA.nil ?_ | refine AWq.draw (by decide +kernel) ?_ | (refine Both.mk ?_ ?_ <;> intro hc <;> (first | exact Bool.noConfusion hc | exact absurd (by with_reducible rfl) hc | (exfalso; omega) | skip)) | (intro c hc; (try (simp only [AH.none_iff] at hc; repeat (have hn := hc.1; replace hc := hc.2))); (first | (refine i64_k hc ?_ ?_ ?_ ; omega; omega; (clear hc; intro hc; subst hc)) | skip)) | (apply Exists.intro; apply And.intro; (first | (focus (repeat (first | (with_reducible assumption) | (with_reducible exact AH.set_same _ _ _) | ((first | refine AH.get_ne ?_ ?_); (first | (with_reducible assumption) | exact Ne.symm (by with_reducible assumption))))); done))) | (apply Exists.intro; apply And.intro; first | (with_reducible assumption) | ((try simp only [List.getElem?_drop, Nat.mul_one, Nat.add_zero, Nat.zero_add]); first | (with_reducible assumption) | rfl)) | (apply And.intro; (first | rfl | (with_reducible assumption) | exact Nat.le_of_ble_eq_true rfl | omega | (simp <;> omega) | (focus (repeat' (first | (with_reducible assumption) | rfl | apply one_take | apply one_drop)); done))))) <;> (try (conv => whnf)); refine Then.mk ?_))
          refine AWq.in ?_
          refine AWp_segP 17 (acA x) rfl rfl (by (first | assumption | (simp only [AH.none_iff]; (repeat' (first | assumption | (refine And.intro ?_ ?_)))))) (acL_segZ hx) rfl ?_
          refine AWp.of tt_ok (dok _) rfl ?_
          (repeat' ((conv => whnf); first | refine Then.mk ?_ | left | refine OpsA.cons ?_ | refine OpsA.nil ?_ | refine AWq.seq ?_ | refine AWq.region ?_ | refine AWq.cond ?_ | refine AWq.block ?_ | refine AWq.skip ?_ | refine AWq.ret ?_ | refine AWq.exit ?_ | refine AWq.loop ?_ | refine DrawA.consD ?_ | refine DrawA.nil ?_ | refine AWq.draw (by decide +kernel) ?_ | (refine Both.mk ?_ ?_ <;> intro hc <;> (first | exact Bool.noConfusion hc | exact absurd (by with_reducible rfl) hc | (exfalso; omega) | skip)) | (intro c hc; (try (simp only [AH.none_iff] at hc; repeat (have hn := hc.1; replace hc := hc.2))); (first | (refine i64_k hc ?_ ?_ ?_ ; omega; omega; (clear hc; intro hc; subst hc)) | skip)) | (apply Exists.intro; apply And.intro; (first | (focus (repeat (first | (with_reducible assumption) | (with_reducible exact AH.set_same _ _ _) | ((first | refine AH.get_ne ?_ ?_); (first | (with_reducible assumption) | exact Ne.symm (by with_reducible assumption))))); done))) | (apply Exists.intro; apply And.intro; first | (with_reducible assumption) | ((try simp only [List.getElem?_drop, Nat.mul_one, Nat.add_zero, Nat.zero_add]); first | (with_reducible assumption) | rfl)) | (apply And.intro; (first | rfl | (with_reducible assumption) | exact Nat.le_of_ble_eq_true rfl | omega | (simp <;> omega) | (focus (repeat' (first | (with_reducible assumption) | rfl | apply one_take | apply one_drop)); done))))) <;> (try (conv => whnf))
          exact ⟨j + 1, hjlt, by omega, ⟨congrArg (AV.int .i64) (by omega), trivial⟩, HLe.of_eq (hG2.trans hst)⟩
        · have e2 : flE es (A.take (j + 1)) = flE es (A.take j) := by
            unfold flE; rw [List.take_take, List.take_take, Nat.min_eq_left (by omega), Nat.min_eq_left (by omega)]
          have e3 : flF es (A.take (j + 1)) = flF es (A.take j) ++ [x.f] := by
            unfold flF; rw [take_snoc hx, List.drop_append_of_le_length (by rw [List.length_take]; omega)]; simp
          rw [← e3] at hst3
          have hst : anH F r1 r2 r3 c14 offs (flE es (A.take (j + 1))) (flF es (A.take (j + 1))) = _ := (congrArg (fun l => anH F r1 r2 r3 c14 offs l (flF es (A.take (j + 1)))) e2).trans hst3
          clear hst3 hst2
          generalize hG1 : anH F r1 r2 r3 c14 offs (flE es (A.take j)) (flF es (A.take j)) = G1 at *
          generalize hG2 : anH F r1 r2 r3 c14 offs (flE es (A.take (j + 1))) (flF es (A.take (j + 1))) = G2 at *
          (iterate 3 ((repeat' ((conv => whnf); first | left | refine OpsA.cons ?_ | refine OpsA.nil ?_ | refine AWq.seq ?_ | refine AWq.region ?_ | refine AWq.cond ?_ | refine AWq.block ?_ | refine AWq.skip ?_ | refine AWq.ret ?_ | refine AWq.exit ?_ | refine AWq.loop ?_ | refine DrawA.consD ?_ | refine DrawA.nil ?_ | refine AWq.draw (by decide +kernel) ?_ | (refine Both.mk ?_ ?_ <;> intro hc <;> (first | exact Bool.noConfusion hc | exact absurd (by with_reducible rfl) hc | (exfalso; omega) | skip)) | (intro c hc; (try (simp only [AH.none_iff] at hc; repeat (have hn := hc.1; replace hc := hc.2))); (first | (refine i64_k hc ?_ ?_ ?_ ; omega; omega; (clear hc; intro hc; subst hc)) | skip)) | (apply Exists.intro; apply And.intro; (first | (focus (repeat (first | (with_reducible assumption) | (with_reducible exact AH.set_same _ _ _) | ((first | refine AH.get_ne ?_ ?_); (first | (with_reducible assumption) | exact Ne.symm (by with_reducible assumption))))); done))) | (apply Exists.intro; apply And.intro; first | (with_reducible assumption) | ((try simp only [List.getElem?_drop, Nat.mul_one, Nat.add_zero, Nat.zero_add]); first | (with_reducible assumption) | rfl)) | (apply And.intro; (first | rfl | (with_reducible assumption) | exact Nat.le_of_ble_eq_true rfl | omega | (simp <;> omega) | (focus (repeat' (first | (with_reducible assumption) | rfl | apply one_take | apply one_drop)); done))))) <;> (try (conv => whnf)); refine Then.mk ?_))
          refine AWq.in ?_
          refine AWp_segP 17 (acA x) rfl rfl (by (first | assumption | (simp only [AH.none_iff]; (repeat' (first | assumption | (refine And.intro ?_ ?_)))))) (acL_segZ hx) rfl ?_
          refine AWp.of tt_ok (dok _) rfl ?_
          (repeat' ((conv => whnf); first | refine Then.mk ?_ | left | refine OpsA.cons ?_ | refine OpsA.nil ?_ | refine AWq.seq ?_ | refine AWq.region ?_ | refine AWq.cond ?_ | refine AWq.block ?_ | refine AWq.skip ?_ | refine AWq.ret ?_ | refine AWq.exit ?_ | refine AWq.loop ?_ | refine DrawA.consD ?_ | refine DrawA.nil ?_ | refine AWq.draw (by decide +kernel) ?_ | (refine Both.mk ?_ ?_ <;> intro hc <;> (first | exact Bool.noConfusion hc | exact absurd (by with_reducible rfl) hc | (exfalso; omega) | skip)) | (intro c hc; (try (simp only [AH.none_iff] at hc; repeat (have hn := hc.1; replace hc := hc.2))); (first | (refine i64_k hc ?_ ?_ ?_ ; omega; omega; (clear hc; intro hc; subst hc)) | skip)) | (apply Exists.intro; apply And.intro; (first | (focus (repeat (first | (with_reducible assumption) | (with_reducible exact AH.set_same _ _ _) | ((first | refine AH.get_ne ?_ ?_); (first | (with_reducible assumption) | exact Ne.symm (by with_reducible assumption))))); done))) | (apply Exists.intro; apply And.intro; first | (with_reducible assumption) | ((try simp only [List.getElem?_drop, Nat.mul_one, Nat.add_zero, Nat.zero_add]); first | (with_reducible assumption) | rfl)) | (apply And.intro; (first | rfl | (with_reducible assumption) | exact Nat.le_of_ble_eq_true rfl | omega | (simp <;> omega) | (focus (repeat' (first | (with_reducible assumption) | rfl | apply one_take | apply one_drop)); done))))) <;> (try (conv => whnf))
          exact ⟨j + 1, hjlt, by omega, ⟨congrArg (AV.int .i64) (by omega), trivial⟩, HLe.of_eq (hG2.trans hst)⟩
      · have hje : j = A.length := by omega
        have htA : A.take j = A := List.take_of_length_le (by omega)
        rw [htA]
        have hlE : (flE es A).length = es.length := by unfold flE; rw [List.length_map, List.length_take]; omega
        have hlF : (flF es A).length = fs.length := by unfold flF; rw [List.length_map, List.length_drop]; omega
        have kc1 := k14 offs (flE es A) (flF es A)
        have kr1 := k1 offs (flE es A) (flF es A)
        have kr2 := k2 offs (flE es A) (flF es A)
        have kr3 := k3 offs (flE es A) (flF es A)
        obtain ⟨G1, hG1⟩ : ∃ G1, G1 = anH F r1 r2 r3 c14 offs (flE es A) (flF es A) := ⟨_, rfl⟩
        rw [← hG1] at kc1 kr1 kr2 kr3 ⊢
        have hll1 := hil offs
        have hll2 := hil (flE es A)
        have hll3 := hil (flF es A)
        (iterate 2 ((repeat' ((conv => whnf); first | left | refine OpsA.cons ?_ | refine OpsA.nil ?_ | refine AWq.seq ?_ | refine AWq.region ?_ | refine AWq.cond ?_ | refine AWq.block ?_ | refine AWq.skip ?_ | refine AWq.ret ?_ | refine AWq.exit ?_ | refine AWq.loop ?_ | refine DrawA.consD ?_ | refine DrawA.nil ?_ | refine AWq.draw (by decide +kernel) ?_ | (refine Both.mk ?_ ?_ <;> intro hc <;> (first | exact Bool.noConfusion hc | exact absurd (by with_reducible rfl) hc | (exfalso; omega) | skip)) | (intro c hc; (try (simp only [AH.none_iff] at hc; repeat (have hn := hc.1; replace hc := hc.2))); (first | (refine i64_k hc ?_ ?_ ?_ ; omega; omega; (clear hc; intro hc; subst hc)) | skip)) | (apply Exists.intro; apply And.intro; (first | (focus (repeat (first | (with_reducible assumption) | (with_reducible exact AH.set_same _ _ _) | ((first | refine AH.get_ne ?_ ?_); (first | (with_reducible assumption) | exact Ne.symm (by with_reducible assumption))))); done))) | (apply Exists.intro; apply And.intro; first | (with_reducible assumption) | ((try simp only [List.getElem?_drop, Nat.mul_one, Nat.add_zero, Nat.zero_add]); first | (with_reducible assumption) | rfl)) | (apply And.intro; (first | rfl | (with_reducible assumption) | exact Nat.le_of_ble_eq_true rfl | omega | (simp <;> omega) | (focus (repeat' (first | (with_reducible assumption) | rfl | apply one_take | apply one_drop)); done))))) <;> (try (conv => whnf)); refine Then.mk ?_))
        refine AWq.in ?_
        have hH14 : H c14 = none := (AH.none_set (HLe.none hHF h14)).2
        have hH1 : H r1 = none := (AH.none_set (HLe.none hHF hr1)).2
        have hH2 : H r2 = none := (AH.none_set (HLe.none hHF hr2)).2
        have hH3 : H r3 = none := (AH.none_set (HLe.none hHF hr3)).2
        have hc6r1 : c6 ≠ r1 := AH.none_ne' hr1 hF6
        have hc6r2 : c6 ≠ r2 := AH.none_ne' hr2 hF6
        have hc6r3 : c6 ≠ r3 := AH.none_ne' hr3 hF6
        obtain ⟨Z, hZ⟩ : ∃ Z, Z = anH (H.set c6 (.row [.nils, .nils, .nils, .int .i64 0] 0)) r1 r2 r3 c14 offs (flE es A) (flF es A) := ⟨_, rfl⟩
        refine AWp_less Z ?_ ?_
        · rw [hZ, hG1]; unfold anH
          exact HLe.set (HLe.set (HLe.set (HLe.set hHF _ _) _ _) _ _) _ _
        have z14 : Z c14 = some (.row [.sl r1 offs.length 1 0 offs.length none, .sl r2 (flE es A).length 1 0 (flE es A).length none, .sl r3 (flF es A).length 1 0 (flF es A).length none, .int .i64 0] 0) := by rw [hZ]; exact AH.set_same _ _ _
        have z6 : Z c6 = some (.row [.nils, .nils, .nils, .int .i64 0] 0) := by
          rw [hZ]; unfold anH; rw [AH.set_ne _ _ n146, AH.set_ne _ _ hc6r3, AH.set_ne _ _ hc6r2, AH.set_ne _ _ hc6r1, AH.set_same]
        have z1 : Z r1 = some (.row (iS .i64 offs) offs.length) := by
          rw [hZ]; unfold anH; rw [AH.set_ne _ _ n1, AH.set_ne _ _ hD.a, AH.set_ne _ _ hD.b, AH.set_same]
        refine AWp.of tt_ok (dok _) rfl ?_
        have hcost := ACall.apart1 (H := Z) (args := [.cs (edL es) es.length, .cs (fxL fs) fs.length, .sl r1 offs.length 1 0 offs.length none]) (.tup _ fun x hx => by
            simp only [List.mem_cons, List.not_mem_nil, or_false] at hx
            rcases hx with rfl | rfl
            · exact .int _ _
            · exact .int _ _) (.cons (.flat _ (.cs _ _ (flat_ed es))) (.cons (.flat _ (.cs _ _ (flat_fx fs))) (.cons (.sl z1 (by simp) (flat_iS _ _)) .nil))) (fun H => cost_c es fs offs (by omega) (by omega) (by omega) H)
        have hlr : HLe ((((H.set r1 (.row (iS .i64 offs) n)).set r2 (.row (iS .i64 (flE es A)) es.length)).set r3 (.row (iS .i64 (flF es A)) fs.length))) (((H.set c6 (.row [.nils, .nils, .nils, .int .i64 0] 0)).set r1 (.row (iS .i64 offs) n)).set r2 (.row (iS .i64 (flE es A)) es.length) |>.set r3 (.row (iS .i64 (flF es A)) fs.length)) :=
          HLe.set (HLe.set (HLe.set (HLe.fresh _ hc6) _ _) _ _) _ _
        (repeat' ((conv => whnf); first | refine Then.mk ?_ | left | refine OpsA.cons ?_ | refine OpsA.nil ?_ | refine AWq.seq ?_ | refine AWq.region ?_ | refine AWq.cond ?_ | refine AWq.block ?_ | refine AWq.skip ?_ | refine AWq.ret ?_ | refine AWq.exit ?_ | refine AWq.loop ?_ | refine DrawA.consD ?_ | refine DrawA.nil ?_ | refine AWq.draw (by decide +kernel) ?_ | (refine Both.mk ?_ ?_ <;> intro hc <;> (first | exact Bool.noConfusion hc | exact absurd (by with_reducible rfl) hc | (exfalso; omega) | skip)) | (intro c hc; (try (simp only [AH.none_iff] at hc; repeat (have hn := hc.1; replace hc := hc.2))); (first | (refine i64_k hc ?_ ?_ ?_ ; omega; omega; (clear hc; intro hc; subst hc)) | skip)) | (apply Exists.intro; apply And.intro; (first | (focus (repeat (first | (with_reducible assumption) | (with_reducible exact AH.set_same _ _ _) | ((first | refine AH.get_ne ?_ ?_); (first | (with_reducible assumption) | exact Ne.symm (by with_reducible assumption))))); done))) | (apply Exists.intro; apply And.intro; first | (with_reducible assumption) | ((try simp only [List.getElem?_drop, Nat.mul_one, Nat.add_zero, Nat.zero_add]); first | (with_reducible assumption) | rfl)) | (apply And.intro; (first | rfl | (with_reducible assumption) | exact Nat.le_of_ble_eq_true rfl | omega | (simp <;> omega) | (focus (repeat' (first | (with_reducible assumption) | rfl | apply one_take | apply one_drop)); done))) | (refine ACall.to (hcost) ?_))) <;> (try (conv => whnf))
        subst hoffs
        rw [hofl, hlE, hlF, hZ]
        refine ⟨_, (((H.set r1 (.row (iS .i64 (fnL n (offS n d o))) n)).set r2 (.row (iS .i64 (flE es A)) es.length)).set r3 (.row (iS .i64 (flF es A)) fs.length)), AVle.refl _, ?_, A, d, o, r1, r2, r3, n, es.length, fs.length, hSv, hH1, hH2, hH3, hD.b, hD.a, hD.x, rfl, rfl⟩
        unfold anH
        rw [hofl, hlE, hlF]
        have q14 : ∀ X Y Z', (((H.set r1 X).set r2 Y).set r3 Z') c14 = none := fun X Y Z' => by
          rw [AH.set_ne _ _ (Ne.symm n3), AH.set_ne _ _ (Ne.symm n2), AH.set_ne _ _ (Ne.symm n1)]; exact hH14
        have q6 : ∀ X Y Z', (((H.set r1 X).set r2 Y).set r3 Z') c6 = none := fun X Y Z' => by
          rw [AH.set_ne _ _ hc6r3, AH.set_ne _ _ hc6r2, AH.set_ne _ _ hc6r1]; exact hc6
        repeat' (first | exact hlr | refine HLe.set_of _ _ ?_ ?_ | exact q14 _ _ _ | exact q6 _ _ _)
  · have hi2 : i < n + 1 := by simpa using hi
    have hpos2 : 0 < netN A i := by
      have e : (fnL (n + 1) (netN A)).getD i 0 = netN A i := by rw [List.getD_eq_getElem?_getD, fnL_get _ hi2]; rfl
      rw [e] at hpos
      exact of_decide_eq_true hpos
    have hmv := move_c n (by omega) A hJ (by omega) i (by omega) hpos2 _ g 0 ra A0.length none hNet
    (repeat' ((conv => whnf); first | refine Then.mk ?_ | left | refine OpsA.cons ?_ | refine OpsA.nil ?_ | refine AWq.seq ?_ | refine AWq.region ?_ | refine AWq.cond ?_ | refine AWq.block ?_ | refine AWq.skip ?_ | refine AWq.ret ?_ | refine AWq.exit ?_ | refine AWq.loop ?_ | refine DrawA.consD ?_ | refine DrawA.nil ?_ | refine AWq.draw (by decide +kernel) ?_ | (refine Both.mk ?_ ?_ <;> intro hc <;> (first | exact Bool.noConfusion hc | exact absurd (by with_reducible rfl) hc | (exfalso; omega) | skip)) | (intro c hc; (try (simp only [AH.none_iff] at hc; repeat (have hn := hc.1; replace hc := hc.2))); (first | (refine i64_k hc ?_ ?_ ?_ ; omega; omega; (clear hc; intro hc; subst hc)) | skip)) | (apply Exists.intro; apply And.intro; (first | (focus (repeat (first | (with_reducible assumption) | (with_reducible exact AH.set_same _ _ _) | ((first | refine AH.get_ne ?_ ?_); (first | (with_reducible assumption) | exact Ne.symm (by with_reducible assumption))))); done))) | (apply Exists.intro; apply And.intro; first | (with_reducible assumption) | ((try simp only [List.getElem?_drop, Nat.mul_one, Nat.add_zero, Nat.zero_add]); first | (with_reducible assumption) | rfl)) | (apply And.intro; (first | rfl | (with_reducible assumption) | exact Nat.le_of_ble_eq_true rfl | omega | (simp <;> omega) | (focus (repeat' (first | (with_reducible assumption) | rfl | apply one_take | apply one_drop)); done))))) <;> (try (conv => whnf))
    refine ACall.mono hmv ?_
    rintro y H' ⟨A', hJ', hlt, hal', rfl, rfl⟩
    (repeat' ((conv => whnf); first | refine Then.mk ?_ | left | refine OpsA.cons ?_ | refine OpsA.nil ?_ | refine AWq.seq ?_ | refine AWq.region ?_ | refine AWq.cond ?_ | refine AWq.block ?_ | refine AWq.skip ?_ | refine AWq.ret ?_ | refine AWq.exit ?_ | refine AWq.loop ?_ | refine DrawA.consD ?_ | refine DrawA.nil ?_ | refine AWq.draw (by decide +kernel) ?_ | (refine Both.mk ?_ ?_ <;> intro hc <;> (first | exact Bool.noConfusion hc | exact absurd (by with_reducible rfl) hc | (exfalso; omega) | skip)) | (intro c hc; (try (simp only [AH.none_iff] at hc; repeat (have hn := hc.1; replace hc := hc.2))); (first | (refine i64_k hc ?_ ?_ ?_ ; omega; omega; (clear hc; intro hc; subst hc)) | skip)) | (apply Exists.intro; apply And.intro; (first | (focus (repeat (first | (with_reducible assumption) | (with_reducible exact AH.set_same _ _ _) | ((first | refine AH.get_ne ?_ ?_); (first | (with_reducible assumption) | exact Ne.symm (by with_reducible assumption))))); done))) | (apply Exists.intro; apply And.intro; first | (with_reducible assumption) | ((try simp only [List.getElem?_drop, Nat.mul_one, Nat.add_zero, Nat.zero_add]); first | (with_reducible assumption) | rfl)) | (apply And.intro; (first | rfl | (with_reducible assumption) | exact Nat.le_of_ble_eq_true rfl | omega | (simp <;> omega) | (focus (repeat' (first | (with_reducible assumption) | rfl | apply one_take | apply one_drop)); done))))) <;> (try (conv => whnf))
    exact ⟨A', ⟨hJ', hal.trans hal'⟩, hlt, trivial, HLe.of_eq (AH.set_set _ _ _ _).symm⟩
/-- The same, with constants. -/
theorem ACall.cold3 {P : Program} {g : FuncId} {args : List AV} {H : AH} {K : AV → Prop} (h : ACall P g args H fun y H' => ∃ r1 r2 r3 v1 v2 v3 l1 l2 l3 c e, H r1 = none ∧ H r2 = none ∧ H r3 = none ∧ r1 ≠ r2 ∧ r1 ≠ r3 ∧ r2 ≠ r3 ∧
      y = .tup [.agg [.sl r1 v1 1 0 l1.length none, .sl r2 v2 1 0 l2.length none, .sl r3 v3 1 0 l3.length none, .int .i64 c], .int .i64 e] ∧ H' = ((H.set r1 (.row (iS .i64 l1) v1)).set r2 (.row (iS .i64 l2) v2)).set r3 (.row (iS .i64 l3) v3) ∧
      K (.tup [.agg [.cs (iS .i64 l1) l1.length, .cs (iS .i64 l2) l2.length, .cs (iS .i64 l3) l3.length, .int .i64 c], .int .i64 e])) :
    ACall P g args H fun y H' => K y ∧ H' = H := by
  refine ⟨h.ent, fun κ F B w0 w cargs hI hA => (h.run κ F B w0 w cargs hI hA).mono ?_⟩
  rintro x w' ⟨v, he, y, H', κ', F', k1, k2, I, hv, r1, r2, r3, v1, v2, v3, l1, l2, l3, c, e, hr1, hr2, hr3, n12, n13, n23, rfl, rfl, hK⟩
  obtain ⟨F1, hF1, I1, ha1⟩ := I.coolAll (r := r3) (v := v3) (cells := iS .i64 l3) (AH.set_same _ _ _)
  rw [AH.del_set _ _ _ (by rw [AH.set_ne _ _ (Ne.symm n23), AH.set_ne _ _ (Ne.symm n13)]; exact hr3)] at I1
  obtain ⟨F2, hF2, I2, ha2⟩ := I1.coolAll (r := r2) (v := v2) (cells := iS .i64 l2) (AH.set_same _ _ _)
  rw [AH.del_set _ _ _ (by rw [AH.set_ne _ _ (Ne.symm n12)]; exact hr2)] at I2
  obtain ⟨F3, hF3, I3, ha3⟩ := I2.coolAll (r := r1) (v := v1) (cells := iS .i64 l1) (AH.set_same _ _ _)
  rw [AH.del_set _ _ _ hr1] at I3
  refine ⟨v, he, _, H, κ', F3, k1, ((k2.trans hF1).trans hF2).trans hF3, I3, ?_, hK, rfl⟩
  cases hv with
  | tup hsz hi =>
    refine .tup hsz fun i hi' => ?_
    match i, hi' with
    | 0, _ =>
      have h0 := hi 0 (by simp)
      simp only [List.getElem_cons_zero] at h0 ⊢
      generalize Array.getD _ _ _ = x0 at h0 ⊢
      cases h0 with
      | agg hA hj =>
        refine .agg hA fun j hj' => ?_
        match j, hj' with
        | 0, _ => exact ha3 _ _ _ _ _ (by simp) (hj 0 (by simp))
        | 1, _ => exact (ha2 _ _ _ _ _ (by simp) (hj 1 (by simp))).mono (KLe.refl _) hF3
        | 2, _ => exact ((ha1 _ _ _ _ _ (by simp) (hj 2 (by simp))).mono (KLe.refl _) hF2).mono (KLe.refl _) hF3
        | 3, _ => have := hj 3 (by simp); simp only [List.getElem_cons_succ, List.getElem_cons_zero] at this ⊢; generalize Array.getD _ _ _ = x3 at this ⊢; cases this; exact .int _ _
    | 1, _ => have := hi 1 (by simp); simp only [List.getElem_cons_succ, List.getElem_cons_zero] at this ⊢; generalize Array.getD _ _ _ = x3 at this ⊢; cases this; exact .int _ _
theorem solve_c (n : Nat) (es : List Ed) (fs : List Fx) (hv : validV n es fs = 0) (H : AH) :
    ACall Try.prog 14 [.int .i64 n, .cs (edL es) es.length, .cs (fxL fs) fs.length] H (fun y H' => ∃ A d o, Sv n es fs A d o ∧ y = solV n es fs A d o ∧ H' = H) := by
  refine (ACall.cold3 (K := fun y => ∃ A d o, Sv n es fs A d o ∧ y = solV n es fs A d o) ((solve_s n es fs hv H).mono ?_)).mono fun y H' ⟨⟨A, d, o, h1, h2⟩, h3⟩ => ⟨A, d, o, h1, h2, h3⟩
  rintro y H' ⟨A, d, o, r1, r2, r3, v1, v2, v3, hSv, h1, h2, h3, n12, n13, n23, rfl, rfl⟩
  have hl := hSv.alk.len
  have hl0 : (net0 n es fs).length = es.length + fs.length := by unfold net0; simp
  have f4 : (flE es A).length = es.length := by unfold flE; rw [List.length_map, List.length_take]; omega
  have f5 : (flF es A).length = fs.length := by unfold flF; rw [List.length_map, List.length_drop]; omega
  refine ⟨r1, r2, r3, v1, v2, v3, fnL n (offS n d o), flE es A, flF es A, (costR es fs (fnL n (offS n d o))).1, 0, h1, h2, h3, n12, n13, n23, ?_, rfl, A, d, o, hSv, ?_⟩
  · rw [fnL_len, f4, f5]
  · rw [fnL_len, f4, f5]; rfl
end Go.Proofs.Ytebflkgpbbjhnaa
/- The walk of balance: Check. -/
namespace Go.Proofs.Ytebflkgpbbjhnaa
open Go.Fw Go
set_option linter.unusedVariables false
set_option linter.unusedSimpArgs false

/-- What Check accepts. -/
structure ChkP (n : Nat) (es : List Ed) (fs : List Fx) (O E F : List Int) (c : Int) : Prop where
  l1 : O.length = n
  l2 : E.length = es.length
  l3 : F.length = fs.length
  al : allW (net0 n es fs) (E ++ F)
  co : costR es fs O = (c, 0)
  va : valF (net0 n es fs) (E ++ F) = c
  ne : ∀ v, v < n → netN (setFl (net0 n es fs) (E ++ F)) v = 0
theorem allW_snoc {A : List Ac} {L : List Int} {x : Ac} {f : Int} (hx : A[L.length]? = some x) (h : allW A L) (hf : inW x f) : allW A (L ++ [f]) := by
  intro i y hy hi
  rw [List.length_append] at hi
  simp at hi
  by_cases e : i = L.length
  · subst e
    rw [hx] at hy; cases hy
    simpa using hf
  · rw [List.getD_eq_getElem?_getD, List.getElem?_append_left (by omega), ← List.getD_eq_getElem?_getD]
    exact h i y hy (by omega)
theorem getD_app {L : List Int} {i : Nat} (h : i < L.length) : L.take (i + 1) = L.take i ++ [L.getD i 0] := by
  rw [List.take_add_one, List.getElem?_eq_getElem h, List.getD_eq_getElem?_getD, List.getElem?_eq_getElem h]; rfl
theorem setFl_ok {n : Nat} : ∀ {A : List Ac} {L : List Int}, (∀ x ∈ A, AcOk n x) → allW A L → ∀ x ∈ setFl A L, AcOk n x
  | [], L, h, _ => by simp [setFl]
  | x :: A, [], h, _ => h
  | x :: A, f :: L, h, hw => by
    intro y hy
    simp only [setFl, List.mem_cons] at hy
    rcases hy with rfl | hy
    · obtain ⟨xa, xb, d1, d2, w1, w2, f1, f2⟩ := h x (by simp)
      have h1 : inW x f := hw 0 x rfl (by simp)
      exact ⟨xa, xb, d1, d2, w1, w2, h1.1, h1.2⟩
    · refine setFl_ok (A := A) (L := L) (fun z hz => h z (by simp [hz])) (fun i z hz hi => ?_) y hy
      have := hw (i + 1) z (by simpa using hz) (by simpa using hi)
      simpa using this
set_option maxHeartbeats 4000000 in
set_option maxRecDepth 8000 in
theorem check_c (n : Nat) (es : List Ed) (fs : List Fx) (hv : validV n es fs = 0) (O E F : List Int) (c : Int) (hO : O.length ≤ 1000000) (hE' : E.length ≤ 1000000) (hF' : F.length ≤ 1000000) (e : Int) (he1 : ChkP n es fs O E F c → e = 0) (he2 : ¬ ChkP n es fs O E F c → e = 17) (H : AH) :
    ACall Try.prog 22 [.int .i64 n, .cs (edL es) es.length, .cs (fxL fs) fs.length, .agg [.cs (iS .i64 O) O.length, .cs (iS .i64 E) E.length, .cs (iS .i64 F) F.length, .int .i64 c]] H (fun y H' => y = .int .i64 e ∧ H' = H) := by
  obtain ⟨⟨_, hn64⟩, ⟨he, hf⟩, hE, hF⟩ := validV_ok hv
  have hv1 := fun H => valid_c n es fs (by omega) (by omega) H
  rw [hv] at hv1
  refine ACall.back ?_
  have hJ0 := net0_ok hE hF
  have hlen0 : (net0 n es fs).length = es.length + fs.length := by unfold net0; simp
  by_cases hl : O.length = n ∧ E.length = es.length ∧ F.length = fs.length
  · obtain ⟨l1, l2, l3⟩ := hl
    have hcc := fun H => concat_c E F (by omega) (by omega) H
    obtain ⟨L, hL⟩ : ∃ L, L = E ++ F := ⟨_, rfl⟩
    have hLl : L.length = es.length + fs.length := by rw [hL, List.length_append]; omega
    rw [← hL] at hcc
    have hil := iS_length .i64 L
    obtain ⟨R, hR⟩ : ∃ R, R = iS .i64 L := ⟨_, rfl⟩
    rw [← hR] at hcc hil
    refine ACall_of tt_ok (dok _) Try.func22 rfl (by decide) rfl ?_
    (repeat' ((conv => whnf); first | left | refine OpsA.cons ?_ | refine OpsA.nil ?_ | refine AWq.seq ?_ | refine AWq.region ?_ | refine AWq.cond ?_ | refine AWq.block ?_ | refine AWq.skip ?_ | refine AWq.ret ?_ | refine AWq.exit ?_ | refine AWq.loop ?_ | (refine Both.mk ?_ ?_ <;> intro hc <;> (first | exact Bool.noConfusion hc | exact absurd (by with_reducible rfl) hc | (exfalso; omega) | skip)) | (intro c hc; (try (simp only [AH.none_iff] at hc; repeat (have hn := hc.1; replace hc := hc.2))); (first | (refine i64_k hc ?_ ?_ ?_ ; omega; omega; (clear hc; intro hc; subst hc)) | skip)) | (apply Exists.intro; apply And.intro; (first | (focus (repeat (first | (with_reducible assumption) | (with_reducible exact AH.set_same _ _ _))); done))) | (apply Exists.intro; apply And.intro; first | (with_reducible assumption) | ((try simp only [List.getElem?_drop, Nat.mul_one, Nat.add_zero, Nat.zero_add]); first | (with_reducible assumption) | rfl)) | (apply And.intro; (first | rfl | (with_reducible assumption) | omega | (simp <;> omega))))) <;> (try (conv => whnf))
    (obtain ⟨c7, hq_⟩ : ∃ c7, c7 = c := ⟨_, rfl⟩); subst hq_
    have hc7 : H c7 = none := hc
    refine Then.mk ?_
    (repeat' ((conv => whnf); first | refine Then.mk ?_ | left | refine OpsA.cons ?_ | refine OpsA.nil ?_ | refine AWq.seq ?_ | refine AWq.region ?_ | refine AWq.cond ?_ | refine AWq.block ?_ | refine AWq.skip ?_ | refine AWq.ret ?_ | refine AWq.exit ?_ | refine AWq.loop ?_ | (refine Both.mk ?_ ?_ <;> intro hc <;> (first | exact Bool.noConfusion hc | exact absurd (by with_reducible rfl) hc | (exfalso; omega) | skip)) | (intro c hc; (try (simp only [AH.none_iff] at hc; repeat (have hn := hc.1; replace hc := hc.2))); (first | (refine i64_k hc ?_ ?_ ?_ ; omega; omega; (clear hc; intro hc; subst hc)) | skip)) | (apply Exists.intro; apply And.intro; (first | (focus (repeat (first | (with_reducible assumption) | (with_reducible exact AH.set_same _ _ _))); done))) | (apply Exists.intro; apply And.intro; first | (with_reducible assumption) | ((try simp only [List.getElem?_drop, Nat.mul_one, Nat.add_zero, Nat.zero_add]); first | (with_reducible assumption) | rfl)) | (apply And.intro; (first | rfl | (with_reducible assumption) | omega | (simp <;> omega))) | (refine ACall.to (hv1 _) ?_))) <;> (try (conv => whnf))
    refine (start_c n (by omega) es fs he hf hE hF _).mono ?_
    rintro y H' ⟨g, ra, hg, hra, hgra, rfl, rfl⟩
    obtain ⟨A0, hA0⟩ : ∃ A0, A0 = net0 n es fs := ⟨_, rfl⟩
    rw [← hA0] at hJ0 hlen0 ⊢
    obtain ⟨S, hS⟩ : ∃ S, S = stH (H.set c7 (.row [.cs (iS .i64 O) O.length, .cs (iS .i64 E) E.length, .cs (iS .i64 F) F.length, .int .i64 c] 0)) n g ra A0 := ⟨_, rfl⟩
    have hSra : S ra = some (.row (acL A0) A0.length) := by rw [hS]; unfold stH; rw [AH.set_ne _ _ (Ne.symm hgra), AH.set_same]
    have hSg : S g = some (.row [.int .i64 n, .sl ra A0.length 5 0 A0.length none] 0) := by rw [hS]; unfold stH; rw [AH.set_same]
    have ng7 := (AH.none_set hg).1
    have na7 := (AH.none_set hra).1
    have hSc : S c7 = some (.row [.cs (iS .i64 O) O.length, .cs (iS .i64 E) E.length, .cs (iS .i64 F) F.length, .int .i64 c] 0) := by rw [hS]; unfold stH; rw [AH.set_ne _ _ (Ne.symm ng7), AH.set_ne _ _ (Ne.symm na7), AH.set_same]
    have hHS : HLe H S := by
      rw [hS]; unfold stH
      exact HLe.set_of _ _ (HLe.set_of _ _ (HLe.fresh _ hc7) (AH.none_set hra).2) (AH.none_set hg).2
    have hHra : H ra = none := (AH.none_set hra).2
    (repeat' ((conv => whnf); first | left | refine OpsA.cons ?_ | refine OpsA.nil ?_ | refine AWq.seq ?_ | refine AWq.region ?_ | refine AWq.cond ?_ | refine AWq.block ?_ | refine AWq.skip ?_ | refine AWq.ret ?_ | refine AWq.exit ?_ | refine AWq.loop ?_ | (refine Both.mk ?_ ?_ <;> intro hc <;> (first | exact Bool.noConfusion hc | exact absurd (by with_reducible rfl) hc | (exfalso; omega) | skip)) | (intro c hc; (try (simp only [AH.none_iff] at hc; repeat (have hn := hc.1; replace hc := hc.2))); (first | (refine i64_k hc ?_ ?_ ?_ ; omega; omega; (clear hc; intro hc; subst hc)) | skip)) | (apply Exists.intro; apply And.intro; (first | (focus (repeat (first | (with_reducible assumption) | (with_reducible exact AH.set_same _ _ _))); done))) | (apply Exists.intro; apply And.intro; first | (with_reducible assumption) | ((try simp only [List.getElem?_drop, Nat.mul_one, Nat.add_zero, Nat.zero_add]); first | (with_reducible assumption) | rfl)) | (apply And.intro; (first | rfl | (with_reducible assumption) | omega | (simp <;> omega))))) <;> (try (conv => whnf))
    refine Then.mk (AWq.in ?_)
    refine AWp_less S (HLe.of_eq hS) ?_
    refine AWp.of tt_ok (dok _) rfl ?_
    (repeat' ((conv => whnf); first | refine Then.mk ?_ | left | refine OpsA.cons ?_ | refine OpsA.nil ?_ | refine AWq.seq ?_ | refine AWq.region ?_ | refine AWq.cond ?_ | refine AWq.block ?_ | refine AWq.skip ?_ | refine AWq.ret ?_ | refine AWq.exit ?_ | refine AWq.loop ?_ | (refine Both.mk ?_ ?_ <;> intro hc <;> (first | exact Bool.noConfusion hc | exact absurd (by with_reducible rfl) hc | (exfalso; omega) | skip)) | (intro c hc; (try (simp only [AH.none_iff] at hc; repeat (have hn := hc.1; replace hc := hc.2))); (first | (refine i64_k hc ?_ ?_ ?_ ; omega; omega; (clear hc; intro hc; subst hc)) | skip)) | (apply Exists.intro; apply And.intro; (first | (focus (repeat (first | (with_reducible assumption) | (with_reducible exact AH.set_same _ _ _))); done))) | (apply Exists.intro; apply And.intro; first | (with_reducible assumption) | ((try simp only [List.getElem?_drop, Nat.mul_one, Nat.add_zero, Nat.zero_add]); first | (with_reducible assumption) | rfl)) | (apply And.intro; (first | rfl | (with_reducible assumption) | omega | (simp <;> omega))) | (refine ACall.to (hcc _) ?_))) <;> (try (conv => whnf))
    refine AWp_loop (σ := Nat) (8 :: 11 :: 12 :: 13 :: 14 :: 56 :: 57 :: 58 :: 59 :: 60 :: 61 :: 62 :: 63 :: 64 :: 65 :: 66 :: 67 :: 68 :: 69 :: 70 :: 71 :: 72 :: 73 :: 74 :: 75 :: 76 :: 77 :: 78 :: 79 :: 80 :: 81 :: 82 :: 83 :: 84 :: 85 :: 86 :: 87 :: []) (fun i => [(56, .int .i64 i), (11, .int .i64 (valF A0 (L.take i)))]) (fun i => S.set ra (.row (acL (setFl A0 (L.take i))) A0.length)) (fun i => i ≤ L.length ∧ allW A0 (L.take i)) (fun i => L.length - i) 0 rfl ⟨Nat.zero_le _, fun j x _ hj => by simp at hj⟩ ⟨rfl, congrArg (AV.int .i64) (by cases A0 <;> rfl), trivial⟩ (HLe.of_eq (by rw [List.take_zero, setFl_nil]; exact AH.set_id hSra)) ?_
    rintro i ⟨hi, hall⟩
    refine AWp.of tt_ok (dok _) rfl ?_
    dsimp only at hi ⊢
    have hA0s : ∀ x ∈ A0, (-65535 ≤ x.d ∧ x.d ≤ 65535) ∧ x.w ≤ 65536 := fun x hx => by
      obtain ⟨xa, xb, d1, d2, w1, w2, f1, f2⟩ := hJ0.ok x hx
      exact ⟨⟨d1, d2⟩, w2⟩
    have hvb := valF_bd A0 (L.take i) hA0s hall
    have htl : ((L.take i).length : Int) ≤ 16384 := by rw [List.length_take]; omega
    by_cases hil2 : i < L.length
    · obtain ⟨x, hx⟩ : ∃ x, A0[i]? = some x := ⟨_, List.getElem?_eq_getElem (by omega)⟩
      obtain ⟨xa, xb, d1, d2, w1, w2, f1, f2⟩ := hJ0.ok x (List.mem_of_getElem? hx)
      have htli : (L.take i).length = i := by rw [List.length_take]; omega
      have hx2 : (setFl A0 (L.take i))[i]? = some x := by rw [setFl_get _ _ _ (by omega)]; exact hx
      have gf : R[(i : Int).toNat]? = some (.int .i64 (L.getD i 0)) := by rw [hR]; exact iS_get hil2
      have htk := getD_app hil2
      have hsn := setFl_snoc A0 (L.take i) x (L.getD i 0) (by rw [htli]; exact hx)
      have hvn := valF_snoc A0 (L.take i) x (L.getD i 0) (by rw [htli]; exact hx)
      have hwn : inW x (L.getD i 0) → allW A0 (L.take i ++ [L.getD i 0]) := allW_snoc (by rw [htli]; exact hx) hall
      rw [htli] at hsn
      rw [← htk] at hsn hvn hwn
      have hg0 : (S.set ra (.row (acL (setFl A0 (L.take i))) A0.length)) g = some (.row [.int .i64 n, .sl ra A0.length 5 0 A0.length none] 0) := by rw [AH.set_ne _ _ hgra]; exact hSg
      have hcl := acL_len (setFl A0 (L.take i))
      rw [setFl_len] at hcl
      have hsl := setFl_len A0 (L.take i)
      have gw : (acL (setFl A0 (L.take i)))[(i : Int).toNat * 5 + 3]? = some (.int .i64 x.w) := acL_get hx2 3 (by decide)
      have gd : (wrA (acL (setFl A0 (L.take i))) (0 + (i : Int).toNat * 5 + 4) [.int .i64 (L.getD i 0)])[(i : Int).toNat * 5 + 2]? = some (.int .i64 x.d) := by
        rw [acL_wrZ hx2]
        exact acL_get (i := i) (x := ⟨x.a, x.b, x.d, x.w, L.getD i 0⟩) (List.getElem?_set_self (by rw [setFl_len]; omega)) 2 (by decide)
      have hst : acL (setFl A0 (L.take (i + 1))) = wrA (acL (setFl A0 (L.take i))) (0 + (i : Int).toNat * 5 + 4) [.int .i64 (L.getD i 0)] := by rw [acL_wrZ hx2, hsn]
      have hno : ¬ inW x (L.getD i 0) → ¬ ChkP n es fs O E F c := fun h k => h (by
        have := k.al i x (by rw [← hA0]; exact hx) (by rw [← hL]; exact hil2)
        rw [hL]; exact this)
      generalize L.getD i 0 = f at *
      generalize setFl A0 (L.take i) = A1 at *
      generalize valF A0 (L.take i) = vv at *
      by_cases hin : -x.w ≤ f ∧ f ≤ x.w
      · have key : -4294967296 ≤ f * x.d ∧ f * x.d ≤ 4294967296 := by
          have a1 : (65536 - f) * (65535 - x.d) ≥ 0 := Int.mul_nonneg (by omega) (by omega)
          have a2 : (65536 + f) * (65535 + x.d) ≥ 0 := Int.mul_nonneg (by omega) (by omega)
          have a3 : (65536 - f) * (65535 + x.d) ≥ 0 := Int.mul_nonneg (by omega) (by omega)
          have a4 : (65536 + f) * (65535 - x.d) ≥ 0 := Int.mul_nonneg (by omega) (by omega)
          simp only [Int.sub_mul, Int.add_mul, Int.mul_sub, Int.mul_add] at a1 a2 a3 a4
          omega
        have hwi := fun H => within1_c x.w (by omega) f true (decide_eq_true hin) H
        (iterate 4 ((repeat' ((conv => whnf); first | left | refine OpsA.cons ?_ | refine OpsA.nil ?_ | refine AWq.seq ?_ | refine AWq.region ?_ | refine AWq.cond ?_ | refine AWq.block ?_ | refine AWq.skip ?_ | refine AWq.ret ?_ | refine AWq.exit ?_ | refine AWq.loop ?_ | (refine Both.mk ?_ ?_ <;> intro hc <;> (first | exact Bool.noConfusion hc | exact absurd (by with_reducible rfl) hc | (exfalso; omega) | skip)) | (intro c hc; (try (simp only [AH.none_iff] at hc; repeat (have hn := hc.1; replace hc := hc.2))); (first | (refine i64_k hc ?_ ?_ ?_ ; omega; omega; (clear hc; intro hc; subst hc)) | skip)) | (apply Exists.intro; apply And.intro; (first | (focus (repeat (first | (with_reducible assumption) | (with_reducible exact AH.set_same _ _ _))); done))) | (apply Exists.intro; apply And.intro; first | (with_reducible assumption) | ((try simp only [List.getElem?_drop, Nat.mul_one, Nat.add_zero, Nat.zero_add]); first | (with_reducible assumption) | rfl)) | (apply And.intro; (first | rfl | (with_reducible assumption) | omega | (simp <;> omega))))) <;> (try (conv => whnf)); refine Then.mk ?_))
        (repeat' ((conv => whnf); first | left | refine OpsA.cons ?_ | refine OpsA.nil ?_ | refine AWq.seq ?_ | refine AWq.region ?_ | refine AWq.cond ?_ | refine AWq.block ?_ | refine AWq.skip ?_ | refine AWq.ret ?_ | refine AWq.exit ?_ | refine AWq.loop ?_ | (refine Both.mk ?_ ?_ <;> intro hc <;> (first | exact Bool.noConfusion hc | exact absurd (by with_reducible rfl) hc | (exfalso; omega) | skip)) | (intro c hc; (try (simp only [AH.none_iff] at hc; repeat (have hn := hc.1; replace hc := hc.2))); (first | (refine i64_k hc ?_ ?_ ?_ ; omega; omega; (clear hc; intro hc; subst hc)) | skip)) | (apply Exists.intro; apply And.intro; (first | (focus (repeat (first | (with_reducible assumption) | (with_reducible exact AH.set_same _ _ _))); done))) | (apply Exists.intro; apply And.intro; first | (with_reducible assumption) | ((try simp only [List.getElem?_drop, Nat.mul_one, Nat.add_zero, Nat.zero_add]); first | (with_reducible assumption) | rfl)) | (apply And.intro; (first | rfl | (with_reducible assumption) | omega | (simp <;> omega))) | (refine ACall.to (hwi _) ?_))) <;> (try (conv => whnf))
        refine Then.mk ?_
        (iterate 1 ((repeat' ((conv => whnf); first | left | refine OpsA.cons ?_ | refine OpsA.nil ?_ | refine AWq.seq ?_ | refine AWq.region ?_ | refine AWq.cond ?_ | refine AWq.block ?_ | refine AWq.skip ?_ | refine AWq.ret ?_ | refine AWq.exit ?_ | refine AWq.loop ?_ | (refine Both.mk ?_ ?_ <;> intro hc <;> (first | exact Bool.noConfusion hc | exact absurd (by with_reducible rfl) hc | (exfalso; omega) | skip)) | (intro c hc; (try (simp only [AH.none_iff] at hc; repeat (have hn := hc.1; replace hc := hc.2))); (first | (refine i64_k hc ?_ ?_ ?_ ; omega; omega; (clear hc; intro hc; subst hc)) | skip)) | (apply Exists.intro; apply And.intro; (first | (focus (repeat (first | (with_reducible assumption) | (with_reducible exact AH.set_same _ _ _))); done))) | (apply Exists.intro; apply And.intro; first | (with_reducible assumption) | ((try simp only [List.getElem?_drop, Nat.mul_one, Nat.add_zero, Nat.zero_add]); first | (with_reducible assumption) | rfl)) | (apply And.intro; (first | rfl | (with_reducible assumption) | omega | (simp <;> omega))))) <;> (try (conv => whnf)); refine Then.mk ?_))
        (repeat' ((conv => whnf); first | left | refine OpsA.cons ?_ | refine OpsA.nil ?_ | refine AWq.seq ?_ | refine AWq.region ?_ | refine AWq.cond ?_ | refine AWq.block ?_ | refine AWq.skip ?_ | refine AWq.ret ?_ | refine AWq.exit ?_ | refine AWq.loop ?_ | (refine Both.mk ?_ ?_ <;> intro hc <;> (first | exact Bool.noConfusion hc | exact absurd (by with_reducible rfl) hc | (exfalso; omega) | skip)) | (intro c hc; (try (simp only [AH.none_iff] at hc; repeat (have hn := hc.1; replace hc := hc.2))); (first | (refine i64_k hc ?_ ?_ ?_ ; omega; omega; (clear hc; intro hc; subst hc)) | skip)) | (apply Exists.intro; apply And.intro; (first | (focus (repeat (first | (with_reducible assumption) | (with_reducible exact AH.set_same _ _ _))); done))) | (apply Exists.intro; apply And.intro; first | (with_reducible assumption) | ((try simp only [List.getElem?_drop, Nat.mul_one, Nat.add_zero, Nat.zero_add]); first | (with_reducible assumption) | rfl)) | (apply And.intro; (first | rfl | (with_reducible assumption) | omega | (simp <;> omega))))) <;> (try (conv => whnf))
        refine Then.mk (AWq.in ?_)
        have hA2l : (acL (setFl A0 (L.take (i + 1)))).length = A0.length * 5 := by rw [acL_len, setFl_len]
        rw [← hst] at gd
        refine AWp_less (S.set ra (.row (acL (setFl A0 (L.take (i + 1)))) A0.length)) (HLe.of_eq (by rw [hst]; exact (AH.set_set _ _ _ _).symm)) ?_
        refine AWp.of tt_ok (dok _) rfl ?_
        generalize hA2 : acL (setFl A0 (L.take (i + 1))) = R2 at *
        (repeat' ((conv => whnf); first | refine Then.mk ?_ | left | refine OpsA.cons ?_ | refine OpsA.nil ?_ | refine AWq.seq ?_ | refine AWq.region ?_ | refine AWq.cond ?_ | refine AWq.block ?_ | refine AWq.skip ?_ | refine AWq.ret ?_ | refine AWq.exit ?_ | refine AWq.loop ?_ | (refine Both.mk ?_ ?_ <;> intro hc <;> (first | exact Bool.noConfusion hc | exact absurd (by with_reducible rfl) hc | (exfalso; omega) | skip)) | (intro c hc; (try (simp only [AH.none_iff] at hc; repeat (have hn := hc.1; replace hc := hc.2))); (first | (refine i64_k hc ?_ ?_ ?_ ; omega; omega; (clear hc; intro hc; subst hc)) | skip)) | (apply Exists.intro; apply And.intro; (first | (focus (repeat (first | (with_reducible assumption) | (with_reducible exact AH.set_same _ _ _))); done))) | (apply Exists.intro; apply And.intro; first | (with_reducible assumption) | ((try simp only [List.getElem?_drop, Nat.mul_one, Nat.add_zero, Nat.zero_add]); first | (with_reducible assumption) | rfl)) | (apply And.intro; (first | rfl | (with_reducible assumption) | omega | (simp <;> omega))))) <;> (try (conv => whnf))
        refine ⟨i + 1, ⟨hil2, hwn hin⟩, by omega, ⟨congrArg (AV.int .i64) (by omega), congrArg (AV.int .i64) (by rw [hvn]), trivial⟩, HLe.of_eq ?_⟩
        rw [hA2]
      · have hwi := fun H => within1_c x.w (by omega) f false (decide_eq_false hin) H
        have hen := he2 (hno hin)
        subst hen
        (repeat' ((conv => whnf); first | refine Then.mk ?_ | left | refine OpsA.cons ?_ | refine OpsA.nil ?_ | refine AWq.seq ?_ | refine AWq.region ?_ | refine AWq.cond ?_ | refine AWq.block ?_ | refine AWq.skip ?_ | refine AWq.ret ?_ | refine AWq.exit ?_ | refine AWq.loop ?_ | (refine Both.mk ?_ ?_ <;> intro hc <;> (first | exact Bool.noConfusion hc | exact absurd (by with_reducible rfl) hc | (exfalso; omega) | skip)) | (intro c hc; (try (simp only [AH.none_iff] at hc; repeat (have hn := hc.1; replace hc := hc.2))); (first | (refine i64_k hc ?_ ?_ ?_ ; omega; omega; (clear hc; intro hc; subst hc)) | skip)) | (apply Exists.intro; apply And.intro; (first | (focus (repeat (first | (with_reducible assumption) | (with_reducible exact AH.set_same _ _ _))); done))) | (apply Exists.intro; apply And.intro; first | (with_reducible assumption) | ((try simp only [List.getElem?_drop, Nat.mul_one, Nat.add_zero, Nat.zero_add]); first | (with_reducible assumption) | rfl)) | (apply And.intro; (first | rfl | (with_reducible assumption) | omega | (simp <;> omega))) | (refine ACall.to (hwi _) ?_))) <;> (try (conv => whnf))
        exact HLe.set_of _ _ hHS hHra
    · have hie : i = L.length := by omega
      rw [hie, List.take_of_length_le (Nat.le_refl _)] at hall
      have hte : L.take i = L := List.take_of_length_le (by omega)
      rw [hte] at hvb ⊢
      obtain ⟨A, hA⟩ : ∃ A, A = setFl A0 L := ⟨_, rfl⟩
      have hAok : ∀ x ∈ A, AcOk n x := by rw [hA]; exact setFl_ok hJ0.ok hall
      have hAl : A.length = A0.length := by rw [hA, setFl_len]
      rw [← hA]
      obtain ⟨vv, hvv⟩ : ∃ vv, vv = valF A0 L := ⟨_, rfl⟩
      rw [← hvv] at hvb ⊢
      have hk7 : (S.set ra (.row (acL A) A0.length)) c7 = some (.row [.cs (iS .i64 O) O.length, .cs (iS .i64 E) E.length, .cs (iS .i64 F) F.length, .int .i64 c] 0) := by rw [AH.set_ne _ _ (Ne.symm na7)]; exact hSc
      have hNet : NetAt (S.set ra (.row (acL A) A0.length)) n A g 0 ra A0.length none := ⟨by rw [AH.set_ne _ _ hgra, hAl]; exact hSg, AH.set_same _ _ _, hgra⟩
      have hnet := net_c n (by omega) A hAok (by omega) _ g 0 ra A0.length none hNet
      have hHG : HLe H (S.set ra (.row (acL A) A0.length)) := HLe.set_of _ _ hHS hHra
      obtain ⟨G, hG⟩ : ∃ G, G = S.set ra (.row (acL A) A0.length) := ⟨_, rfl⟩
      rw [← hG] at hk7 hnet hHG ⊢
      have hcost := fun H => cost_c es fs O (by omega) (by omega) (by omega) H
      have hcon := fun H => contains0_c (fun x => decide (x ≠ 0)) 48 (fnL n (netN A)) (by simp; omega) H (fun x _ => chk1_c x H)
      have htn : dL n (netN A) = List.take ((n : Int).toNat * 1) (dL (n + 1) (netN A)) := by
        rw [Int.toNat_natCast, Nat.mul_one]
        unfold dL iS
        rw [← List.map_take]
        congr 1
        unfold fnL
        rw [← List.map_take, List.take_range]
        congr 2; omega
      rw [fnL_len] at hcon
      have hcon : ∀ H, ACall Try.prog 47 [.cs (List.take ((n : Int).toNat * 1) (dL (n + 1) (netN A))) (n : Int).toNat, .fn (.func 48) [] []] H (fun y H' => y = .bool ((fnL n (netN A)).any fun x => decide (x ≠ 0)) ∧ H' = H) := fun H => by
        rw [← htn]; exact hcon H
      have hdl := dL_len (n + 1) (netN A)
      have hany : ((fnL n (netN A)).any fun x => decide (x ≠ 0)) = false ↔ ∀ v, v < n → netN A v = 0 := by
        rw [List.any_eq_false]
        constructor
        · intro h v hv
          have := h (netN A v) (List.mem_map.2 ⟨v, by simpa using hv, rfl⟩)
          simpa using this
        · intro h x hx
          obtain ⟨v, hv, rfl⟩ := List.mem_map.1 hx
          simpa using h v (by simpa using hv)
      have hP : ChkP n es fs O E F c ↔ (costR es fs O).2 = 0 ∧ (costR es fs O).1 = c ∧ vv = c ∧ ((fnL n (netN A)).any fun x => decide (x ≠ 0)) = false := by
        rw [hany]
        constructor
        · intro k
          refine ⟨by rw [k.co], by rw [k.co], ?_, ?_⟩
          · rw [hvv, hL, hA0]; exact k.va
          · rw [hA, hL, hA0]; exact k.ne
        · rintro ⟨k1, k2, k3, k4⟩
          refine ⟨l1, l2, l3, ?_, Prod.ext k2 k1, ?_, ?_⟩
          · rw [← hL, ← hA0]; exact hall
          · rw [← hL, ← hA0, ← hvv]; exact k3
          · rw [← hL, ← hA0, ← hA]; exact k4
      generalize ((fnL n (netN A)).any fun x => decide (x ≠ 0)) = bb at *
      generalize costR es fs O = cr at *
      obtain ⟨cr1, cr2⟩ := cr
      dsimp only at hP hcost
      by_cases hgood : cr2 = 0 ∧ cr1 = c ∧ vv = c ∧ bb = false
      · have hen := he1 (hP.2 hgood)
        obtain ⟨rfl, rfl, rfl, rfl⟩ := hgood
        subst hen
        (repeat' ((conv => whnf); first | refine Then.mk ?_ | left | refine OpsA.cons ?_ | refine OpsA.nil ?_ | refine AWq.seq ?_ | refine AWq.region ?_ | refine AWq.cond ?_ | refine AWq.block ?_ | refine AWq.skip ?_ | refine AWq.ret ?_ | refine AWq.exit ?_ | refine AWq.loop ?_ | (refine Both.mk ?_ ?_ <;> intro hc <;> (first | exact Bool.noConfusion hc | exact absurd (by with_reducible rfl) hc | (exfalso; omega) | skip)) | (intro c hc; (try (simp only [AH.none_iff] at hc; repeat (have hn := hc.1; replace hc := hc.2))); (first | (refine i64_k hc ?_ ?_ ?_ ; omega; omega; (clear hc; intro hc; subst hc)) | skip)) | (apply Exists.intro; apply And.intro; (first | (focus (repeat (first | (with_reducible assumption) | (with_reducible exact AH.set_same _ _ _))); done))) | (apply Exists.intro; apply And.intro; first | (with_reducible assumption) | ((try simp only [List.getElem?_drop, Nat.mul_one, Nat.add_zero, Nat.zero_add]); first | (with_reducible assumption) | rfl)) | (apply And.intro; (first | rfl | (with_reducible assumption) | omega | (simp <;> omega))) | (refine ACall.to (hcost _) ?_) | (refine ACall.to (hnet) ?_) | (refine ACall.to (hcon _) ?_))) <;> (try (conv => whnf))
        all_goals exact hHG
      · have hen := he2 (fun k => hgood (hP.1 k))
        subst hen
        cases bb with
        | true =>
          (repeat' ((conv => whnf); first | refine Then.mk ?_ | left | refine OpsA.cons ?_ | refine OpsA.nil ?_ | refine AWq.seq ?_ | refine AWq.region ?_ | refine AWq.cond ?_ | refine AWq.block ?_ | refine AWq.skip ?_ | refine AWq.ret ?_ | refine AWq.exit ?_ | refine AWq.loop ?_ | (refine Both.mk ?_ ?_ <;> intro hc <;> (first | exact Bool.noConfusion hc | exact absurd (by with_reducible rfl) hc | (exfalso; omega) | skip)) | (intro c hc; (try (simp only [AH.none_iff] at hc; repeat (have hn := hc.1; replace hc := hc.2))); (first | (refine i64_k hc ?_ ?_ ?_ ; omega; omega; (clear hc; intro hc; subst hc)) | skip)) | (apply Exists.intro; apply And.intro; (first | (focus (repeat (first | (with_reducible assumption) | (with_reducible exact AH.set_same _ _ _))); done))) | (apply Exists.intro; apply And.intro; first | (with_reducible assumption) | ((try simp only [List.getElem?_drop, Nat.mul_one, Nat.add_zero, Nat.zero_add]); first | (with_reducible assumption) | rfl)) | (apply And.intro; (first | rfl | (with_reducible assumption) | omega | (simp <;> omega))) | (refine ACall.to (hcost _) ?_) | (refine ACall.to (hnet) ?_) | (refine ACall.to (hcon _) ?_))) <;> (try (conv => whnf))
          all_goals exact hHG
        | false =>
          have hg2 : ¬ (cr2 = 0 ∧ cr1 = c ∧ vv = c) := fun k => hgood ⟨k.1, k.2.1, k.2.2, rfl⟩
          (repeat' ((conv => whnf); first | refine Then.mk ?_ | left | refine OpsA.cons ?_ | refine OpsA.nil ?_ | refine AWq.seq ?_ | refine AWq.region ?_ | refine AWq.cond ?_ | refine AWq.block ?_ | refine AWq.skip ?_ | refine AWq.ret ?_ | refine AWq.exit ?_ | refine AWq.loop ?_ | (refine Both.mk ?_ ?_ <;> intro hc <;> (first | exact Bool.noConfusion hc | exact absurd (by with_reducible rfl) hc | (exfalso; omega) | skip)) | (intro c hc; (try (simp only [AH.none_iff] at hc; repeat (have hn := hc.1; replace hc := hc.2))); (first | (refine i64_k hc ?_ ?_ ?_ ; omega; omega; (clear hc; intro hc; subst hc)) | skip)) | (apply Exists.intro; apply And.intro; (first | (focus (repeat (first | (with_reducible assumption) | (with_reducible exact AH.set_same _ _ _))); done))) | (apply Exists.intro; apply And.intro; first | (with_reducible assumption) | ((try simp only [List.getElem?_drop, Nat.mul_one, Nat.add_zero, Nat.zero_add]); first | (with_reducible assumption) | rfl)) | (apply And.intro; (first | rfl | (with_reducible assumption) | omega | (simp <;> omega))) | (refine ACall.to (hcost _) ?_) | (refine ACall.to (hnet) ?_) | (refine ACall.to (hcon _) ?_))) <;> (try (conv => whnf))
          all_goals exact hHG
  · have hen := he2 (fun k => hl ⟨k.l1, k.l2, k.l3⟩)
    subst hen
    refine ACall_of tt_ok (dok _) Try.func22 rfl (by decide) rfl ?_
    (repeat' ((conv => whnf); first | refine Then.mk ?_ | left | refine OpsA.cons ?_ | refine OpsA.nil ?_ | refine AWq.seq ?_ | refine AWq.region ?_ | refine AWq.cond ?_ | refine AWq.block ?_ | refine AWq.skip ?_ | refine AWq.ret ?_ | refine AWq.exit ?_ | refine AWq.loop ?_ | (refine Both.mk ?_ ?_ <;> intro hc <;> (first | exact Bool.noConfusion hc | exact absurd (by with_reducible rfl) hc | (exfalso; omega) | skip)) | (intro c hc; (try (simp only [AH.none_iff] at hc; repeat (have hn := hc.1; replace hc := hc.2))); (first | (refine i64_k hc ?_ ?_ ?_ ; omega; omega; (clear hc; intro hc; subst hc)) | skip)) | (apply Exists.intro; apply And.intro; (first | (focus (repeat (first | (with_reducible assumption) | (with_reducible exact AH.set_same _ _ _))); done))) | (apply Exists.intro; apply And.intro; first | (with_reducible assumption) | ((try simp only [List.getElem?_drop, Nat.mul_one, Nat.add_zero, Nat.zero_add]); first | (with_reducible assumption) | rfl)) | (apply And.intro; (first | rfl | (with_reducible assumption) | omega | (simp <;> omega))) | (refine ACall.to (hv1 _) ?_))) <;> (try (conv => whnf))
    all_goals exact HLe.fresh _ (by assumption)
end Go.Proofs.Ytebflkgpbbjhnaa
/- The plain law of balance: Solve's answer is the best one. -/
namespace Go.Proofs.Ytebflkgpbbjhnaa
open Go.Fw Go
set_option linter.unusedVariables false
set_option linter.unusedSimpArgs false

theorem Alk.cons {x : Ac} {A B : List Ac} (h : Alk (x :: A) B) : ∃ g B', B = addF x g :: B' ∧ Alk A B' := by
  obtain ⟨g, hg⟩ := (h 0).1 x rfl
  cases B with
  | nil => simp at hg
  | cons y B =>
    simp at hg
    subst hg
    refine ⟨g, B, rfl, fun i => ⟨fun z hz => ?_, fun hn => ?_⟩⟩
    · have := (h (i + 1)).1 z (by simpa using hz)
      simpa using this
    · have := (h (i + 1)).2 (by simpa using hn)
      simpa using this
theorem Alk.sum {g : Ac → Int} (hg : ∀ x z, g (addF x z) = g x) : ∀ {A B : List Ac}, Alk A B → (B.map g).sum = (A.map g).sum
  | [], B, h => by
    have := h.len
    have : B = [] := List.eq_nil_of_length_eq_zero (by simpa using this)
    rw [this]
  | x :: A, B, h => by
    obtain ⟨z, B', rfl, h'⟩ := h.cons
    rw [List.map_cons, List.sum_cons, List.map_cons, List.sum_cons, hg, Alk.sum hg h']
/-- Offsets with 0 for the further node. -/
def nul (n : Nat) (q : Nat → Int) : Nat → Int := fun v => if v = n then 0 else q v
theorem cost_net {n : Nat} {es : List Ed} {fs : List Fx} (hE : ∀ x ∈ es, vE n x) (hF : ∀ x ∈ fs, vF n x) (q : Nat → Int) : costA (nul n q) (net0 n es fs) = costP es fs q := by
  unfold costA costP net0
  rw [List.map_append, List.sum_append, List.map_map, List.map_map]
  congr 1
  · refine congrArg List.sum (List.map_congr_left fun x hx => ?_)
    obtain ⟨v1, v2, v3, v4, v5⟩ := hE x hx
    show x.w * absI (nul n q x.a.toNat - nul n q x.b.toNat - x.d) = costE q x
    unfold nul costE
    rw [if_neg (by omega), if_neg (by omega)]
  · refine congrArg List.sum (List.map_congr_left fun x hx => ?_)
    obtain ⟨v1, v4, v5⟩ := hF x hx
    show x.w * absI (nul n q x.a.toNat - nul n q n - x.v) = costF q x
    unfold nul costF
    rw [if_neg (by omega), if_pos rfl, Int.sub_zero]
theorem cost_alk {n : Nat} {es : List Ed} {fs : List Fx} (hE : ∀ x ∈ es, vE n x) (hF : ∀ x ∈ fs, vF n x) {A : List Ac} (h : Alk (net0 n es fs) A) (q : Nat → Int) : costA (nul n q) A = costP es fs q := by
  rw [← cost_net hE hF]
  exact h.sum fun x z => rfl

theorem Sv.bs {n : Nat} {es : List Ed} {fs : List Fx} {A : List Ac} {d o : Nat → Int} (h : Sv n es fs A d o) {v : Nat} (hv : v ≤ n) : 0 ≤ bsN n o v ∧ bsN n o v ≤ n := by
  have h1 := h.bi.lo v hv
  have h2 := h.bi.up v hv
  unfold bsN; split <;> omega
theorem Sv.at {n : Nat} {es : List Ed} {fs : List Fx} {A : List Ac} {d o : Nat → Int} (h : Sv n es fs A d o) {v : Nat} (hv : v < n) : ofL (fnL n (offS n d o)) v = d v - d (bsN n o v).toNat := by
  unfold ofL
  rw [List.getD_eq_getElem?_getD, fnL_get _ hv]; rfl
theorem Sv.off {n : Nat} {es : List Ed} {fs : List Fx} {A : List Ac} {d o : Nat → Int} (h : Sv n es fs A d o) {x : Ac} (hx : x ∈ A) : off (nul n (ofL (fnL n (offS n d o)))) x = off d x := by
  obtain ⟨xa, xb, _, _, _, _, _, _⟩ := h.ok x hx
  have key : ∀ v, v ≤ n → nul n (ofL (fnL n (offS n d o))) v = d v - d (bsN n o v).toNat := fun v hv => by
    unfold nul
    by_cases e : v = n
    · rw [if_pos e, e]
      have : bsN n o n = n := by unfold bsN; rw [h.bi.last]; rfl
      rw [this, Int.toNat_natCast]; omega
    · rw [if_neg e]; exact h.at (by omega)
  have hb : bsN n o x.a = bsN n o x.b := by unfold bsN; rw [h.eq x hx]
  unfold Proofs.Ytebflkgpbbjhnaa.off
  rw [key _ xa, key _ xb, hb]; omega
theorem Sv.bd {n : Nat} {es : List Ed} {fs : List Fx} {A : List Ac} {d o : Nat → Int} (h : Sv n es fs A d o) {v : Nat} (hn : n ≤ 64) (hv : v < n) : -4259840 ≤ ofL (fnL n (offS n d o)) v ∧ ofL (fnL n (offS n d o)) v ≤ 4259840 := by
  rw [h.at hv]
  obtain ⟨b1, b2⟩ := h.bs (v := v) (by omega)
  have l1 := h.lo v (by omega)
  have u1 := h.up v (by omega)
  have l2 := h.lo (bsN n o v).toNat (by omega)
  have u2 := h.up (bsN n o v).toNat (by omega)
  omega
theorem Sv.range {n : Nat} {es : List Ed} {fs : List Fx} {A : List Ac} {d o : Nat → Int} (h : Sv n es fs A d o) (hn : n ≤ 64) : ∀ x ∈ fnL n (offS n d o), -1073741824 ≤ x ∧ x ≤ 1073741824 := by
  intro x hx
  obtain ⟨v, hv, rfl⟩ := List.mem_map.1 hx
  have hv : v < n := by simpa using hv
  have h1 := h.bd hn hv
  have h2 := h.at hv
  have : offS n d o v = d v - d (bsN n o v).toNat := rfl
  omega
/-- Its cost is what its flows are worth. -/
theorem Sv.cost {n : Nat} {es : List Ed} {fs : List Fx} {A : List Ac} {d o : Nat → Int} (h : Sv n es fs A d o) (hE : ∀ x ∈ es, vE n x) (hF : ∀ x ∈ fs, vF n x) : costP es fs (ofL (fnL n (offS n d o))) = valA A := by
  rw [← cost_alk hE hF h.alk, equal h.ok (o := d) (fun v hv => by rw [h.net v hv, Int.mul_zero]) h.fe]
  unfold costA
  exact congrArg List.sum (List.map_congr_left fun x hx => by rw [h.off hx])
/-- No other offsets cost less. -/
theorem Sv.min {n : Nat} {es : List Ed} {fs : List Fx} {A : List Ac} {d o : Nat → Int} (h : Sv n es fs A d o) (hE : ∀ x ∈ es, vE n x) (hF : ∀ x ∈ fs, vF n x) (q : Nat → Int) : costP es fs (ofL (fnL n (offS n d o))) ≤ costP es fs q := by
  rw [h.cost hE hF, ← cost_alk hE hF h.alk]
  exact weak h.ok fun v hv => by rw [h.net v hv, Int.mul_zero]
theorem Sv.costR {n : Nat} {es : List Ed} {fs : List Fx} {A : List Ac} {d o : Nat → Int} (h : Sv n es fs A d o) (hE : ∀ x ∈ es, vE n x) (hF : ∀ x ∈ fs, vF n x) (hv : validV n es fs = 0) : Proofs.Ytebflkgpbbjhnaa.costR es fs (fnL n (offS n d o)) = (costP es fs (ofL (fnL n (offS n d o))), 0) := by
  obtain ⟨⟨_, hn⟩, _, _, _⟩ := validV_ok hv
  unfold Proofs.Ytebflkgpbbjhnaa.costR
  rw [fnL_len, hv, if_neg (by simp), if_pos (h.range (by omega))]
theorem Sv.flows {n : Nat} {es : List Ed} {fs : List Fx} {A : List Ac} {d o : Nat → Int} (h : Sv n es fs A d o) (hE : ∀ x ∈ es, vE n x) (hF : ∀ x ∈ fs, vF n x) : setFl (net0 n es fs) (flE es A ++ flF es A) = A ∧ allW (net0 n es fs) (flE es A ++ flF es A) ∧ valF (net0 n es fs) (flE es A ++ flF es A) = valA A ∧ (flE es A).length = es.length ∧ (flF es A).length = fs.length := by
  have hl := h.alk.len
  have hl0 : (net0 n es fs).length = es.length + fs.length := by unfold net0; simp
  have hEF : flE es A ++ flF es A = A.map (·.f) := by
    unfold flE flF; rw [← List.map_append, List.take_append_drop]
  rw [hEF]
  have gen : ∀ {A0 A : List Ac}, Alk A0 A → (∀ x ∈ A, -x.w ≤ x.f ∧ x.f ≤ x.w) → setFl A0 (A.map (·.f)) = A ∧ allW A0 (A.map (·.f)) ∧ valF A0 (A.map (·.f)) = valA A := by
    intro A0
    induction A0 with
    | nil =>
      intro A hal _
      have : A = [] := List.eq_nil_of_length_eq_zero (by simpa using hal.len)
      subst this
      exact ⟨rfl, fun i x hx => by simp at hx, rfl⟩
    | cons x A0 ih =>
      intro A hal hw
      obtain ⟨z, B, rfl, h'⟩ := hal.cons
      obtain ⟨i1, i2, i3⟩ := ih h' fun y hy => hw y (by simp [hy])
      have hw0 := hw _ (List.mem_cons_self ..)
      refine ⟨?_, fun i y hy hi => ?_, ?_⟩
      · simp only [List.map_cons, setFl, i1]; rfl
      · cases i with
        | zero => simp at hy; subst hy; exact hw0
        | succ i =>
          have := i2 i y (by simpa using hy) (by simpa using hi)
          simpa using this
      · simp only [List.map_cons, valF, i3]; rfl
  obtain ⟨g1, g2, g3⟩ := gen h.alk fun x hx => ⟨(h.ok x hx).f1, (h.ok x hx).f2⟩
  refine ⟨g1, g2, g3, ?_, ?_⟩
  · unfold flE; rw [List.length_map, List.length_take]; omega
  · unfold flF; rw [List.length_map, List.length_drop]; omega
theorem Sv.chk {n : Nat} {es : List Ed} {fs : List Fx} {A : List Ac} {d o : Nat → Int} (h : Sv n es fs A d o) (hE : ∀ x ∈ es, vE n x) (hF : ∀ x ∈ fs, vF n x) (hv : validV n es fs = 0) : ChkP n es fs (fnL n (offS n d o)) (flE es A) (flF es A) (Proofs.Ytebflkgpbbjhnaa.costR es fs (fnL n (offS n d o))).1 := by
  obtain ⟨f1, f2, f3, f4, f5⟩ := h.flows hE hF
  have hc := h.costR hE hF hv
  refine ⟨fnL_len _ _, f4, f5, f2, by rw [hc], ?_, fun v hv => ?_⟩
  · rw [hc, f3, h.cost hE hF]
  · rw [f1]; exact h.net v (by omega)
end Go.Proofs.Ytebflkgpbbjhnaa
/- The walks of balance: Solve's answer is accepted; the example. -/
namespace Go.Proofs.Ytebflkgpbbjhnaa
open Go.Fw Go
set_option linter.unusedVariables false
set_option linter.unusedSimpArgs false

theorem check_solved {n : Nat} {es : List Ed} {fs : List Fx} {A : List Ac} {d o : Nat → Int} (h : Sv n es fs A d o) (hv : validV n es fs = 0) (H : AH) :
    ACall Try.prog 22 [.int .i64 n, .cs (edL es) es.length, .cs (fxL fs) fs.length, .agg [.cs (iS .i64 (fnL n (offS n d o))) n, .cs (iS .i64 (flE es A)) es.length, .cs (iS .i64 (flF es A)) fs.length, .int .i64 (costR es fs (fnL n (offS n d o))).1]] H (fun y H' => y = .int .i64 0 ∧ H' = H) := by
  obtain ⟨⟨_, hn⟩, ⟨he, hf⟩, hE, hF⟩ := validV_ok hv
  obtain ⟨_, _, _, f4, f5⟩ := h.flows hE hF
  have hc := check_c n es fs hv (fnL n (offS n d o)) (flE es A) (flF es A) (costR es fs (fnL n (offS n d o))).1 (by rw [fnL_len]; omega) (by omega) (by omega) 0 (fun _ => rfl) (fun k => absurd (h.chk hE hF hv) k) H
  rw [fnL_len, f4, f5] at hc
  exact hc
set_option maxRecDepth 8000 in
theorem lives17_c (H : AH) : ACall Try.prog 19 [] H (fun y H' => y = .bool true ∧ H' = H) := by
  obtain ⟨es, hes⟩ : ∃ es : List Ed, es = [⟨0, 1, 5, 2⟩] := ⟨_, rfl⟩
  obtain ⟨fs, hfs⟩ : ∃ fs : List Fx, fs = [⟨0, 0, 1⟩, ⟨1, 3, 1⟩] := ⟨_, rfl⟩
  have hv : validV (2 : Nat) es fs = 0 := by rw [hes, hfs]; decide
  obtain ⟨_, _, hE, hF⟩ := validV_ok hv
  have hsolve := fun H => solve_c 2 es fs hv H
  have c1 := fun H => cost_c es fs [0, -5] (by rw [hes]; decide) (by rw [hfs]; decide) (by decide) H
  have c2 := fun H => cost_c es fs [8, 3] (by rw [hes]; decide) (by rw [hfs]; decide) (by decide) H
  have e1 : costR es fs [0, -5] = (8, 0) := by rw [hes, hfs]; decide
  have e2 : costR es fs [8, 3] = (8, 0) := by rw [hes, hfs]; decide
  rw [e1] at c1
  rw [e2] at c2
  have p1 : costP es fs (ofL [0, -5]) = 8 := by rw [hes, hfs]; decide
  have hlow : ∀ q : Nat → Int, 8 ≤ costP es fs q := fun q => by
    rw [hes, hfs]
    unfold costP
    simp only [List.map_cons, List.map_nil, List.sum_cons, List.sum_nil, costE, costF]
    show 8 ≤ 2 * absI (q 0 - q 1 - 5) + 0 + (1 * absI (q 0 - 0) + (1 * absI (q 1 - 3) + 0))
    unfold absI
    split <;> split <;> split <;> omega
  have hchk := fun A d o (h : Sv 2 es fs A d o) H => check_solved h hv H
  have hR : edL es = [.int .i64 0, .int .i64 1, .int .i64 5, .int .i64 2] := by rw [hes]; rfl
  have hR2 : fxL fs = [.int .i64 0, .int .i64 0, .int .i64 1, .int .i64 1, .int .i64 3, .int .i64 1] := by rw [hfs]; rfl
  have l1 : es.length = 1 := by rw [hes]; rfl
  have l2 : fs.length = 2 := by rw [hfs]; rfl
  rw [l1, l2, hR, hR2] at hsolve c1 c2 hchk
  refine ACall.back ?_
  refine ACall_of tt_ok (dok _) Try.func19 rfl (by decide) rfl ?_
  (repeat' ((conv => whnf); first | refine Then.mk ?_ | left | refine OpsA.cons ?_ | refine OpsA.nil ?_ | refine AWq.seq ?_ | refine AWq.region ?_ | refine AWq.ret ?_ | (refine Both.mk ?_ ?_ <;> intro hc <;> (first | exact absurd (by with_reducible rfl) hc | skip)) | (intro c hc; (try (simp only [AH.none_iff] at hc; repeat (have hn := hc.1; replace hc := hc.2))); (first | skip)) | (apply Exists.intro; apply And.intro; (first | (focus (repeat (first | (with_reducible assumption) | (with_reducible exact AH.set_same _ _ _))); done))) | (apply Exists.intro; apply And.intro; first | (with_reducible assumption) | ((try simp only [List.getElem?_drop, Nat.mul_one, Nat.add_zero, Nat.zero_add]); first | (with_reducible assumption) | rfl)) | (apply And.intro; (first | rfl | (with_reducible assumption) | exact Nat.le_of_ble_eq_true rfl)))) <;> (try (conv => whnf))
  refine ACall.mono (hsolve _) ?_
  rintro y H' ⟨A, d, o, hSv, rfl, rfl⟩
  have hk := fun H => hchk A d o hSv H
  have hm1 := hSv.min hE hF (ofL [0, -5])
  have hm2 := hlow (ofL (fnL 2 (offS 2 d o)))
  have hcr := hSv.costR hE hF hv
  have hco : (costR es fs (fnL 2 (offS 2 d o))).1 = 8 := by rw [hcr]; show costP es fs _ = 8; omega
  unfold solV
  rw [hco, l1, l2]
  rw [hco] at hk
  (repeat' ((conv => whnf); first | refine Then.mk ?_ | left | refine OpsA.cons ?_ | refine OpsA.nil ?_ | refine AWq.seq ?_ | refine AWq.region ?_ | refine AWq.ret ?_ | (refine Both.mk ?_ ?_ <;> intro hc <;> (first | exact absurd (by with_reducible rfl) hc | skip)) | (intro c hc; (try (simp only [AH.none_iff] at hc; repeat (have hn := hc.1; replace hc := hc.2))); (first | skip)) | (apply Exists.intro; apply And.intro; (first | (focus (repeat (first | (with_reducible assumption) | (with_reducible exact AH.set_same _ _ _))); done))) | (apply Exists.intro; apply And.intro; first | (with_reducible assumption) | ((try simp only [List.getElem?_drop, Nat.mul_one, Nat.add_zero, Nat.zero_add]); first | (with_reducible assumption) | rfl)) | (apply And.intro; (first | rfl | (with_reducible assumption) | exact Nat.le_of_ble_eq_true rfl)) | (refine ACall.to (c1 _) ?_) | (refine ACall.to (c2 _) ?_) | (refine ACall.to (hk _) ?_))) <;> (try (conv => whnf))
  (first | ((repeat' (first | (with_reducible exact HLe.refl _) | (with_reducible assumption) | refine HLe.set_of _ _ ?_ ?_)); done))
end Go.Proofs.Ytebflkgpbbjhnaa
/- The walks of balance: real, plain. -/
namespace Go.Proofs.Ytebflkgpbbjhnaa
open Go.Fw Go
set_option linter.unusedVariables false
set_option linter.unusedSimpArgs false

theorem edL_get {l : List Ed} {i : Nat} {x : Ed} (h : l[i]? = some x) (j : Nat) (hj : j < 4) : (edL l)[i * 4 + j]? = (edA x)[j]? := fL_get edA_len h hj
theorem fxL_get {l : List Fx} {i : Nat} {x : Fx} (h : l[i]? = some x) (j : Nat) (hj : j < 3) : (fxL l)[i * 3 + j]? = (fxA x)[j]? := fL_get fxA_len h hj
set_option maxHeartbeats 4000000 in
set_option maxRecDepth 8000 in
theorem real_s (es : List Ed) (fs : List Fx) (he : es.length ≤ 1000000) (hf : fs.length ≤ 1000000) (H : AH) :
    ACall Try.prog 13 [.cs (edL es) es.length, .cs (fxL fs) fs.length] H (fun y H' => ∃ r1 r2 v1 v2, H r1 = none ∧ H r2 = none ∧ r1 ≠ r2 ∧ y = .tup [.sl r1 v1 4 0 es.length none, .sl r2 v2 3 0 fs.length none] ∧ H' = (H.set r1 (.row (edL es) v1)).set r2 (.row (fxL fs) v2)) := by
  have hel := edL_len es
  have hfl := fxL_len fs
  refine ACall_of tt_ok (dok _) Try.func13 rfl (by decide) rfl ?_
  (iterate 3 ((repeat' ((conv => whnf); first | left | refine OpsA.cons ?_ | refine OpsA.nil ?_ | refine AWq.seq ?_ | refine AWq.region ?_ | refine AWq.cond ?_ | refine AWq.block ?_ | refine AWq.skip ?_ | refine AWq.ret ?_ | refine AWq.exit ?_ | refine AWq.loop ?_ | refine DrawA.consD ?_ | refine DrawA.nil ?_ | refine AWq.draw (by decide +kernel) ?_ | (refine Both.mk ?_ ?_ <;> intro hc <;> (first | exact Bool.noConfusion hc | (exfalso; omega) | skip)) | (intro c hc; (try (simp only [AH.none_iff] at hc; repeat (have hn := hc.1; replace hc := hc.2))); (first | (refine i64_k hc ?_ ?_ ?_ ; omega; omega; (clear hc; intro hc; subst hc)) | skip)) | (apply Exists.intro; apply And.intro; (first | (focus (repeat (first | (with_reducible assumption) | (with_reducible exact AH.set_same _ _ _) | ((first | refine AH.get_ne ?_ ?_); (first | (with_reducible assumption) | exact Ne.symm (by with_reducible assumption))))); done))) | (apply Exists.intro; apply And.intro; first | (with_reducible assumption) | ((try simp only [List.getElem?_drop, Nat.mul_one, Nat.add_zero, Nat.zero_add]); first | (with_reducible assumption) | rfl)) | (apply And.intro; (first | rfl | (with_reducible assumption) | exact Nat.le_of_ble_eq_true rfl | omega | (simp <;> omega))))) <;> (try (conv => whnf)); refine Then.mk ?_))
  refine AWq.in ?_
  refine AWp_nilrow1 6 4 rfl rfl fun r1 hr1 => ?_
  refine AWp_nilrow1 7 3 rfl rfl fun r2 hr2 => ?_
  obtain ⟨hne, hr2⟩ := AH.none_set hr2
  refine AWp.of tt_ok (dok _) rfl ?_
  (repeat' ((conv => whnf); first | refine Then.mk ?_ | left | refine OpsA.cons ?_ | refine OpsA.nil ?_ | refine AWq.seq ?_ | refine AWq.region ?_ | refine AWq.cond ?_ | refine AWq.block ?_ | refine AWq.skip ?_ | refine AWq.ret ?_ | refine AWq.exit ?_ | refine AWq.loop ?_ | refine DrawA.consD ?_ | refine DrawA.nil ?_ | refine AWq.draw (by decide +kernel) ?_ | (refine Both.mk ?_ ?_ <;> intro hc <;> (first | exact Bool.noConfusion hc | (exfalso; omega) | skip)) | (intro c hc; (try (simp only [AH.none_iff] at hc; repeat (have hn := hc.1; replace hc := hc.2))); (first | (refine i64_k hc ?_ ?_ ?_ ; omega; omega; (clear hc; intro hc; subst hc)) | skip)) | (apply Exists.intro; apply And.intro; (first | (focus (repeat (first | (with_reducible assumption) | (with_reducible exact AH.set_same _ _ _) | ((first | refine AH.get_ne ?_ ?_); (first | (with_reducible assumption) | exact Ne.symm (by with_reducible assumption))))); done))) | (apply Exists.intro; apply And.intro; first | (with_reducible assumption) | ((try simp only [List.getElem?_drop, Nat.mul_one, Nat.add_zero, Nat.zero_add]); first | (with_reducible assumption) | rfl)) | (apply And.intro; (first | rfl | (with_reducible assumption) | exact Nat.le_of_ble_eq_true rfl | omega | (simp <;> omega))))) <;> (try (conv => whnf))
  refine AWp_loop (σ := Nat) (6 :: 8 :: 10 :: 11 :: 12 :: 13 :: 14 :: 15 :: 16 :: 17 :: 18 :: 19 :: 20 :: 21 :: 22 :: 23 :: 24 :: 25 :: 26 :: 27 :: 28 :: 29 :: 30 :: 31 :: 32 :: 33 :: 34 :: 35 :: 36 :: 37 :: 38 :: 39 :: []) (fun i => [(8, .int .i64 i), (6, .sl r1 i 4 0 i none)]) (fun i => (H.set r1 (.row (edL (es.take i)) i)).set r2 (.row [] 0)) (fun i => i ≤ es.length) (fun i => es.length - i) 0 rfl (Nat.zero_le _) ⟨rfl, rfl, trivial⟩ (HLe.refl _) ?_
  intro i hi
  refine AWp.of tt_ok (dok _) rfl ?_
  dsimp only at hi ⊢
  have hfi : (edL (es.take i)).length = i * 4 := by rw [edL_len, List.length_take, Nat.min_eq_left hi]
  have hg1 : ((H.set r1 (.row (edL (es.take i)) i)).set r2 (.row [] 0)) r1 = some (.row (edL (es.take i)) i) := by (focus (repeat (first | (with_reducible assumption) | (with_reducible exact AH.set_same _ _ _) | ((first | refine AH.get_ne ?_ ?_); (first | (with_reducible assumption) | exact Ne.symm (by with_reducible assumption))))); done)
  by_cases hilt : i < es.length
  · obtain ⟨x, hx⟩ : ∃ x, es[i]? = some x := ⟨_, List.getElem?_eq_getElem hilt⟩
    have g0 : (edL es)[(i : Int).toNat * 4]? = some (.int .i64 x.a) := edL_get hx 0 (by decide)
    have g1 : (edL es)[(i : Int).toNat * 4 + 1]? = some (.int .i64 x.b) := edL_get hx 1 (by decide)
    have g2 : (edL es)[(i : Int).toNat * 4 + 2]? = some (.int .i64 x.d) := edL_get hx 2 (by decide)
    have g3 : (edL es)[(i : Int).toNat * 4 + 3]? = some (.int .i64 x.w) := edL_get hx 3 (by decide)
    have hst : edL (es.take (i + 1)) = edL (es.take i) ++ [.int .i64 x.a, .int .i64 x.b, .int .i64 x.d, .int .i64 x.w] := by rw [take_snoc hx]; exact (fL_snoc edA _ _).symm
    generalize edL (es.take i) = R1 at *
    generalize hR2 : edL (es.take (i + 1)) = R2 at *
    (repeat' ((conv => whnf); first | refine Then.mk ?_ | left | refine OpsA.cons ?_ | refine OpsA.nil ?_ | refine AWq.seq ?_ | refine AWq.region ?_ | refine AWq.cond ?_ | refine AWq.block ?_ | refine AWq.skip ?_ | refine AWq.ret ?_ | refine AWq.exit ?_ | refine AWq.loop ?_ | refine DrawA.consD ?_ | refine DrawA.nil ?_ | refine AWq.draw (by decide +kernel) ?_ | (refine Both.mk ?_ ?_ <;> intro hc <;> (first | exact Bool.noConfusion hc | (exfalso; omega) | skip)) | (intro c hc; (try (simp only [AH.none_iff] at hc; repeat (have hn := hc.1; replace hc := hc.2))); (first | (refine i64_k hc ?_ ?_ ?_ ; omega; omega; (clear hc; intro hc; subst hc)) | skip)) | (apply Exists.intro; apply And.intro; (first | (focus (repeat (first | (with_reducible assumption) | (with_reducible exact AH.set_same _ _ _) | ((first | refine AH.get_ne ?_ ?_); (first | (with_reducible assumption) | exact Ne.symm (by with_reducible assumption))))); done))) | (apply Exists.intro; apply And.intro; first | (with_reducible assumption) | ((try simp only [List.getElem?_drop, Nat.mul_one, Nat.add_zero, Nat.zero_add]); first | (with_reducible assumption) | rfl)) | (apply And.intro; (first | rfl | (with_reducible assumption) | exact Nat.le_of_ble_eq_true rfl | omega | (simp <;> omega))))) <;> (try (conv => whnf))
    refine ⟨i + 1, hilt, by omega, ⟨congrArg (AV.int .i64) (by omega), rfl, trivial⟩, HLe.of_eq ?_⟩
    rw [hR2, hst]
    exact (AH.set_back _ (Ne.symm hne) _ _ _).symm
  · have hie : i = es.length := by omega
    have hte : es.take i = es := List.take_of_length_le (by omega)
    rw [hte]
    clear hfi hg1 hte
    (repeat' ((conv => whnf); first | refine Then.mk ?_ | left | refine OpsA.cons ?_ | refine OpsA.nil ?_ | refine AWq.seq ?_ | refine AWq.region ?_ | refine AWq.cond ?_ | refine AWq.block ?_ | refine AWq.skip ?_ | refine AWq.ret ?_ | refine AWq.exit ?_ | refine AWq.loop ?_ | refine DrawA.consD ?_ | refine DrawA.nil ?_ | refine AWq.draw (by decide +kernel) ?_ | (refine Both.mk ?_ ?_ <;> intro hc <;> (first | exact Bool.noConfusion hc | (exfalso; omega) | skip)) | (intro c hc; (try (simp only [AH.none_iff] at hc; repeat (have hn := hc.1; replace hc := hc.2))); (first | (refine i64_k hc ?_ ?_ ?_ ; omega; omega; (clear hc; intro hc; subst hc)) | skip)) | (apply Exists.intro; apply And.intro; (first | (focus (repeat (first | (with_reducible assumption) | (with_reducible exact AH.set_same _ _ _) | ((first | refine AH.get_ne ?_ ?_); (first | (with_reducible assumption) | exact Ne.symm (by with_reducible assumption))))); done))) | (apply Exists.intro; apply And.intro; first | (with_reducible assumption) | ((try simp only [List.getElem?_drop, Nat.mul_one, Nat.add_zero, Nat.zero_add]); first | (with_reducible assumption) | rfl)) | (apply And.intro; (first | rfl | (with_reducible assumption) | exact Nat.le_of_ble_eq_true rfl | omega | (simp <;> omega))))) <;> (try (conv => whnf))
    refine AWp_loop (σ := Nat) (7 :: 9 :: 40 :: 41 :: 42 :: 43 :: 44 :: 45 :: 46 :: 47 :: 48 :: 49 :: 50 :: 51 :: 52 :: 53 :: 54 :: 55 :: 56 :: 57 :: 58 :: 59 :: 60 :: 61 :: 62 :: 63 :: 64 :: []) (fun j => [(9, .int .i64 j), (7, .sl r2 j 3 0 j none)]) (fun j => (H.set r1 (.row (edL es) i)).set r2 (.row (fxL (fs.take j)) j)) (fun j => j ≤ fs.length) (fun j => fs.length - j) 0 rfl (Nat.zero_le _) ⟨rfl, rfl, trivial⟩ (HLe.refl _) ?_
    intro j hj
    refine AWp.of tt_ok (dok _) rfl ?_
    dsimp only at hj ⊢
    have hfj : (fxL (fs.take j)).length = j * 3 := by rw [fxL_len, List.length_take, Nat.min_eq_left hj]
    have hg2 : ((H.set r1 (.row (edL es) i)).set r2 (.row (fxL (fs.take j)) j)) r2 = some (.row (fxL (fs.take j)) j) := AH.set_same _ _ _
    by_cases hjlt : j < fs.length
    · obtain ⟨x, hx⟩ : ∃ x, fs[j]? = some x := ⟨_, List.getElem?_eq_getElem hjlt⟩
      have g0 : (fxL fs)[(j : Int).toNat * 3]? = some (.int .i64 x.a) := fxL_get hx 0 (by decide)
      have g1 : (fxL fs)[(j : Int).toNat * 3 + 1]? = some (.int .i64 x.v) := fxL_get hx 1 (by decide)
      have g2 : (fxL fs)[(j : Int).toNat * 3 + 2]? = some (.int .i64 x.w) := fxL_get hx 2 (by decide)
      have hst : fxL (fs.take (j + 1)) = fxL (fs.take j) ++ [.int .i64 x.a, .int .i64 x.v, .int .i64 x.w] := by rw [take_snoc hx]; exact (fL_snoc fxA _ _).symm
      generalize fxL (fs.take j) = R1 at *
      generalize hR2 : fxL (fs.take (j + 1)) = R2 at *
      (repeat' ((conv => whnf); first | refine Then.mk ?_ | left | refine OpsA.cons ?_ | refine OpsA.nil ?_ | refine AWq.seq ?_ | refine AWq.region ?_ | refine AWq.cond ?_ | refine AWq.block ?_ | refine AWq.skip ?_ | refine AWq.ret ?_ | refine AWq.exit ?_ | refine AWq.loop ?_ | refine DrawA.consD ?_ | refine DrawA.nil ?_ | refine AWq.draw (by decide +kernel) ?_ | (refine Both.mk ?_ ?_ <;> intro hc <;> (first | exact Bool.noConfusion hc | (exfalso; omega) | skip)) | (intro c hc; (try (simp only [AH.none_iff] at hc; repeat (have hn := hc.1; replace hc := hc.2))); (first | (refine i64_k hc ?_ ?_ ?_ ; omega; omega; (clear hc; intro hc; subst hc)) | skip)) | (apply Exists.intro; apply And.intro; (first | (focus (repeat (first | (with_reducible assumption) | (with_reducible exact AH.set_same _ _ _) | ((first | refine AH.get_ne ?_ ?_); (first | (with_reducible assumption) | exact Ne.symm (by with_reducible assumption))))); done))) | (apply Exists.intro; apply And.intro; first | (with_reducible assumption) | ((try simp only [List.getElem?_drop, Nat.mul_one, Nat.add_zero, Nat.zero_add]); first | (with_reducible assumption) | rfl)) | (apply And.intro; (first | rfl | (with_reducible assumption) | exact Nat.le_of_ble_eq_true rfl | omega | (simp <;> omega))))) <;> (try (conv => whnf))
      refine ⟨j + 1, hjlt, by omega, ⟨congrArg (AV.int .i64) (by omega), rfl, trivial⟩, HLe.of_eq ?_⟩
      rw [hR2, hst]
      exact (AH.set_set _ _ _ _).symm
    · have hje : j = fs.length := by omega
      (repeat' ((conv => whnf); first | refine Then.mk ?_ | left | refine OpsA.cons ?_ | refine OpsA.nil ?_ | refine AWq.seq ?_ | refine AWq.region ?_ | refine AWq.cond ?_ | refine AWq.block ?_ | refine AWq.skip ?_ | refine AWq.ret ?_ | refine AWq.exit ?_ | refine AWq.loop ?_ | refine DrawA.consD ?_ | refine DrawA.nil ?_ | refine AWq.draw (by decide +kernel) ?_ | (refine Both.mk ?_ ?_ <;> intro hc <;> (first | exact Bool.noConfusion hc | (exfalso; omega) | skip)) | (intro c hc; (try (simp only [AH.none_iff] at hc; repeat (have hn := hc.1; replace hc := hc.2))); (first | (refine i64_k hc ?_ ?_ ?_ ; omega; omega; (clear hc; intro hc; subst hc)) | skip)) | (apply Exists.intro; apply And.intro; (first | (focus (repeat (first | (with_reducible assumption) | (with_reducible exact AH.set_same _ _ _) | ((first | refine AH.get_ne ?_ ?_); (first | (with_reducible assumption) | exact Ne.symm (by with_reducible assumption))))); done))) | (apply Exists.intro; apply And.intro; first | (with_reducible assumption) | ((try simp only [List.getElem?_drop, Nat.mul_one, Nat.add_zero, Nat.zero_add]); first | (with_reducible assumption) | rfl)) | (apply And.intro; (first | rfl | (with_reducible assumption) | exact Nat.le_of_ble_eq_true rfl | omega | (simp <;> omega))))) <;> (try (conv => whnf))
      refine ⟨r1, r2, i, j, hr1, hr2, Ne.symm hne, ?_, ?_⟩
      · rw [← hje, ← hie]
      · rw [show fs.take j = fs from List.take_of_length_le (by omega)]
theorem real_c (es : List Ed) (fs : List Fx) (he : es.length ≤ 1000000) (hf : fs.length ≤ 1000000) (H : AH) :
    ACall Try.prog 13 [.cs (edL es) es.length, .cs (fxL fs) fs.length] H (fun y H' => y = .tup [.cs (edL es) es.length, .cs (fxL fs) fs.length] ∧ H' = H) :=
  ACall.cold2 (e1 := 4) (e2 := 3) (by simp) (by simp) (real_s es fs he hf H)
set_option maxRecDepth 8000 in
theorem plain_c (l1 l2 l3 : List AV) (n1 n2 n3 : Nat) (c : Int) (H : AH) :
    ACall Try.prog 16 [.agg [.cs l1 n1, .cs l2 n2, .cs l3 n3, .int .i64 c]] H (fun y H' => y = .agg [.cs l1 n1, .cs l2 n2, .cs l3 n3, .int .i64 c] ∧ H' = H) := by
  refine ACall.back ?_
  refine ACall_of tt_ok (dok _) Try.func16 rfl (by decide) rfl ?_
  (repeat' ((conv => whnf); first | refine Then.mk ?_ | left | refine OpsA.cons ?_ | refine OpsA.nil ?_ | refine AWq.seq ?_ | refine AWq.region ?_ | refine AWq.ret ?_ | (intro c hc; (try (simp only [AH.none_iff] at hc; repeat (have hn := hc.1; replace hc := hc.2))); (first | skip)) | (apply Exists.intro; apply And.intro; (first | (focus (repeat (first | (with_reducible assumption) | (with_reducible exact AH.set_same _ _ _) | ((first | refine AH.get_ne ?_ ?_); (first | (with_reducible assumption) | exact Ne.symm (by with_reducible assumption))))); done))) | (apply Exists.intro; apply And.intro; first | (with_reducible assumption) | ((try simp only [List.getElem?_drop, Nat.mul_one, Nat.add_zero, Nat.zero_add]); first | (with_reducible assumption) | rfl)) | (apply And.intro; (first | rfl | (with_reducible assumption) | exact Nat.le_of_ble_eq_true rfl)))) <;> (try (conv => whnf))
  (first | ((repeat' (first | (with_reducible exact HLe.refl _) | (with_reducible assumption) | refine HLe.set_of _ _ ?_ ?_)); done))
theorem fxL_wrZ {l : List Fx} {i : Nat} {x b : Fx} (h : l[i]? = some x) {j : Nat} {a : AV} (hj : j < 3) (hb : fxA b = (fxA x).set j a) : wrA (fxL l) (0 + (i : Int).toNat * 3 + j) [a] = fxL (l.set i b) := by
  rw [show 0 + (i : Int).toNat * 3 + j = i * 3 + j by omega]; exact fL_wr1 fxA_len h hj hb
theorem edL_wrZ {l : List Ed} {i : Nat} {x b : Ed} (h : l[i]? = some x) {j : Nat} {a : AV} (hj : j < 4) (hb : edA b = (edA x).set j a) : wrA (edL l) (0 + (i : Int).toNat * 4 + j) [a] = edL (l.set i b) := by
  rw [show 0 + (i : Int).toNat * 4 + j = i * 4 + j by omega]; exact fL_wr1 edA_len h hj hb
/-- Two rows. -/
def twoH (H : AH) (r1 u1 r2 u2 : Nat) (es : List Ed) (fs : List Fx) : AH := (H.set r1 (.row (edL es) u1)).set r2 (.row (fxL fs) u2)
end Go.Proofs.Ytebflkgpbbjhnaa
/- The walks of balance's reference: flows, Check. -/
namespace Go.Proofs.Ytebflkgpbbjhnaa
open Go.Fw Go
set_option linter.unusedVariables false
set_option linter.unusedSimpArgs false

structure FlowOk (n : Nat) (es : List Ed) (fs : List Fx) (E F : List Int) : Prop where
  l2 : E.length = es.length
  l3 : F.length = fs.length
  al : allW (net0 n es fs) (E ++ F)
  ne : ∀ v, v < n → netN (setFl (net0 n es fs) (E ++ F)) v = 0
theorem setFl_app : ∀ (A : List Ac) (L : List Int) (x : Ac) (f : Int), A.length = L.length → setFl (A ++ [x]) (L ++ [f]) = setFl A L ++ [⟨x.a, x.b, x.d, x.w, f⟩]
  | [], [], x, f, _ => rfl
  | [], _ :: _, x, f, h => by simp at h
  | _ :: _, [], x, f, h => by simp at h
  | y :: A, g :: L, x, f, h => by
    simp only [List.cons_append, setFl]
    rw [setFl_app A L x f (by simpa using h)]
theorem setFl_tk {A : List Ac} {L : List Int} {i : Nat} {x : Ac} (hx : A[i]? = some x) (hi : i < L.length) : setFl (A.take (i + 1)) (L.take (i + 1)) = setFl (A.take i) (L.take i) ++ [⟨x.a, x.b, x.d, x.w, L.getD i 0⟩] := by
  rw [take_snoc hx, getD_app hi]
  have : i < A.length := (List.getElem?_eq_some_iff.1 hx).1
  exact setFl_app _ _ _ _ (by rw [List.length_take, List.length_take]; omega)
theorem allW_tk {A : List Ac} {L : List Int} {i : Nat} (h : allW A (L.take i)) : allW (A.take i) (L.take i) := by
  intro j x hx hj
  rw [List.length_take] at hj
  refine h j x ?_ (by rw [List.length_take]; omega)
  rw [List.getElem?_take_of_lt (by omega)] at hx
  exact hx
set_option maxHeartbeats 4000000 in
set_option maxRecDepth 8000 in
theorem flows_c (n : Nat) (es : List Ed) (fs : List Fx) (hv : validV n es fs = 0) (E F : List Int) (hE' : E.length ≤ 1000000) (hF' : F.length ≤ 1000000) (H : AH) :
    ACall Try.prog 43 [.int .i64 n, .cs (edL es) es.length, .cs (fxL fs) fs.length, .cs (iS .i64 E) E.length, .cs (iS .i64 F) F.length] H (fun y H' => ∃ (v : Int) (b : Bool), (b = true ↔ FlowOk n es fs E F) ∧ (b = true → v = valF (net0 n es fs) (E ++ F)) ∧ y = .tup [.int .i64 v, .bool b] ∧ H' = H) := by
  obtain ⟨⟨_, hn64⟩, ⟨he, hf⟩, hE, hF⟩ := validV_ok hv
  have hJ0 := net0_ok hE hF
  have hlen0 : (net0 n es fs).length = es.length + fs.length := by unfold net0; simp
  refine ACall.told ?_
  by_cases hl : E.length = es.length ∧ F.length = fs.length
  · obtain ⟨l2, l3⟩ := hl
    obtain ⟨L, hL⟩ : ∃ L, L = E ++ F := ⟨_, rfl⟩
    have hLl : L.length = es.length + fs.length := by rw [hL, List.length_append]; omega
    rw [← hL]
    have hEL : ∀ i, i < es.length → L.getD i 0 = E.getD i 0 := fun i hi => by
      rw [hL, List.getD_eq_getElem?_getD, List.getElem?_append_left (by omega), ← List.getD_eq_getElem?_getD]
    have hFL : ∀ j, j < fs.length → L.getD (es.length + j) 0 = F.getD j 0 := fun j hj => by
      rw [hL, List.getD_eq_getElem?_getD, List.getElem?_append_right (by omega), ← List.getD_eq_getElem?_getD, l2, Nat.add_sub_cancel_left]
    have hAE : ∀ i x, es[i]? = some x → (net0 n es fs)[i]? = some (edAc x) := fun i x hx => by
      unfold net0
      have : i < es.length := (List.getElem?_eq_some_iff.1 hx).1
      rw [List.getElem?_append_left (by rw [List.length_map]; omega), List.getElem?_map, hx]; rfl
    have hAF : ∀ j x, fs[j]? = some x → (net0 n es fs)[es.length + j]? = some (fxAc n x) := fun j x hx => by
      unfold net0
      rw [List.getElem?_append_right (by rw [List.length_map]; omega), List.length_map, Nat.add_sub_cancel_left, List.getElem?_map, hx]; rfl
    have hFO : FlowOk n es fs E F ↔ allW (net0 n es fs) L ∧ ∀ v, v < n → netN (setFl (net0 n es fs) L) v = 0 := by
      rw [hL]
      exact ⟨fun k => ⟨k.al, k.ne⟩, fun k => ⟨l2, l3, k.1, k.2⟩⟩
    have hno : ∀ i x, (net0 n es fs)[i]? = some x → i < L.length → ¬ inW x (L.getD i 0) → ¬ FlowOk n es fs E F := fun i x hx hi hw k => hw ((hFO.1 k).1 i x hx hi)
    have hAd : ∀ x ∈ net0 n es fs, (-65535 ≤ x.d ∧ x.d ≤ 65535) ∧ x.w ≤ 65536 := fun x hx => by
      obtain ⟨xa, xb, d1, d2, w1, w2, f1, f2⟩ := hJ0.ok x hx
      exact ⟨⟨d1, d2⟩, w2⟩
    generalize hA0 : net0 n es fs = A0 at *
    obtain ⟨RE, hRE⟩ : ∃ R, R = iS .i64 E := ⟨_, rfl⟩
    obtain ⟨RF, hRF⟩ : ∃ R, R = iS .i64 F := ⟨_, rfl⟩
    have hRel : RE.length = E.length := by rw [hRE]; simp
    have hRfl : RF.length = F.length := by rw [hRF]; simp
    have hel := edL_len es
    have hfl := fxL_len fs
    rw [← hRE, ← hRF]
    refine ACall_of tt_ok (dok _) Try.func43 rfl (by decide) rfl ?_
    (repeat' ((conv => whnf); first | refine Then.mk ?_ | refine OpsA.cons ?_ | refine OpsA.nil ?_ | refine AWq.seq ?_ | refine AWq.region ?_ | refine AWq.cond ?_ | refine AWq.block ?_ | refine AWq.skip ?_ | refine AWq.ret ?_ | refine AWq.exit ?_ | refine AWq.loop ?_ | refine DrawA.consD ?_ | refine DrawA.nil ?_ | refine AWq.draw (by decide +kernel) ?_ | (refine Both.mk ?_ ?_ <;> intro hc <;> (first | exact Bool.noConfusion hc | exact absurd (by assumption) hc | (exfalso; omega) | skip)) | (intro c hc; (try (simp only [AH.none_iff] at hc; repeat (have hn := hc.1; replace hc := hc.2))); (first | (refine i64_k hc ?_ ?_ ?_ ; omega; omega; (clear hc; intro hc; subst hc)) | skip)) | (apply Exists.intro; apply And.intro; (first | (focus (repeat (first | (with_reducible assumption) | (with_reducible exact AH.set_same _ _ _))); done))) | (apply Exists.intro; apply And.intro; first | (with_reducible assumption) | ((try simp only [List.getElem?_drop, Nat.mul_one, Nat.add_zero, Nat.zero_add]); first | (with_reducible assumption) | rfl)) | (apply And.intro; (first | rfl | (with_reducible assumption) | exact Nat.le_of_ble_eq_true rfl | omega | (simp <;> omega))))) <;> (try (conv => whnf))
    (obtain ⟨r, hq_⟩ : ∃ r, r = c := ⟨_, rfl⟩); subst hq_
    have hr : H r = none := hc
    refine AWp_loop (σ := Nat) (10 :: 11 :: 13 :: 14 :: 15 :: 33 :: 34 :: 35 :: 36 :: 37 :: 38 :: 39 :: 40 :: 41 :: 42 :: 43 :: 44 :: 45 :: 46 :: 47 :: 48 :: 49 :: 50 :: 51 :: 52 :: 53 :: 54 :: 55 :: 56 :: 57 :: 58 :: 59 :: 60 :: 61 :: 62 :: 63 :: 64 :: 65 :: 66 :: 67 :: 68 :: 69 :: 70 :: 71 :: 72 :: 73 :: 74 :: 75 :: 76 :: 77 :: 78 :: 79 :: 80 :: 81 :: 82 :: 83 :: 84 :: 85 :: 86 :: 87 :: 88 :: 89 :: 90 :: 91 :: 92 :: 93 :: 94 :: 95 :: 96 :: 97 :: 98 :: 99 :: 100 :: 101 :: 102 :: []) (fun i => [(14, .int .i64 i), (13, .int .i64 (valF A0 (L.take i)))]) (fun i => H.set r (.row (dL n (netN (setFl (A0.take i) (L.take i)))) 0)) (fun i => i ≤ es.length ∧ allW A0 (L.take i)) (fun i => es.length - i) 0 rfl ⟨Nat.zero_le _, fun j x _ hj => by simp at hj⟩ ⟨rfl, congrArg (AV.int .i64) (by cases A0 <;> rfl), trivial⟩ ?_ ?_
    · refine HLe.of_eq (congrArg (fun l => H.set r (.row l 0)) ?_)
      rw [Int.toNat_natCast, dL_zero]; rfl
    rintro i ⟨hi, hall⟩
    refine AWp.of tt_ok (dok _) rfl ?_
    dsimp only at hi ⊢
    by_cases hilt : i < es.length
    · obtain ⟨x, hx⟩ : ∃ x, es[i]? = some x := ⟨_, List.getElem?_eq_getElem hilt⟩
      obtain ⟨v1, v2, v3, v4, v5⟩ := hE x (List.mem_of_getElem? hx)
      have hxA := hAE i x hx
      have g0 : (edL es)[(i : Int).toNat * 4]? = some (.int .i64 x.a) := edL_get hx 0 (by decide)
      have g1 : (edL es)[(i : Int).toNat * 4 + 1]? = some (.int .i64 x.b) := edL_get hx 1 (by decide)
      have g2 : (edL es)[(i : Int).toNat * 4 + 2]? = some (.int .i64 x.d) := edL_get hx 2 (by decide)
      have g3 : (edL es)[(i : Int).toNat * 4 + 3]? = some (.int .i64 x.w) := edL_get hx 3 (by decide)
      have gf : RE[(i : Int).toNat]? = some (.int .i64 (L.getD i 0)) := by rw [hRE, hEL i hilt]; exact iS_get (by omega)
      have hbd := netN_bd (setFl_ok (A := A0.take i) (L := L.take i) (fun y hy => hJ0.ok y (List.mem_of_mem_take hy)) (allW_tk hall))
      have hle : ((setFl (A0.take i) (L.take i)).length : Int) ≤ 16384 := by rw [setFl_len, List.length_take]; omega
      have hvb := valF_bd A0 (L.take i) hAd hall
      have htl : ((L.take i).length : Int) ≤ 16384 := by rw [List.length_take]; omega
      have htli : (L.take i).length = i := by rw [List.length_take]; omega
      have hvn := valF_snoc A0 (L.take i) (edAc x) (L.getD i 0) (by rw [htli]; exact hxA)
      have hwn : inW (edAc x) (L.getD i 0) → allW A0 (L.take i ++ [L.getD i 0]) := allW_snoc (by rw [htli]; exact hxA) hall
      rw [← getD_app (by omega)] at hvn hwn
      have hnx : ∀ v, netN (setFl (A0.take (i + 1)) (L.take (i + 1))) v = netN (setFl (A0.take i) (L.take i)) v + ((if x.a.toNat = v then L.getD i 0 else 0) - (if x.b.toNat = v then L.getD i 0 else 0)) := fun v => by
        rw [setFl_tk hxA (by omega), netN_snoc]; rfl
      have hnoi := hno i (edAc x) hxA (by omega)
      generalize L.getD i 0 = f at *
      generalize valF A0 (L.take i) = vv at *
      generalize hN1 : netN (setFl (A0.take (i + 1)) (L.take (i + 1))) = N1 at *
      generalize netN (setFl (A0.take i) (L.take i)) = N at *
      have hinI : inW (edAc x) f ↔ (-x.w ≤ f ∧ f ≤ x.w) := Iff.rfl
      by_cases hin : -x.w ≤ f ∧ f ≤ x.w
      · have hw := fun H => rwithin_c f x.w (by omega) true (decide_eq_true hin) H
        have key : -4294967296 ≤ f * x.d ∧ f * x.d ≤ 4294967296 := by
          have a1 : (65536 - f) * (65535 - x.d) ≥ 0 := Int.mul_nonneg (by omega) (by omega)
          have a2 : (65536 + f) * (65535 + x.d) ≥ 0 := Int.mul_nonneg (by omega) (by omega)
          have a3 : (65536 - f) * (65535 + x.d) ≥ 0 := Int.mul_nonneg (by omega) (by omega)
          have a4 : (65536 + f) * (65535 - x.d) ≥ 0 := Int.mul_nonneg (by omega) (by omega)
          simp only [Int.sub_mul, Int.add_mul, Int.mul_sub, Int.mul_add] at a1 a2 a3 a4
          omega
        have hnm : x.a.toNat ≠ x.b.toNat := by omega
        have b1 := hbd x.a.toNat
        have b2 := hbd x.b.toNat
        have gA : (dL n N)[x.a.toNat]? = some (.int .i64 (N x.a.toNat)) := dL_get N (by omega)
        have gB : (dL n (putD N x.a.toNat (N x.a.toNat + f)))[x.b.toNat]? = some (.int .i64 (N x.b.toNat)) := by
          rw [dL_get _ (by omega)]; unfold putD; rw [if_neg (Ne.symm hnm)]
        have hw1 : wrA (dL n N) (0 + x.a.toNat * 1) [.int .i64 (N x.a.toNat + f)] = dL n (putD N x.a.toNat (N x.a.toNat + f)) := by
          rw [Nat.zero_add, Nat.mul_one]; exact dL_wr N (by omega) _
        have hw2 : wrA (dL n (putD N x.a.toNat (N x.a.toNat + f))) (0 + x.b.toNat * 1) [.int .i64 (N x.b.toNat - f)] = dL n N1 := by
          rw [Nat.zero_add, Nat.mul_one, dL_wr _ (by omega)]
          refine dL_congr fun v hv => ?_
          rw [hnx v]
          unfold putD
          by_cases e1 : v = x.b.toNat
          · rw [if_pos e1, if_neg (by omega), if_pos e1.symm, e1]; omega
          · rw [if_neg e1, if_neg (Ne.symm e1)]
            by_cases e2 : v = x.a.toNat
            · rw [if_pos e2, if_pos e2.symm, e2]; omega
            · rw [if_neg e2, if_neg (Ne.symm e2)]; omega
        have hd1 := dL_len n N
        have hd2 := dL_len n (putD N x.a.toNat (N x.a.toNat + f))
        (iterate 2 ((repeat' ((conv => whnf); first | refine OpsA.cons ?_ | refine OpsA.nil ?_ | refine AWq.seq ?_ | refine AWq.region ?_ | refine AWq.cond ?_ | refine AWq.block ?_ | refine AWq.skip ?_ | refine AWq.ret ?_ | refine AWq.exit ?_ | refine AWq.loop ?_ | refine DrawA.consD ?_ | refine DrawA.nil ?_ | refine AWq.draw (by decide +kernel) ?_ | (refine Both.mk ?_ ?_ <;> intro hc <;> (first | exact Bool.noConfusion hc | exact absurd (by assumption) hc | (exfalso; omega) | skip)) | (intro c hc; (try (simp only [AH.none_iff] at hc; repeat (have hn := hc.1; replace hc := hc.2))); (first | (refine i64_k hc ?_ ?_ ?_ ; omega; omega; (clear hc; intro hc; subst hc)) | skip)) | (apply Exists.intro; apply And.intro; (first | (focus (repeat (first | (with_reducible assumption) | (with_reducible exact AH.set_same _ _ _))); done))) | (apply Exists.intro; apply And.intro; first | (with_reducible assumption) | ((try simp only [List.getElem?_drop, Nat.mul_one, Nat.add_zero, Nat.zero_add]); first | (with_reducible assumption) | rfl)) | (apply And.intro; (first | rfl | (with_reducible assumption) | exact Nat.le_of_ble_eq_true rfl | omega | (simp <;> omega))))) <;> (try (conv => whnf)); refine Then.mk ?_))
        (repeat' ((conv => whnf); first | refine OpsA.cons ?_ | refine OpsA.nil ?_ | refine AWq.seq ?_ | refine AWq.region ?_ | refine AWq.cond ?_ | refine AWq.block ?_ | refine AWq.skip ?_ | refine AWq.ret ?_ | refine AWq.exit ?_ | refine AWq.loop ?_ | refine DrawA.consD ?_ | refine DrawA.nil ?_ | refine AWq.draw (by decide +kernel) ?_ | (apply Exists.intro; apply And.intro; exact hw _) | (refine Both.mk ?_ ?_ <;> intro hc <;> (first | exact Bool.noConfusion hc | exact absurd (by assumption) hc | (exfalso; omega) | skip)) | (intro c hc; (try (simp only [AH.none_iff] at hc; repeat (have hn := hc.1; replace hc := hc.2))); (first | (refine i64_k hc ?_ ?_ ?_ ; omega; omega; (clear hc; intro hc; subst hc)) | skip)) | (apply Exists.intro; apply And.intro; (first | (focus (repeat (first | (with_reducible assumption) | (with_reducible exact AH.set_same _ _ _))); done))) | (apply Exists.intro; apply And.intro; first | (with_reducible assumption) | ((try simp only [List.getElem?_drop, Nat.mul_one, Nat.add_zero, Nat.zero_add]); first | (with_reducible assumption) | rfl)) | (apply And.intro; (first | rfl | (with_reducible assumption) | exact Nat.le_of_ble_eq_true rfl | omega | (simp <;> omega))))) <;> (try (conv => whnf))
        refine Then.mk ?_
        (iterate 2 ((repeat' ((conv => whnf); first | refine OpsA.cons ?_ | refine OpsA.nil ?_ | refine AWq.seq ?_ | refine AWq.region ?_ | refine AWq.cond ?_ | refine AWq.block ?_ | refine AWq.skip ?_ | refine AWq.ret ?_ | refine AWq.exit ?_ | refine AWq.loop ?_ | refine DrawA.consD ?_ | refine DrawA.nil ?_ | refine AWq.draw (by decide +kernel) ?_ | (refine Both.mk ?_ ?_ <;> intro hc <;> (first | exact Bool.noConfusion hc | exact absurd (by assumption) hc | (exfalso; omega) | skip)) | (intro c hc; (try (simp only [AH.none_iff] at hc; repeat (have hn := hc.1; replace hc := hc.2))); (first | (refine i64_k hc ?_ ?_ ?_ ; omega; omega; (clear hc; intro hc; subst hc)) | skip)) | (apply Exists.intro; apply And.intro; (first | (focus (repeat (first | (with_reducible assumption) | (with_reducible exact AH.set_same _ _ _))); done))) | (apply Exists.intro; apply And.intro; first | (with_reducible assumption) | ((try simp only [List.getElem?_drop, Nat.mul_one, Nat.add_zero, Nat.zero_add]); first | (with_reducible assumption) | rfl)) | (apply And.intro; (first | rfl | (with_reducible assumption) | exact Nat.le_of_ble_eq_true rfl | omega | (simp <;> omega))))) <;> (try (conv => whnf)); refine Then.mk ?_))
        (repeat' ((conv => whnf); first | refine OpsA.cons ?_ | refine OpsA.nil ?_ | refine AWq.seq ?_ | refine AWq.region ?_ | refine AWq.cond ?_ | refine AWq.block ?_ | refine AWq.skip ?_ | refine AWq.ret ?_ | refine AWq.exit ?_ | refine AWq.loop ?_ | refine DrawA.consD ?_ | refine DrawA.nil ?_ | refine AWq.draw (by decide +kernel) ?_ | (refine Both.mk ?_ ?_ <;> intro hc <;> (first | exact Bool.noConfusion hc | exact absurd (by assumption) hc | (exfalso; omega) | skip)) | (intro c hc; (try (simp only [AH.none_iff] at hc; repeat (have hn := hc.1; replace hc := hc.2))); (first | (refine i64_k hc ?_ ?_ ?_ ; omega; omega; (clear hc; intro hc; subst hc)) | skip)) | (apply Exists.intro; apply And.intro; (first | (focus (repeat (first | (with_reducible assumption) | (with_reducible exact AH.set_same _ _ _))); done))) | (apply Exists.intro; apply And.intro; first | (with_reducible assumption) | ((try simp only [List.getElem?_drop, Nat.mul_one, Nat.add_zero, Nat.zero_add]); first | (with_reducible assumption) | rfl)) | (apply And.intro; (first | rfl | (with_reducible assumption) | exact Nat.le_of_ble_eq_true rfl | omega | (simp <;> omega))))) <;> (try (conv => whnf))
        refine Then.mk (AWq.in ?_)
        refine AWp_less (H.set r (.row (dL n (putD N x.a.toNat (N x.a.toNat + f))) 0)) (HLe.of_eq (by rw [← hw1]; exact (AH.set_set _ _ _ _).symm)) ?_
        refine AWp.of tt_ok (dok _) rfl ?_
        (repeat' ((conv => whnf); first | refine OpsA.cons ?_ | refine OpsA.nil ?_ | refine AWq.seq ?_ | refine AWq.region ?_ | refine AWq.cond ?_ | refine AWq.block ?_ | refine AWq.skip ?_ | refine AWq.ret ?_ | refine AWq.exit ?_ | refine AWq.loop ?_ | refine DrawA.consD ?_ | refine DrawA.nil ?_ | refine AWq.draw (by decide +kernel) ?_ | (refine Both.mk ?_ ?_ <;> intro hc <;> (first | exact Bool.noConfusion hc | exact absurd (by assumption) hc | (exfalso; omega) | skip)) | (intro c hc; (try (simp only [AH.none_iff] at hc; repeat (have hn := hc.1; replace hc := hc.2))); (first | (refine i64_k hc ?_ ?_ ?_ ; omega; omega; (clear hc; intro hc; subst hc)) | skip)) | (apply Exists.intro; apply And.intro; (first | (focus (repeat (first | (with_reducible assumption) | (with_reducible exact AH.set_same _ _ _))); done))) | (apply Exists.intro; apply And.intro; first | (with_reducible assumption) | ((try simp only [List.getElem?_drop, Nat.mul_one, Nat.add_zero, Nat.zero_add]); first | (with_reducible assumption) | rfl)) | (apply And.intro; (first | rfl | (with_reducible assumption) | exact Nat.le_of_ble_eq_true rfl | omega | (simp <;> omega))))) <;> (try (conv => whnf))
        refine Then.mk (AWq.in ?_)
        refine AWp_less (H.set r (.row (dL n N1) 0)) (HLe.of_eq (by rw [← hw2]; exact (AH.set_set _ _ _ _).symm)) ?_
        refine AWp.of tt_ok (dok _) rfl ?_
        (repeat' ((conv => whnf); first | refine Then.mk ?_ | refine OpsA.cons ?_ | refine OpsA.nil ?_ | refine AWq.seq ?_ | refine AWq.region ?_ | refine AWq.cond ?_ | refine AWq.block ?_ | refine AWq.skip ?_ | refine AWq.ret ?_ | refine AWq.exit ?_ | refine AWq.loop ?_ | refine DrawA.consD ?_ | refine DrawA.nil ?_ | refine AWq.draw (by decide +kernel) ?_ | (refine Both.mk ?_ ?_ <;> intro hc <;> (first | exact Bool.noConfusion hc | exact absurd (by assumption) hc | (exfalso; omega) | skip)) | (intro c hc; (try (simp only [AH.none_iff] at hc; repeat (have hn := hc.1; replace hc := hc.2))); (first | (refine i64_k hc ?_ ?_ ?_ ; omega; omega; (clear hc; intro hc; subst hc)) | skip)) | (apply Exists.intro; apply And.intro; (first | (focus (repeat (first | (with_reducible assumption) | (with_reducible exact AH.set_same _ _ _))); done))) | (apply Exists.intro; apply And.intro; first | (with_reducible assumption) | ((try simp only [List.getElem?_drop, Nat.mul_one, Nat.add_zero, Nat.zero_add]); first | (with_reducible assumption) | rfl)) | (apply And.intro; (first | rfl | (with_reducible assumption) | exact Nat.le_of_ble_eq_true rfl | omega | (simp <;> omega))))) <;> (try (conv => whnf))
        refine ⟨i + 1, ⟨hilt, hwn (hinI.2 hin)⟩, by omega, ⟨congrArg (AV.int .i64) (by omega), congrArg (AV.int .i64) ?_, trivial⟩, HLe.of_eq ?_⟩
        · rw [hvn]; rfl
        · rw [hN1]
      · have hw := fun H => rwithin_c f x.w (by omega) false (decide_eq_false hin) H
        have hbad := hnoi (fun k => hin (hinI.1 k))
        (repeat' ((conv => whnf); first | refine Then.mk ?_ | refine OpsA.cons ?_ | refine OpsA.nil ?_ | refine AWq.seq ?_ | refine AWq.region ?_ | refine AWq.cond ?_ | refine AWq.block ?_ | refine AWq.skip ?_ | refine AWq.ret ?_ | refine AWq.exit ?_ | refine AWq.loop ?_ | refine DrawA.consD ?_ | refine DrawA.nil ?_ | refine AWq.draw (by decide +kernel) ?_ | (apply Exists.intro; apply And.intro; exact hw _) | (refine Both.mk ?_ ?_ <;> intro hc <;> (first | exact Bool.noConfusion hc | exact absurd (by assumption) hc | (exfalso; omega) | skip)) | (intro c hc; (try (simp only [AH.none_iff] at hc; repeat (have hn := hc.1; replace hc := hc.2))); (first | (refine i64_k hc ?_ ?_ ?_ ; omega; omega; (clear hc; intro hc; subst hc)) | skip)) | (apply Exists.intro; apply And.intro; (first | (focus (repeat (first | (with_reducible assumption) | (with_reducible exact AH.set_same _ _ _))); done))) | (apply Exists.intro; apply And.intro; first | (with_reducible assumption) | ((try simp only [List.getElem?_drop, Nat.mul_one, Nat.add_zero, Nat.zero_add]); first | (with_reducible assumption) | rfl)) | (apply And.intro; (first | rfl | (with_reducible assumption) | exact Nat.le_of_ble_eq_true rfl | omega | (simp <;> omega))))) <;> (try (conv => whnf))
        exact ⟨_, H, AVle.refl _, HLe.fresh _ hr, 0, false, ⟨fun h => Bool.noConfusion h, fun h => absurd h hbad⟩, fun h => Bool.noConfusion h, rfl, rfl⟩
    · have hie : i = es.length := by omega
      subst hie
      (repeat' ((conv => whnf); first | refine Then.mk ?_ | refine OpsA.cons ?_ | refine OpsA.nil ?_ | refine AWq.seq ?_ | refine AWq.region ?_ | refine AWq.cond ?_ | refine AWq.block ?_ | refine AWq.skip ?_ | refine AWq.ret ?_ | refine AWq.exit ?_ | refine AWq.loop ?_ | refine DrawA.consD ?_ | refine DrawA.nil ?_ | refine AWq.draw (by decide +kernel) ?_ | (refine Both.mk ?_ ?_ <;> intro hc <;> (first | exact Bool.noConfusion hc | exact absurd (by assumption) hc | (exfalso; omega) | skip)) | (intro c hc; (try (simp only [AH.none_iff] at hc; repeat (have hn := hc.1; replace hc := hc.2))); (first | (refine i64_k hc ?_ ?_ ?_ ; omega; omega; (clear hc; intro hc; subst hc)) | skip)) | (apply Exists.intro; apply And.intro; (first | (focus (repeat (first | (with_reducible assumption) | (with_reducible exact AH.set_same _ _ _))); done))) | (apply Exists.intro; apply And.intro; first | (with_reducible assumption) | ((try simp only [List.getElem?_drop, Nat.mul_one, Nat.add_zero, Nat.zero_add]); first | (with_reducible assumption) | rfl)) | (apply And.intro; (first | rfl | (with_reducible assumption) | exact Nat.le_of_ble_eq_true rfl | omega | (simp <;> omega))))) <;> (try (conv => whnf))
      refine AWp_loop (σ := Nat) (10 :: 11 :: 13 :: 16 :: 17 :: 103 :: 104 :: 105 :: 106 :: 107 :: 108 :: 109 :: 110 :: 111 :: 112 :: 113 :: 114 :: 115 :: 116 :: 117 :: 118 :: 119 :: 120 :: 121 :: 122 :: 123 :: 124 :: 125 :: 126 :: 127 :: 128 :: 129 :: 130 :: 131 :: 132 :: 133 :: 134 :: 135 :: 136 :: 137 :: 138 :: 139 :: 140 :: 141 :: 142 :: 143 :: 144 :: 145 :: 146 :: 147 :: 148 :: 149 :: 150 :: 151 :: 152 :: []) (fun j => [(16, .int .i64 j), (13, .int .i64 (valF A0 (L.take (es.length + j))))]) (fun j => H.set r (.row (dL n (netN (setFl (A0.take (es.length + j)) (L.take (es.length + j))))) 0)) (fun j => j ≤ fs.length ∧ allW A0 (L.take (es.length + j))) (fun j => fs.length - j) 0 rfl ⟨Nat.zero_le _, hall⟩ ⟨rfl, rfl, trivial⟩ (HLe.refl _) ?_
      rintro j ⟨hj, hall⟩
      refine AWp.of tt_ok (dok _) rfl ?_
      dsimp only at hj ⊢
      by_cases hjlt : j < fs.length
      · obtain ⟨x, hx⟩ : ∃ x, fs[j]? = some x := ⟨_, List.getElem?_eq_getElem hjlt⟩
        obtain ⟨v1, v4, v5⟩ := hF x (List.mem_of_getElem? hx)
        have hxA := hAF j x hx
        have g0 : (fxL fs)[(j : Int).toNat * 3]? = some (.int .i64 x.a) := fxL_get hx 0 (by decide)
        have g1 : (fxL fs)[(j : Int).toNat * 3 + 1]? = some (.int .i64 x.v) := fxL_get hx 1 (by decide)
        have g2 : (fxL fs)[(j : Int).toNat * 3 + 2]? = some (.int .i64 x.w) := fxL_get hx 2 (by decide)
        have gf : RF[(j : Int).toNat]? = some (.int .i64 (L.getD (es.length + j) 0)) := by rw [hRF, hFL j hjlt]; exact iS_get (by omega)
        have hbd := netN_bd (setFl_ok (A := A0.take (es.length + j)) (L := L.take (es.length + j)) (fun y hy => hJ0.ok y (List.mem_of_mem_take hy)) (allW_tk hall))
        have hle : ((setFl (A0.take (es.length + j)) (L.take (es.length + j))).length : Int) ≤ 16384 := by rw [setFl_len, List.length_take]; omega
        have hvb := valF_bd A0 (L.take (es.length + j)) hAd hall
        have htl : ((L.take (es.length + j)).length : Int) ≤ 16384 := by rw [List.length_take]; omega
        have htli : (L.take (es.length + j)).length = es.length + j := by rw [List.length_take]; omega
        have hvn := valF_snoc A0 (L.take (es.length + j)) (fxAc n x) (L.getD (es.length + j) 0) (by rw [htli]; exact hxA)
        have hwn : inW (fxAc n x) (L.getD (es.length + j) 0) → allW A0 (L.take (es.length + j) ++ [L.getD (es.length + j) 0]) := allW_snoc (by rw [htli]; exact hxA) hall
        rw [← getD_app (by omega)] at hvn hwn
        have hnx : ∀ v, netN (setFl (A0.take (es.length + j + 1)) (L.take (es.length + j + 1))) v = netN (setFl (A0.take (es.length + j)) (L.take (es.length + j))) v + ((if x.a.toNat = v then L.getD (es.length + j) 0 else 0) - (if n = v then L.getD (es.length + j) 0 else 0)) := fun v => by
          rw [setFl_tk hxA (by omega), netN_snoc]; rfl
        have hnoi := hno (es.length + j) (fxAc n x) hxA (by omega)
        generalize L.getD (es.length + j) 0 = f at *
        generalize valF A0 (L.take (es.length + j)) = vv at *
        generalize hN1 : netN (setFl (A0.take (es.length + j + 1)) (L.take (es.length + j + 1))) = N1 at *
        generalize netN (setFl (A0.take (es.length + j)) (L.take (es.length + j))) = N at *
        have hinI : inW (fxAc n x) f ↔ (-x.w ≤ f ∧ f ≤ x.w) := Iff.rfl
        by_cases hin : -x.w ≤ f ∧ f ≤ x.w
        · have hw := fun H => rwithin_c f x.w (by omega) true (decide_eq_true hin) H
          have key : -4294967296 ≤ f * x.v ∧ f * x.v ≤ 4294967296 := by
            have a1 : (65536 - f) * (65535 - x.v) ≥ 0 := Int.mul_nonneg (by omega) (by omega)
            have a2 : (65536 + f) * (65535 + x.v) ≥ 0 := Int.mul_nonneg (by omega) (by omega)
            have a3 : (65536 - f) * (65535 + x.v) ≥ 0 := Int.mul_nonneg (by omega) (by omega)
            have a4 : (65536 + f) * (65535 - x.v) ≥ 0 := Int.mul_nonneg (by omega) (by omega)
            simp only [Int.sub_mul, Int.add_mul, Int.mul_sub, Int.mul_add] at a1 a2 a3 a4
            omega
          have b1 := hbd x.a.toNat
          have gA : (dL n N)[x.a.toNat]? = some (.int .i64 (N x.a.toNat)) := dL_get N (by omega)
          have hw1 : wrA (dL n N) (0 + x.a.toNat * 1) [.int .i64 (N x.a.toNat + f)] = dL n N1 := by
            rw [Nat.zero_add, Nat.mul_one, dL_wr _ (by omega)]
            refine dL_congr fun v hv => ?_
            rw [hnx v]
            unfold putD
            by_cases e2 : v = x.a.toNat
            · rw [if_pos e2, if_pos e2.symm, if_neg (by omega), e2]; omega
            · rw [if_neg e2, if_neg (Ne.symm e2), if_neg (by omega)]; omega
          have hd1 := dL_len n N
          (iterate 2 ((repeat' ((conv => whnf); first | refine OpsA.cons ?_ | refine OpsA.nil ?_ | refine AWq.seq ?_ | refine AWq.region ?_ | refine AWq.cond ?_ | refine AWq.block ?_ | refine AWq.skip ?_ | refine AWq.ret ?_ | refine AWq.exit ?_ | refine AWq.loop ?_ | refine DrawA.consD ?_ | refine DrawA.nil ?_ | refine AWq.draw (by decide +kernel) ?_ | (refine Both.mk ?_ ?_ <;> intro hc <;> (first | exact Bool.noConfusion hc | exact absurd (by assumption) hc | (exfalso; omega) | skip)) | (intro c hc; (try (simp only [AH.none_iff] at hc; repeat (have hn := hc.1; replace hc := hc.2))); (first | (refine i64_k hc ?_ ?_ ?_ ; omega; omega; (clear hc; intro hc; subst hc)) | skip)) | (apply Exists.intro; apply And.intro; (first | (focus (repeat (first | (with_reducible assumption) | (with_reducible exact AH.set_same _ _ _))); done))) | (apply Exists.intro; apply And.intro; first | (with_reducible assumption) | ((try simp only [List.getElem?_drop, Nat.mul_one, Nat.add_zero, Nat.zero_add]); first | (with_reducible assumption) | rfl)) | (apply And.intro; (first | rfl | (with_reducible assumption) | exact Nat.le_of_ble_eq_true rfl | omega | (simp <;> omega))))) <;> (try (conv => whnf)); refine Then.mk ?_))
          (repeat' ((conv => whnf); first | refine OpsA.cons ?_ | refine OpsA.nil ?_ | refine AWq.seq ?_ | refine AWq.region ?_ | refine AWq.cond ?_ | refine AWq.block ?_ | refine AWq.skip ?_ | refine AWq.ret ?_ | refine AWq.exit ?_ | refine AWq.loop ?_ | refine DrawA.consD ?_ | refine DrawA.nil ?_ | refine AWq.draw (by decide +kernel) ?_ | (apply Exists.intro; apply And.intro; exact hw _) | (refine Both.mk ?_ ?_ <;> intro hc <;> (first | exact Bool.noConfusion hc | exact absurd (by assumption) hc | (exfalso; omega) | skip)) | (intro c hc; (try (simp only [AH.none_iff] at hc; repeat (have hn := hc.1; replace hc := hc.2))); (first | (refine i64_k hc ?_ ?_ ?_ ; omega; omega; (clear hc; intro hc; subst hc)) | skip)) | (apply Exists.intro; apply And.intro; (first | (focus (repeat (first | (with_reducible assumption) | (with_reducible exact AH.set_same _ _ _))); done))) | (apply Exists.intro; apply And.intro; first | (with_reducible assumption) | ((try simp only [List.getElem?_drop, Nat.mul_one, Nat.add_zero, Nat.zero_add]); first | (with_reducible assumption) | rfl)) | (apply And.intro; (first | rfl | (with_reducible assumption) | exact Nat.le_of_ble_eq_true rfl | omega | (simp <;> omega))))) <;> (try (conv => whnf))
          refine Then.mk ?_
          (iterate 2 ((repeat' ((conv => whnf); first | refine OpsA.cons ?_ | refine OpsA.nil ?_ | refine AWq.seq ?_ | refine AWq.region ?_ | refine AWq.cond ?_ | refine AWq.block ?_ | refine AWq.skip ?_ | refine AWq.ret ?_ | refine AWq.exit ?_ | refine AWq.loop ?_ | refine DrawA.consD ?_ | refine DrawA.nil ?_ | refine AWq.draw (by decide +kernel) ?_ | (refine Both.mk ?_ ?_ <;> intro hc <;> (first | exact Bool.noConfusion hc | exact absurd (by assumption) hc | (exfalso; omega) | skip)) | (intro c hc; (try (simp only [AH.none_iff] at hc; repeat (have hn := hc.1; replace hc := hc.2))); (first | (refine i64_k hc ?_ ?_ ?_ ; omega; omega; (clear hc; intro hc; subst hc)) | skip)) | (apply Exists.intro; apply And.intro; (first | (focus (repeat (first | (with_reducible assumption) | (with_reducible exact AH.set_same _ _ _))); done))) | (apply Exists.intro; apply And.intro; first | (with_reducible assumption) | ((try simp only [List.getElem?_drop, Nat.mul_one, Nat.add_zero, Nat.zero_add]); first | (with_reducible assumption) | rfl)) | (apply And.intro; (first | rfl | (with_reducible assumption) | exact Nat.le_of_ble_eq_true rfl | omega | (simp <;> omega))))) <;> (try (conv => whnf)); refine Then.mk ?_))
          (repeat' ((conv => whnf); first | refine OpsA.cons ?_ | refine OpsA.nil ?_ | refine AWq.seq ?_ | refine AWq.region ?_ | refine AWq.cond ?_ | refine AWq.block ?_ | refine AWq.skip ?_ | refine AWq.ret ?_ | refine AWq.exit ?_ | refine AWq.loop ?_ | refine DrawA.consD ?_ | refine DrawA.nil ?_ | refine AWq.draw (by decide +kernel) ?_ | (refine Both.mk ?_ ?_ <;> intro hc <;> (first | exact Bool.noConfusion hc | exact absurd (by assumption) hc | (exfalso; omega) | skip)) | (intro c hc; (try (simp only [AH.none_iff] at hc; repeat (have hn := hc.1; replace hc := hc.2))); (first | (refine i64_k hc ?_ ?_ ?_ ; omega; omega; (clear hc; intro hc; subst hc)) | skip)) | (apply Exists.intro; apply And.intro; (first | (focus (repeat (first | (with_reducible assumption) | (with_reducible exact AH.set_same _ _ _))); done))) | (apply Exists.intro; apply And.intro; first | (with_reducible assumption) | ((try simp only [List.getElem?_drop, Nat.mul_one, Nat.add_zero, Nat.zero_add]); first | (with_reducible assumption) | rfl)) | (apply And.intro; (first | rfl | (with_reducible assumption) | exact Nat.le_of_ble_eq_true rfl | omega | (simp <;> omega))))) <;> (try (conv => whnf))
          refine Then.mk (AWq.in ?_)
          refine AWp_less (H.set r (.row (dL n N1) 0)) (HLe.of_eq (by rw [← hw1]; exact (AH.set_set _ _ _ _).symm)) ?_
          refine AWp.of tt_ok (dok _) rfl ?_
          (repeat' ((conv => whnf); first | refine Then.mk ?_ | refine OpsA.cons ?_ | refine OpsA.nil ?_ | refine AWq.seq ?_ | refine AWq.region ?_ | refine AWq.cond ?_ | refine AWq.block ?_ | refine AWq.skip ?_ | refine AWq.ret ?_ | refine AWq.exit ?_ | refine AWq.loop ?_ | refine DrawA.consD ?_ | refine DrawA.nil ?_ | refine AWq.draw (by decide +kernel) ?_ | (refine Both.mk ?_ ?_ <;> intro hc <;> (first | exact Bool.noConfusion hc | exact absurd (by assumption) hc | (exfalso; omega) | skip)) | (intro c hc; (try (simp only [AH.none_iff] at hc; repeat (have hn := hc.1; replace hc := hc.2))); (first | (refine i64_k hc ?_ ?_ ?_ ; omega; omega; (clear hc; intro hc; subst hc)) | skip)) | (apply Exists.intro; apply And.intro; (first | (focus (repeat (first | (with_reducible assumption) | (with_reducible exact AH.set_same _ _ _))); done))) | (apply Exists.intro; apply And.intro; first | (with_reducible assumption) | ((try simp only [List.getElem?_drop, Nat.mul_one, Nat.add_zero, Nat.zero_add]); first | (with_reducible assumption) | rfl)) | (apply And.intro; (first | rfl | (with_reducible assumption) | exact Nat.le_of_ble_eq_true rfl | omega | (simp <;> omega))))) <;> (try (conv => whnf))
          refine ⟨j + 1, ⟨hjlt, hwn (hinI.2 hin)⟩, by omega, ⟨congrArg (AV.int .i64) (by omega), congrArg (AV.int .i64) ?_, trivial⟩, HLe.of_eq ?_⟩
          · exact hvn.symm
          · show H.set r (.row (dL n (netN (setFl (A0.take (es.length + j + 1)) (L.take (es.length + j + 1))))) 0) = _
            rw [hN1]
        · have hw := fun H => rwithin_c f x.w (by omega) false (decide_eq_false hin) H
          have hbad := hnoi (fun k => hin (hinI.1 k))
          (repeat' ((conv => whnf); first | refine Then.mk ?_ | refine OpsA.cons ?_ | refine OpsA.nil ?_ | refine AWq.seq ?_ | refine AWq.region ?_ | refine AWq.cond ?_ | refine AWq.block ?_ | refine AWq.skip ?_ | refine AWq.ret ?_ | refine AWq.exit ?_ | refine AWq.loop ?_ | refine DrawA.consD ?_ | refine DrawA.nil ?_ | refine AWq.draw (by decide +kernel) ?_ | (apply Exists.intro; apply And.intro; exact hw _) | (refine Both.mk ?_ ?_ <;> intro hc <;> (first | exact Bool.noConfusion hc | exact absurd (by assumption) hc | (exfalso; omega) | skip)) | (intro c hc; (try (simp only [AH.none_iff] at hc; repeat (have hn := hc.1; replace hc := hc.2))); (first | (refine i64_k hc ?_ ?_ ?_ ; omega; omega; (clear hc; intro hc; subst hc)) | skip)) | (apply Exists.intro; apply And.intro; (first | (focus (repeat (first | (with_reducible assumption) | (with_reducible exact AH.set_same _ _ _))); done))) | (apply Exists.intro; apply And.intro; first | (with_reducible assumption) | ((try simp only [List.getElem?_drop, Nat.mul_one, Nat.add_zero, Nat.zero_add]); first | (with_reducible assumption) | rfl)) | (apply And.intro; (first | rfl | (with_reducible assumption) | exact Nat.le_of_ble_eq_true rfl | omega | (simp <;> omega))))) <;> (try (conv => whnf))
          exact ⟨_, H, AVle.refl _, HLe.fresh _ hr, 0, false, ⟨fun h => Bool.noConfusion h, fun h => absurd h hbad⟩, fun h => Bool.noConfusion h, rfl, rfl⟩
      · have hje : es.length + j = L.length := by omega
        have htA : A0.take (es.length + j) = A0 := List.take_of_length_le (by omega)
        have htL : L.take (es.length + j) = L := List.take_of_length_le (by omega)
        rw [htL] at hall ⊢
        rw [htA]
        have hdl := dL_len n (netN (setFl A0 L))
        (repeat' ((conv => whnf); first | refine Then.mk ?_ | refine OpsA.cons ?_ | refine OpsA.nil ?_ | refine AWq.seq ?_ | refine AWq.region ?_ | refine AWq.cond ?_ | refine AWq.block ?_ | refine AWq.skip ?_ | refine AWq.ret ?_ | refine AWq.exit ?_ | refine AWq.loop ?_ | refine DrawA.consD ?_ | refine DrawA.nil ?_ | refine AWq.draw (by decide +kernel) ?_ | (refine Both.mk ?_ ?_ <;> intro hc <;> (first | exact Bool.noConfusion hc | exact absurd (by assumption) hc | (exfalso; omega) | skip)) | (intro c hc; (try (simp only [AH.none_iff] at hc; repeat (have hn := hc.1; replace hc := hc.2))); (first | (refine i64_k hc ?_ ?_ ?_ ; omega; omega; (clear hc; intro hc; subst hc)) | skip)) | (apply Exists.intro; apply And.intro; (first | (focus (repeat (first | (with_reducible assumption) | (with_reducible exact AH.set_same _ _ _))); done))) | (apply Exists.intro; apply And.intro; first | (with_reducible assumption) | ((try simp only [List.getElem?_drop, Nat.mul_one, Nat.add_zero, Nat.zero_add]); first | (with_reducible assumption) | rfl)) | (apply And.intro; (first | rfl | (with_reducible assumption) | exact Nat.le_of_ble_eq_true rfl | omega | (simp <;> omega))))) <;> (try (conv => whnf))
        refine AWp_loop (σ := Nat) (10 :: 11 :: 18 :: 153 :: 154 :: 155 :: 156 :: 157 :: 158 :: 159 :: 160 :: 161 :: 162 :: []) (fun k => [(18, .int .i64 k)]) (fun k => H.set r (.row (dL n (netN (setFl A0 L))) 0)) (fun k => k ≤ n ∧ ∀ v, v < k → netN (setFl A0 L) v = 0) (fun k => n - k) 0 rfl ⟨Nat.zero_le _, fun v hv => absurd hv (Nat.not_lt_zero v)⟩ ⟨rfl, trivial⟩ (HLe.refl _) ?_
        rintro k ⟨hk, hz⟩
        refine AWp.of tt_ok (dok _) rfl ?_
        dsimp only at hk ⊢
        by_cases hklt : k < n
        · have gk := dL_getZ (n := n) (netN (setFl A0 L)) hklt
          by_cases hz0 : netN (setFl A0 L) k = 0
          · (repeat' ((conv => whnf); first | refine Then.mk ?_ | refine OpsA.cons ?_ | refine OpsA.nil ?_ | refine AWq.seq ?_ | refine AWq.region ?_ | refine AWq.cond ?_ | refine AWq.block ?_ | refine AWq.skip ?_ | refine AWq.ret ?_ | refine AWq.exit ?_ | refine AWq.loop ?_ | refine DrawA.consD ?_ | refine DrawA.nil ?_ | refine AWq.draw (by decide +kernel) ?_ | (refine Both.mk ?_ ?_ <;> intro hc <;> (first | exact Bool.noConfusion hc | exact absurd (by assumption) hc | (exfalso; omega) | skip)) | (intro c hc; (try (simp only [AH.none_iff] at hc; repeat (have hn := hc.1; replace hc := hc.2))); (first | (refine i64_k hc ?_ ?_ ?_ ; omega; omega; (clear hc; intro hc; subst hc)) | skip)) | (apply Exists.intro; apply And.intro; (first | (focus (repeat (first | (with_reducible assumption) | (with_reducible exact AH.set_same _ _ _))); done))) | (apply Exists.intro; apply And.intro; first | (with_reducible assumption) | ((try simp only [List.getElem?_drop, Nat.mul_one, Nat.add_zero, Nat.zero_add]); first | (with_reducible assumption) | rfl)) | (apply And.intro; (first | rfl | (with_reducible assumption) | exact Nat.le_of_ble_eq_true rfl | omega | (simp <;> omega))))) <;> (try (conv => whnf))
            refine ⟨k + 1, ⟨hklt, fun v hv => ?_⟩, by omega, ⟨congrArg (AV.int .i64) (by omega), trivial⟩, HLe.refl _⟩
            by_cases e : v = k
            · rw [e]; exact hz0
            · exact hz v (by omega)
          · have hbad : ¬ FlowOk n es fs E F := fun q => hz0 ((hFO.1 q).2 k hklt)
            (repeat' ((conv => whnf); first | refine Then.mk ?_ | refine OpsA.cons ?_ | refine OpsA.nil ?_ | refine AWq.seq ?_ | refine AWq.region ?_ | refine AWq.cond ?_ | refine AWq.block ?_ | refine AWq.skip ?_ | refine AWq.ret ?_ | refine AWq.exit ?_ | refine AWq.loop ?_ | refine DrawA.consD ?_ | refine DrawA.nil ?_ | refine AWq.draw (by decide +kernel) ?_ | (refine Both.mk ?_ ?_ <;> intro hc <;> (first | exact Bool.noConfusion hc | exact absurd (by assumption) hc | (exfalso; omega) | skip)) | (intro c hc; (try (simp only [AH.none_iff] at hc; repeat (have hn := hc.1; replace hc := hc.2))); (first | (refine i64_k hc ?_ ?_ ?_ ; omega; omega; (clear hc; intro hc; subst hc)) | skip)) | (apply Exists.intro; apply And.intro; (first | (focus (repeat (first | (with_reducible assumption) | (with_reducible exact AH.set_same _ _ _))); done))) | (apply Exists.intro; apply And.intro; first | (with_reducible assumption) | ((try simp only [List.getElem?_drop, Nat.mul_one, Nat.add_zero, Nat.zero_add]); first | (with_reducible assumption) | rfl)) | (apply And.intro; (first | rfl | (with_reducible assumption) | exact Nat.le_of_ble_eq_true rfl | omega | (simp <;> omega))))) <;> (try (conv => whnf))
            exact ⟨_, H, AVle.refl _, HLe.fresh _ hr, 0, false, ⟨fun h => Bool.noConfusion h, fun h => absurd h hbad⟩, fun h => Bool.noConfusion h, rfl, rfl⟩
        · have hgood : FlowOk n es fs E F := hFO.2 ⟨hall, fun v hv => hz v (by omega)⟩
          (repeat' ((conv => whnf); first | refine Then.mk ?_ | refine OpsA.cons ?_ | refine OpsA.nil ?_ | refine AWq.seq ?_ | refine AWq.region ?_ | refine AWq.cond ?_ | refine AWq.block ?_ | refine AWq.skip ?_ | refine AWq.ret ?_ | refine AWq.exit ?_ | refine AWq.loop ?_ | refine DrawA.consD ?_ | refine DrawA.nil ?_ | refine AWq.draw (by decide +kernel) ?_ | (refine Both.mk ?_ ?_ <;> intro hc <;> (first | exact Bool.noConfusion hc | exact absurd (by assumption) hc | (exfalso; omega) | skip)) | (intro c hc; (try (simp only [AH.none_iff] at hc; repeat (have hn := hc.1; replace hc := hc.2))); (first | (refine i64_k hc ?_ ?_ ?_ ; omega; omega; (clear hc; intro hc; subst hc)) | skip)) | (apply Exists.intro; apply And.intro; (first | (focus (repeat (first | (with_reducible assumption) | (with_reducible exact AH.set_same _ _ _))); done))) | (apply Exists.intro; apply And.intro; first | (with_reducible assumption) | ((try simp only [List.getElem?_drop, Nat.mul_one, Nat.add_zero, Nat.zero_add]); first | (with_reducible assumption) | rfl)) | (apply And.intro; (first | rfl | (with_reducible assumption) | exact Nat.le_of_ble_eq_true rfl | omega | (simp <;> omega))))) <;> (try (conv => whnf))
          exact ⟨_, H, AVle.refl _, HLe.fresh _ hr, _, true, ⟨fun _ => hgood, fun _ => rfl⟩, fun _ => rfl, rfl, rfl⟩
  · have hbad : ¬ FlowOk n es fs E F := fun k => hl ⟨k.l2, k.l3⟩
    refine ACall_of tt_ok (dok _) Try.func43 rfl (by decide) rfl ?_
    (repeat' ((conv => whnf); first | refine Then.mk ?_ | refine OpsA.cons ?_ | refine OpsA.nil ?_ | refine AWq.seq ?_ | refine AWq.region ?_ | refine AWq.cond ?_ | refine AWq.block ?_ | refine AWq.skip ?_ | refine AWq.ret ?_ | refine AWq.exit ?_ | refine AWq.loop ?_ | refine DrawA.consD ?_ | refine DrawA.nil ?_ | refine AWq.draw (by decide +kernel) ?_ | (refine Both.mk ?_ ?_ <;> intro hc <;> (first | exact Bool.noConfusion hc | exact absurd (by assumption) hc | (exfalso; omega) | skip)) | (intro c hc; (try (simp only [AH.none_iff] at hc; repeat (have hn := hc.1; replace hc := hc.2))); (first | (refine i64_k hc ?_ ?_ ?_ ; omega; omega; (clear hc; intro hc; subst hc)) | skip)) | (apply Exists.intro; apply And.intro; (first | (focus (repeat (first | (with_reducible assumption) | (with_reducible exact AH.set_same _ _ _))); done))) | (apply Exists.intro; apply And.intro; first | (with_reducible assumption) | ((try simp only [List.getElem?_drop, Nat.mul_one, Nat.add_zero, Nat.zero_add]); first | (with_reducible assumption) | rfl)) | (apply And.intro; (first | rfl | (with_reducible assumption) | exact Nat.le_of_ble_eq_true rfl | omega | (simp <;> omega))))) <;> (try (conv => whnf))
    all_goals exact ⟨_, H, AVle.refl _, HLe.refl _, 0, false, ⟨fun h => Bool.noConfusion h, fun h => absurd h hbad⟩, fun h => Bool.noConfusion h, rfl, rfl⟩

set_option maxHeartbeats 4000000 in
set_option maxRecDepth 8000 in
theorem rcheck_c (n : Nat) (es : List Ed) (fs : List Fx) (hv : validV n es fs = 0) (O E F : List Int) (z : Int) (hO : O.length ≤ 1000000) (hE' : E.length ≤ 1000000) (hF' : F.length ≤ 1000000) (e : Int) (he1 : ChkP n es fs O E F z → e = 0) (he2 : ¬ ChkP n es fs O E F z → e = 17) (H : AH) :
    ACall Try.prog 15 [.int .i64 n, .cs (edL es) es.length, .cs (fxL fs) fs.length, .agg [.cs (iS .i64 O) O.length, .cs (iS .i64 E) E.length, .cs (iS .i64 F) F.length, .int .i64 z]] H (fun y H' => y = .int .i64 e ∧ H' = H) := by
  obtain ⟨⟨_, hn64⟩, ⟨he, hf⟩, hE, hF⟩ := validV_ok hv
  have hv1 := fun H => rvalid_c n es fs (by omega) (by omega) H
  rw [hv] at hv1
  have hcost := fun H => rcost_c es fs O (by omega) (by omega) (by omega) H
  have hfl := fun H => flows_c n es fs hv E F hE' hF' H
  refine ACall.back ?_
  by_cases hl : O.length = n
  · have hP : ChkP n es fs O E F z ↔ FlowOk n es fs E F ∧ (costR es fs O).2 = 0 ∧ (costR es fs O).1 = z ∧ valF (net0 n es fs) (E ++ F) = z :=
      ⟨fun k => ⟨⟨k.l2, k.l3, k.al, k.ne⟩, by rw [k.co], by rw [k.co], k.va⟩, fun ⟨q, k1, k2, k3⟩ => ⟨hl, q.l2, q.l3, q.al, Prod.ext k2 k1, k3, q.ne⟩⟩
    generalize costR es fs O = cr at *
    obtain ⟨cr1, cr2⟩ := cr
    dsimp only at hP hcost
    refine ACall_of tt_ok (dok _) Try.func15 rfl (by decide) rfl ?_
    (repeat' ((conv => whnf); first | refine Then.mk ?_ | refine OpsA.cons ?_ | refine OpsA.nil ?_ | refine AWq.seq ?_ | refine AWq.region ?_ | refine AWq.cond ?_ | refine AWq.skip ?_ | refine AWq.ret ?_ | (refine Both.mk ?_ ?_ <;> intro hc <;> (first | exact Bool.noConfusion hc | exact absurd (by with_reducible rfl) hc | exact absurd (by assumption) hc | (exfalso; omega) | skip)) | (intro c hc; (try (simp only [AH.none_iff] at hc; repeat (have hn := hc.1; replace hc := hc.2))); (first | skip)) | (apply Exists.intro; apply And.intro; (first | (focus (repeat (first | (with_reducible assumption) | (with_reducible exact AH.set_same _ _ _))); done))) | (apply Exists.intro; apply And.intro; first | (with_reducible assumption) | ((try simp only [List.getElem?_drop, Nat.mul_one, Nat.add_zero, Nat.zero_add]); first | (with_reducible assumption) | rfl)) | (apply And.intro; (first | rfl | (with_reducible assumption))) | (refine ACall.to (hv1 _) ?_) | (refine ACall.to (hcost _) ?_))) <;> (try (conv => whnf))
    refine ACall.mono (hfl _) ?_
    rintro y H' ⟨v, b, hb, hbv, rfl, rfl⟩
    cases b with
    | true =>
      have hFl := hb.1 rfl
      have hvv := hbv rfl
      rw [← hvv] at hP
      by_cases hgood : cr2 = 0 ∧ cr1 = z ∧ v = z
      · have hen := he1 (hP.2 ⟨hFl, hgood⟩)
        obtain ⟨rfl, rfl, hvz⟩ := hgood
        subst hen
        (repeat' ((conv => whnf); first | refine Then.mk ?_ | refine OpsA.cons ?_ | refine OpsA.nil ?_ | refine AWq.seq ?_ | refine AWq.region ?_ | refine AWq.cond ?_ | refine AWq.skip ?_ | refine AWq.ret ?_ | (refine Both.mk ?_ ?_ <;> intro hc <;> (first | exact Bool.noConfusion hc | exact absurd (by with_reducible rfl) hc | exact absurd (by assumption) hc | (exfalso; omega) | skip)) | (intro c hc; (try (simp only [AH.none_iff] at hc; repeat (have hn := hc.1; replace hc := hc.2))); (first | skip)) | (apply Exists.intro; apply And.intro; (first | (focus (repeat (first | (with_reducible assumption) | (with_reducible exact AH.set_same _ _ _))); done))) | (apply Exists.intro; apply And.intro; first | (with_reducible assumption) | ((try simp only [List.getElem?_drop, Nat.mul_one, Nat.add_zero, Nat.zero_add]); first | (with_reducible assumption) | rfl)) | (apply And.intro; (first | rfl | (with_reducible assumption))))) <;> (try (conv => whnf))
        all_goals (first | ((repeat' (first | (with_reducible exact HLe.refl _) | (with_reducible assumption) | refine HLe.set_of _ _ ?_ ?_)); done))
      · have hen := he2 (fun k => hgood (hP.1 k).2)
        subst hen
        (repeat' ((conv => whnf); first | refine Then.mk ?_ | refine OpsA.cons ?_ | refine OpsA.nil ?_ | refine AWq.seq ?_ | refine AWq.region ?_ | refine AWq.cond ?_ | refine AWq.skip ?_ | refine AWq.ret ?_ | (refine Both.mk ?_ ?_ <;> intro hc <;> (first | exact Bool.noConfusion hc | exact absurd (by with_reducible rfl) hc | exact absurd (by assumption) hc | (exfalso; omega) | skip)) | (intro c hc; (try (simp only [AH.none_iff] at hc; repeat (have hn := hc.1; replace hc := hc.2))); (first | skip)) | (apply Exists.intro; apply And.intro; (first | (focus (repeat (first | (with_reducible assumption) | (with_reducible exact AH.set_same _ _ _))); done))) | (apply Exists.intro; apply And.intro; first | (with_reducible assumption) | ((try simp only [List.getElem?_drop, Nat.mul_one, Nat.add_zero, Nat.zero_add]); first | (with_reducible assumption) | rfl)) | (apply And.intro; (first | rfl | (with_reducible assumption))))) <;> (try (conv => whnf))
        all_goals (first | ((repeat' (first | (with_reducible exact HLe.refl _) | (with_reducible assumption) | refine HLe.set_of _ _ ?_ ?_)); done))
    | false =>
      have hen := he2 (fun k => by have := hb.2 (hP.1 k).1; cases this)
      subst hen
      (repeat' ((conv => whnf); first | refine Then.mk ?_ | refine OpsA.cons ?_ | refine OpsA.nil ?_ | refine AWq.seq ?_ | refine AWq.region ?_ | refine AWq.cond ?_ | refine AWq.skip ?_ | refine AWq.ret ?_ | (refine Both.mk ?_ ?_ <;> intro hc <;> (first | exact Bool.noConfusion hc | exact absurd (by with_reducible rfl) hc | exact absurd (by assumption) hc | (exfalso; omega) | skip)) | (intro c hc; (try (simp only [AH.none_iff] at hc; repeat (have hn := hc.1; replace hc := hc.2))); (first | skip)) | (apply Exists.intro; apply And.intro; (first | (focus (repeat (first | (with_reducible assumption) | (with_reducible exact AH.set_same _ _ _))); done))) | (apply Exists.intro; apply And.intro; first | (with_reducible assumption) | ((try simp only [List.getElem?_drop, Nat.mul_one, Nat.add_zero, Nat.zero_add]); first | (with_reducible assumption) | rfl)) | (apply And.intro; (first | rfl | (with_reducible assumption))))) <;> (try (conv => whnf))
      all_goals (first | ((repeat' (first | (with_reducible exact HLe.refl _) | (with_reducible assumption) | refine HLe.set_of _ _ ?_ ?_)); done))
  · have hen := he2 (fun k => hl k.l1)
    subst hen
    refine ACall_of tt_ok (dok _) Try.func15 rfl (by decide) rfl ?_
    (repeat' ((conv => whnf); first | refine Then.mk ?_ | refine OpsA.cons ?_ | refine OpsA.nil ?_ | refine AWq.seq ?_ | refine AWq.region ?_ | refine AWq.cond ?_ | refine AWq.skip ?_ | refine AWq.ret ?_ | (refine Both.mk ?_ ?_ <;> intro hc <;> (first | exact Bool.noConfusion hc | exact absurd (by with_reducible rfl) hc | exact absurd (by assumption) hc | (exfalso; omega) | skip)) | (intro c hc; (try (simp only [AH.none_iff] at hc; repeat (have hn := hc.1; replace hc := hc.2))); (first | skip)) | (apply Exists.intro; apply And.intro; (first | (focus (repeat (first | (with_reducible assumption) | (with_reducible exact AH.set_same _ _ _))); done))) | (apply Exists.intro; apply And.intro; first | (with_reducible assumption) | ((try simp only [List.getElem?_drop, Nat.mul_one, Nat.add_zero, Nat.zero_add]); first | (with_reducible assumption) | rfl)) | (apply And.intro; (first | rfl | (with_reducible assumption))) | (refine ACall.to (hv1 _) ?_))) <;> (try (conv => whnf))
    (first | ((repeat' (first | (with_reducible exact HLe.refl _) | (with_reducible assumption) | refine HLe.set_of _ _ ?_ ?_)); done))
end Go.Proofs.Ytebflkgpbbjhnaa
/- The walks of balance's reference: Spoilt. -/
namespace Go.Fw
open Go.RowKit
theorem ACall.cold2E {P : Program} {g : FuncId} {args : List AV} {H : AH} {K0 : AV → Prop}
    (h : ACall P g args H fun y H' => ∃ r1 r2 v1 v2 e1 e2 n1 n2 c1 c2, H r1 = none ∧ H r2 = none ∧ r1 ≠ r2 ∧ c1.length = n1 * e1 ∧ c2.length = n2 * e2 ∧ y = .tup [.sl r1 v1 e1 0 n1 none, .sl r2 v2 e2 0 n2 none] ∧ HLe ((H.set r1 (.row c1 v1)).set r2 (.row c2 v2)) H' ∧ K0 (.tup [.cs c1 n1, .cs c2 n2])) :
    ACall P g args H fun y H' => K0 y ∧ H' = H := by
  refine ⟨h.ent, fun κ F B w0 w cargs hI hA => (h.run κ F B w0 w cargs hI hA).mono ?_⟩
  rintro e w' ⟨x, he, y, H', κ', F', k1, k2, I, hv, r1, r2, v1, v2, e1, e2, n1, n2, c1, c2, hr1, hr2, hne, h1, h2, rfl, hle, hK⟩
  have I := I.less hle.le
  obtain ⟨F1, hF1, I1, ha1⟩ := I.coolAll (r := r2) (v := v2) (cells := c2) (AH.set_same _ _ _)
  rw [AH.del_set _ _ _ (by rw [AH.set_ne _ _ (Ne.symm hne)]; exact hr2)] at I1
  obtain ⟨F2, hF2, I2, ha2⟩ := I1.coolAll (r := r1) (v := v1) (cells := c1) (AH.set_same _ _ _)
  rw [AH.del_set _ _ _ hr1] at I2
  refine ⟨x, he, _, H, κ', F2, k1, (k2.trans hF1).trans hF2, I2, ?_, hK, rfl⟩
  cases hv with
  | tup hsz hi =>
    refine .tup hsz fun i hi' => ?_
    match i, hi' with
    | 0, _ => exact ha2 _ _ _ _ _ h1 (hi 0 (by simp))
    | 1, _ => exact (ha1 _ _ _ _ _ h2 (hi 1 (by simp))).mono (KLe.refl _) hF2
end Go.Fw
namespace Go.Proofs.Ytebflkgpbbjhnaa
open Go.Fw Go
set_option linter.unusedVariables false
set_option linter.unusedSimpArgs false

def SpV (y : AV) : Prop := ∃ es' fs', es'.length ≤ 1000 ∧ fs'.length ≤ 10000 ∧ y = .tup [.cs (edL es') es'.length, .cs (fxL fs') fs'.length]
set_option maxHeartbeats 4000000 in
set_option maxRecDepth 8000 in
theorem spoilt_c (es : List Ed) (fs : List Fx) (he : es.length ≤ 100) (hf : fs.length ≤ 100) (at' by' : Int) (hat : -9223372036854775808 ≤ at' ∧ at' ≤ 9223372036854775807) (hby : -9223372036854775808 ≤ by' ∧ by' ≤ 9223372036854775807) (H : AH) :
    ACall Try.prog 20 [.cs (edL es) es.length, .cs (fxL fs) fs.length, .int .i64 at', .int .i64 by'] H (fun y H' => SpV y ∧ H' = H) := by
  have ha9 : ∀ H, ACall Try.prog 11 [.int .i64 at', .int .i64 9] H (fun y H' => y = .int .i64 (aro at' 9) ∧ H' = H) := fun H => around_f at' hat.1 hat.2 9 (by decide) (by decide) H
  have hb3 : ∀ H, ACall Try.prog 11 [.int .i64 by', .int .i64 3] H (fun y H' => y = .int .i64 (aro by' 3) ∧ H' = H) := fun H => around_f by' hby.1 hby.2 3 (by decide) (by decide) H
  have h9 := aro_lt (n := at') (m := 9) (by decide)
  have h3 := aro_lt (n := by') (m := 3) (by decide)
  generalize aro at' 9 = k at *
  generalize aro by' 3 = b3 at *
  obtain ⟨q, hq⟩ : ∃ q : Int, q = IntKind.i64.wrap (at'.tdiv 9) := ⟨_, rfl⟩
  have hqb : -9223372036854775808 ≤ q ∧ q ≤ 9223372036854775807 := by rw [hq, IntKind.wrap_i64]; omega
  have hel := edL_len es
  have hfl := fxL_len fs
  have heo := edL_one es
  have hfo := fxL_one fs
  refine ACall.cold2E ?_
  have T1 : ∀ r1 r2 v1 v2 (es : List Ed) (fs : List Fx), r1 ≠ r2 → twoH H r1 v1 r2 v2 es fs r1 = some (.row (edL es) v1) := fun r1 r2 v1 v2 es fs h => by unfold twoH; rw [AH.set_ne _ _ h, AH.set_same]
  have T2 : ∀ r1 r2 v1 v2 (es : List Ed) (fs : List Fx), twoH H r1 v1 r2 v2 es fs r2 = some (.row (fxL fs) v2) := fun r1 r2 v1 v2 es fs => AH.set_same _ _ _
  have T3 : ∀ r1 r2 v1 v2 u (es : List Ed) (fs fs' : List Fx), (twoH H r1 v1 r2 v2 es fs).set r2 (.row (fxL fs') u) = twoH H r1 v1 r2 u es fs' := fun r1 r2 v1 v2 u es fs fs' => AH.set_set _ _ _ _
  have T4 : ∀ r1 r2 v1 v2 u (es es' : List Ed) (fs : List Fx), r1 ≠ r2 → (twoH H r1 v1 r2 v2 es fs).set r1 (.row (edL es') u) = twoH H r1 u r2 v2 es' fs := fun r1 r2 v1 v2 u es es' fs h => AH.set_back _ h _ _ _
  have fin : ∀ r1 r2 v1 v2 (es' : List Ed) (fs' : List Fx), H r1 = none → H r2 = none → r1 ≠ r2 → es'.length ≤ 1000 → fs'.length ≤ 10000 → ∀ H', H' = twoH H r1 v1 r2 v2 es' fs' → ∃ q1 q2 w1 w2 e1 e2 n1 n2 c1 c2, H q1 = none ∧ H q2 = none ∧ q1 ≠ q2 ∧ c1.length = n1 * e1 ∧ c2.length = n2 * e2 ∧ AV.tup [.sl r1 v1 4 0 es'.length none, .sl r2 v2 3 0 fs'.length none] = .tup [.sl q1 w1 e1 0 n1 none, .sl q2 w2 e2 0 n2 none] ∧ HLe ((H.set q1 (.row c1 w1)).set q2 (.row c2 w2)) H' ∧ SpV (.tup [.cs c1 n1, .cs c2 n2]) :=
    fun r1 r2 v1 v2 es' fs' g1 g2 g3 g4 g5 H' g6 => ⟨r1, r2, v1, v2, 4, 3, _, _, edL es', fxL fs', g1, g2, g3, by simp, by simp, rfl, HLe.of_eq g6.symm, es', fs', g4, g5, rfl⟩
  refine ACall_of tt_ok (dok _) Try.func20 rfl (by decide) rfl ?_
  (iterate 4 ((repeat' ((conv => whnf); first | left | refine OpsA.cons ?_ | refine OpsA.nil ?_ | refine AWq.seq ?_ | refine AWq.region ?_ | refine AWq.cond ?_ | refine AWq.block ?_ | refine AWq.skip ?_ | refine AWq.ret ?_ | refine AWq.exit ?_ | refine AWq.loop ?_ | (refine Both.mk ?_ ?_ <;> intro hc <;> (first | exact Bool.noConfusion hc | (exfalso; omega) | skip)) | (intro c hc; (try (simp only [AH.none_iff] at hc; repeat (have hn := hc.1; replace hc := hc.2))); (first | (refine i64_k hc ?_ ?_ ?_ ; omega; omega; (clear hc; intro hc; subst hc)) | subst hc | skip)) | (apply Exists.intro; apply And.intro; (first | (focus (repeat (first | (with_reducible assumption))); done))) | (apply Exists.intro; apply And.intro; first | (with_reducible assumption) | ((try simp only [List.getElem?_drop, Nat.mul_one, Nat.add_zero, Nat.zero_add]); first | (with_reducible assumption) | rfl)) | (apply And.intro; (first | rfl | (with_reducible assumption) | exact Nat.le_of_ble_eq_true rfl | omega | (simp <;> omega))))) <;> (try (conv => whnf)); refine Then.mk ?_))
  (repeat' ((conv => whnf); first | left | refine OpsA.cons ?_ | refine OpsA.nil ?_ | refine AWq.seq ?_ | refine AWq.region ?_ | refine AWq.cond ?_ | refine AWq.block ?_ | refine AWq.skip ?_ | refine AWq.ret ?_ | refine AWq.exit ?_ | refine AWq.loop ?_ | (refine Both.mk ?_ ?_ <;> intro hc <;> (first | exact Bool.noConfusion hc | (exfalso; omega) | skip)) | (intro c hc; (try (simp only [AH.none_iff] at hc; repeat (have hn := hc.1; replace hc := hc.2))); (first | (refine i64_k hc ?_ ?_ ?_ ; omega; omega; (clear hc; intro hc; subst hc)) | subst hc | skip)) | (apply Exists.intro; apply And.intro; (first | (focus (repeat (first | (with_reducible assumption))); done))) | (apply Exists.intro; apply And.intro; first | (with_reducible assumption) | ((try simp only [List.getElem?_drop, Nat.mul_one, Nat.add_zero, Nat.zero_add]); first | (with_reducible assumption) | rfl)) | (apply And.intro; (first | rfl | (with_reducible assumption) | exact Nat.le_of_ble_eq_true rfl | omega | (simp <;> omega))))) <;> (try (conv => whnf))
  rename_i r1 hr1
  (obtain ⟨r2, hq_⟩ : ∃ r2, r2 = c := ⟨_, rfl⟩); subst hq_
  have hr2 : H r2 = none := by assumption
  have hne : r1 ≠ r2 := Ne.symm (by assumption)
  refine Then.mk (AWq.in ?_)
  have hel := edL_len es
  have hfl := fxL_len fs
  refine AWp_less (twoH H r1 0 r2 0 es fs) (HLe.refl _) ?_
  refine AWp.of tt_ok (dok _) rfl ?_
  have hT1 := T1 r1 r2 0 0 es fs hne
  have hT2 := T2 r1 r2 0 0 es fs
  by_cases h0 : es.length = 0 ∨ fs.length = 0
  · have hT4 := T4 r1 r2 0 1 0 es (es ++ [⟨by', 1, 0, 1⟩]) fs hne
    have hT4 := T4 r1 r2 0 0 1 es (es ++ [⟨by', 1, 0, 1⟩]) fs hne
    have hsn : edL (es ++ [⟨by', 1, 0, 1⟩]) = edL es ++ [.int .i64 by', .int .i64 1, .int .i64 0, .int .i64 1] := (fL_snoc edA es _).symm
    have hf1 := fin r1 r2 1 0 (es ++ [⟨by', 1, 0, 1⟩]) fs hr1 hr2 hne (by simp; omega) (by omega) _ hT4
    rw [List.length_append, show [(⟨by', 1, 0, 1⟩ : Ed)].length = 1 from rfl, hsn] at hf1
    generalize twoH H r1 0 r2 0 es fs = G at *
    (repeat' ((conv => whnf); first | refine Then.mk ?_ | left | refine OpsA.cons ?_ | refine OpsA.nil ?_ | refine AWq.seq ?_ | refine AWq.region ?_ | refine AWq.cond ?_ | refine AWq.block ?_ | refine AWq.skip ?_ | refine AWq.ret ?_ | refine AWq.exit ?_ | refine AWq.loop ?_ | (refine Both.mk ?_ ?_ <;> intro hc <;> (first | exact Bool.noConfusion hc | (exfalso; omega) | skip)) | (intro c hc; (try (simp only [AH.none_iff] at hc; repeat (have hn := hc.1; replace hc := hc.2))); (first | (refine i64_k hc ?_ ?_ ?_ ; omega; omega; (clear hc; intro hc; subst hc)) | subst hc | skip)) | (apply Exists.intro; apply And.intro; (first | (focus (repeat (first | (with_reducible assumption))); done))) | (apply Exists.intro; apply And.intro; first | (with_reducible assumption) | ((try simp only [List.getElem?_drop, Nat.mul_one, Nat.add_zero, Nat.zero_add]); first | (with_reducible assumption) | rfl)) | (apply And.intro; (first | rfl | (with_reducible assumption) | exact Nat.le_of_ble_eq_true rfl | omega | (simp <;> omega))) | (refine ACall.to (ha9 _) ?_))) <;> (try (conv => whnf))
    all_goals exact hf1
  · have ha1 := fun H => around_f q hqb.1 hqb.2 es.length (by omega) (by omega) H
    have ha2 := fun H => around_f q hqb.1 hqb.2 fs.length (by omega) (by omega) H
    have hi := aro_lt (n := q) (m := es.length) (by omega)
    have hj := aro_lt (n := q) (m := fs.length) (by omega)
    generalize aro q es.length = i at *
    generalize aro q fs.length = j at *
    rw [hq] at ha1 ha2
    obtain ⟨x, hx⟩ : ∃ x, es[i]? = some x := ⟨_, List.getElem?_eq_getElem hi⟩
    obtain ⟨z, hz⟩ : ∃ z, fs[j]? = some z := ⟨_, List.getElem?_eq_getElem hj⟩
    have fE : ∀ x', (es.set i x').length = es.length := fun x' => List.length_set
    have fF : ∀ x', (fs.set j x').length = fs.length := fun x' => List.length_set
    rcases (show k = 0 ∨ k = 1 ∨ k = 2 ∨ k = 3 ∨ k = 4 ∨ k = 5 ∨ k = 6 ∨ k = 7 ∨ k = 8 by omega) with rfl | rfl | rfl | rfl | rfl | rfl | rfl | rfl | rfl
    · have hw := edL_wrZ (b := ⟨by', x.b, x.d, x.w⟩) hx (j := 0) (a := .int .i64 by') (by decide) rfl
      have hT4 := T4 r1 r2 0 0 0 es (es.set i ⟨by', x.b, x.d, x.w⟩) fs hne
      have hf1 := fin r1 r2 0 0 (es.set i ⟨by', x.b, x.d, x.w⟩) fs hr1 hr2 hne (by rw [fE]; omega) (by omega) _ hT4
      rw [fE, ← hw] at hf1
      skip
      generalize twoH H r1 0 r2 0 es fs = G at *
      (repeat' ((conv => whnf); first | refine Then.mk ?_ | left | refine OpsA.cons ?_ | refine OpsA.nil ?_ | refine AWq.seq ?_ | refine AWq.region ?_ | refine AWq.cond ?_ | refine AWq.block ?_ | refine AWq.skip ?_ | refine AWq.ret ?_ | refine AWq.exit ?_ | refine AWq.loop ?_ | (refine Both.mk ?_ ?_ <;> intro hc <;> (first | exact Bool.noConfusion hc | (exfalso; omega) | skip)) | (intro c hc; (try (simp only [AH.none_iff] at hc; repeat (have hn := hc.1; replace hc := hc.2))); (first | (refine i64_k hc ?_ ?_ ?_ ; omega; omega; (clear hc; intro hc; subst hc)) | subst hc | skip)) | (apply Exists.intro; apply And.intro; (first | (focus (repeat (first | (with_reducible assumption))); done))) | (apply Exists.intro; apply And.intro; first | (with_reducible assumption) | ((try simp only [List.getElem?_drop, Nat.mul_one, Nat.add_zero, Nat.zero_add]); first | (with_reducible assumption) | rfl)) | (apply And.intro; (first | rfl | (with_reducible assumption) | exact Nat.le_of_ble_eq_true rfl | omega | (simp <;> omega))) | (refine ACall.to (ha9 _) ?_) | (refine ACall.to (ha1 _) ?_) | (refine ACall.to (ha2 _) ?_))) <;> (try (conv => whnf))
      exact hf1
    · have hw := edL_wrZ (b := ⟨x.a, by', x.d, x.w⟩) hx (j := 1) (a := .int .i64 by') (by decide) rfl
      have hT4 := T4 r1 r2 0 0 0 es (es.set i ⟨x.a, by', x.d, x.w⟩) fs hne
      have hf1 := fin r1 r2 0 0 (es.set i ⟨x.a, by', x.d, x.w⟩) fs hr1 hr2 hne (by rw [fE]; omega) (by omega) _ hT4
      rw [fE, ← hw] at hf1
      skip
      generalize twoH H r1 0 r2 0 es fs = G at *
      (repeat' ((conv => whnf); first | refine Then.mk ?_ | left | refine OpsA.cons ?_ | refine OpsA.nil ?_ | refine AWq.seq ?_ | refine AWq.region ?_ | refine AWq.cond ?_ | refine AWq.block ?_ | refine AWq.skip ?_ | refine AWq.ret ?_ | refine AWq.exit ?_ | refine AWq.loop ?_ | (refine Both.mk ?_ ?_ <;> intro hc <;> (first | exact Bool.noConfusion hc | (exfalso; omega) | skip)) | (intro c hc; (try (simp only [AH.none_iff] at hc; repeat (have hn := hc.1; replace hc := hc.2))); (first | (refine i64_k hc ?_ ?_ ?_ ; omega; omega; (clear hc; intro hc; subst hc)) | subst hc | skip)) | (apply Exists.intro; apply And.intro; (first | (focus (repeat (first | (with_reducible assumption))); done))) | (apply Exists.intro; apply And.intro; first | (with_reducible assumption) | ((try simp only [List.getElem?_drop, Nat.mul_one, Nat.add_zero, Nat.zero_add]); first | (with_reducible assumption) | rfl)) | (apply And.intro; (first | rfl | (with_reducible assumption) | exact Nat.le_of_ble_eq_true rfl | omega | (simp <;> omega))) | (refine ACall.to (ha9 _) ?_) | (refine ACall.to (ha1 _) ?_) | (refine ACall.to (ha2 _) ?_))) <;> (try (conv => whnf))
      exact hf1
    · have hw := edL_wrZ (b := ⟨x.a, x.b, by', x.w⟩) hx (j := 2) (a := .int .i64 by') (by decide) rfl
      have hT4 := T4 r1 r2 0 0 0 es (es.set i ⟨x.a, x.b, by', x.w⟩) fs hne
      have hf1 := fin r1 r2 0 0 (es.set i ⟨x.a, x.b, by', x.w⟩) fs hr1 hr2 hne (by rw [fE]; omega) (by omega) _ hT4
      rw [fE, ← hw] at hf1
      skip
      generalize twoH H r1 0 r2 0 es fs = G at *
      (repeat' ((conv => whnf); first | refine Then.mk ?_ | left | refine OpsA.cons ?_ | refine OpsA.nil ?_ | refine AWq.seq ?_ | refine AWq.region ?_ | refine AWq.cond ?_ | refine AWq.block ?_ | refine AWq.skip ?_ | refine AWq.ret ?_ | refine AWq.exit ?_ | refine AWq.loop ?_ | (refine Both.mk ?_ ?_ <;> intro hc <;> (first | exact Bool.noConfusion hc | (exfalso; omega) | skip)) | (intro c hc; (try (simp only [AH.none_iff] at hc; repeat (have hn := hc.1; replace hc := hc.2))); (first | (refine i64_k hc ?_ ?_ ?_ ; omega; omega; (clear hc; intro hc; subst hc)) | subst hc | skip)) | (apply Exists.intro; apply And.intro; (first | (focus (repeat (first | (with_reducible assumption))); done))) | (apply Exists.intro; apply And.intro; first | (with_reducible assumption) | ((try simp only [List.getElem?_drop, Nat.mul_one, Nat.add_zero, Nat.zero_add]); first | (with_reducible assumption) | rfl)) | (apply And.intro; (first | rfl | (with_reducible assumption) | exact Nat.le_of_ble_eq_true rfl | omega | (simp <;> omega))) | (refine ACall.to (ha9 _) ?_) | (refine ACall.to (ha1 _) ?_) | (refine ACall.to (ha2 _) ?_))) <;> (try (conv => whnf))
      exact hf1
    · have hw := edL_wrZ (b := ⟨x.a, x.b, x.d, by'⟩) hx (j := 3) (a := .int .i64 by') (by decide) rfl
      have hT4 := T4 r1 r2 0 0 0 es (es.set i ⟨x.a, x.b, x.d, by'⟩) fs hne
      have hf1 := fin r1 r2 0 0 (es.set i ⟨x.a, x.b, x.d, by'⟩) fs hr1 hr2 hne (by rw [fE]; omega) (by omega) _ hT4
      rw [fE, ← hw] at hf1
      skip
      generalize twoH H r1 0 r2 0 es fs = G at *
      (repeat' ((conv => whnf); first | refine Then.mk ?_ | left | refine OpsA.cons ?_ | refine OpsA.nil ?_ | refine AWq.seq ?_ | refine AWq.region ?_ | refine AWq.cond ?_ | refine AWq.block ?_ | refine AWq.skip ?_ | refine AWq.ret ?_ | refine AWq.exit ?_ | refine AWq.loop ?_ | (refine Both.mk ?_ ?_ <;> intro hc <;> (first | exact Bool.noConfusion hc | (exfalso; omega) | skip)) | (intro c hc; (try (simp only [AH.none_iff] at hc; repeat (have hn := hc.1; replace hc := hc.2))); (first | (refine i64_k hc ?_ ?_ ?_ ; omega; omega; (clear hc; intro hc; subst hc)) | subst hc | skip)) | (apply Exists.intro; apply And.intro; (first | (focus (repeat (first | (with_reducible assumption))); done))) | (apply Exists.intro; apply And.intro; first | (with_reducible assumption) | ((try simp only [List.getElem?_drop, Nat.mul_one, Nat.add_zero, Nat.zero_add]); first | (with_reducible assumption) | rfl)) | (apply And.intro; (first | rfl | (with_reducible assumption) | exact Nat.le_of_ble_eq_true rfl | omega | (simp <;> omega))) | (refine ACall.to (ha9 _) ?_) | (refine ACall.to (ha1 _) ?_) | (refine ACall.to (ha2 _) ?_))) <;> (try (conv => whnf))
      exact hf1
    · have hw := fxL_wrZ (b := ⟨by', z.v, z.w⟩) hz (j := 0) (a := .int .i64 by') (by decide) rfl
      have hT3 := T3 r1 r2 0 0 0 es fs (fs.set j ⟨by', z.v, z.w⟩)
      have hf1 := fin r1 r2 0 0 es (fs.set j ⟨by', z.v, z.w⟩) hr1 hr2 hne (by omega) (by rw [fF]; omega) _ hT3
      rw [fF, ← hw] at hf1
      generalize twoH H r1 0 r2 0 es fs = G at *
      (repeat' ((conv => whnf); first | refine Then.mk ?_ | left | refine OpsA.cons ?_ | refine OpsA.nil ?_ | refine AWq.seq ?_ | refine AWq.region ?_ | refine AWq.cond ?_ | refine AWq.block ?_ | refine AWq.skip ?_ | refine AWq.ret ?_ | refine AWq.exit ?_ | refine AWq.loop ?_ | (refine Both.mk ?_ ?_ <;> intro hc <;> (first | exact Bool.noConfusion hc | (exfalso; omega) | skip)) | (intro c hc; (try (simp only [AH.none_iff] at hc; repeat (have hn := hc.1; replace hc := hc.2))); (first | (refine i64_k hc ?_ ?_ ?_ ; omega; omega; (clear hc; intro hc; subst hc)) | subst hc | skip)) | (apply Exists.intro; apply And.intro; (first | (focus (repeat (first | (with_reducible assumption))); done))) | (apply Exists.intro; apply And.intro; first | (with_reducible assumption) | ((try simp only [List.getElem?_drop, Nat.mul_one, Nat.add_zero, Nat.zero_add]); first | (with_reducible assumption) | rfl)) | (apply And.intro; (first | rfl | (with_reducible assumption) | exact Nat.le_of_ble_eq_true rfl | omega | (simp <;> omega))) | (refine ACall.to (ha9 _) ?_) | (refine ACall.to (ha1 _) ?_) | (refine ACall.to (ha2 _) ?_))) <;> (try (conv => whnf))
      exact hf1
    · have hw := fxL_wrZ (b := ⟨z.a, by', z.w⟩) hz (j := 1) (a := .int .i64 by') (by decide) rfl
      have hT3 := T3 r1 r2 0 0 0 es fs (fs.set j ⟨z.a, by', z.w⟩)
      have hf1 := fin r1 r2 0 0 es (fs.set j ⟨z.a, by', z.w⟩) hr1 hr2 hne (by omega) (by rw [fF]; omega) _ hT3
      rw [fF, ← hw] at hf1
      generalize twoH H r1 0 r2 0 es fs = G at *
      (repeat' ((conv => whnf); first | refine Then.mk ?_ | left | refine OpsA.cons ?_ | refine OpsA.nil ?_ | refine AWq.seq ?_ | refine AWq.region ?_ | refine AWq.cond ?_ | refine AWq.block ?_ | refine AWq.skip ?_ | refine AWq.ret ?_ | refine AWq.exit ?_ | refine AWq.loop ?_ | (refine Both.mk ?_ ?_ <;> intro hc <;> (first | exact Bool.noConfusion hc | (exfalso; omega) | skip)) | (intro c hc; (try (simp only [AH.none_iff] at hc; repeat (have hn := hc.1; replace hc := hc.2))); (first | (refine i64_k hc ?_ ?_ ?_ ; omega; omega; (clear hc; intro hc; subst hc)) | subst hc | skip)) | (apply Exists.intro; apply And.intro; (first | (focus (repeat (first | (with_reducible assumption))); done))) | (apply Exists.intro; apply And.intro; first | (with_reducible assumption) | ((try simp only [List.getElem?_drop, Nat.mul_one, Nat.add_zero, Nat.zero_add]); first | (with_reducible assumption) | rfl)) | (apply And.intro; (first | rfl | (with_reducible assumption) | exact Nat.le_of_ble_eq_true rfl | omega | (simp <;> omega))) | (refine ACall.to (ha9 _) ?_) | (refine ACall.to (ha1 _) ?_) | (refine ACall.to (ha2 _) ?_))) <;> (try (conv => whnf))
      exact hf1
    · have hw := fxL_wrZ (b := ⟨z.a, z.v, by'⟩) hz (j := 2) (a := .int .i64 by') (by decide) rfl
      have hT3 := T3 r1 r2 0 0 0 es fs (fs.set j ⟨z.a, z.v, by'⟩)
      have hf1 := fin r1 r2 0 0 es (fs.set j ⟨z.a, z.v, by'⟩) hr1 hr2 hne (by omega) (by rw [fF]; omega) _ hT3
      rw [fF, ← hw] at hf1
      generalize twoH H r1 0 r2 0 es fs = G at *
      (repeat' ((conv => whnf); first | refine Then.mk ?_ | left | refine OpsA.cons ?_ | refine OpsA.nil ?_ | refine AWq.seq ?_ | refine AWq.region ?_ | refine AWq.cond ?_ | refine AWq.block ?_ | refine AWq.skip ?_ | refine AWq.ret ?_ | refine AWq.exit ?_ | refine AWq.loop ?_ | (refine Both.mk ?_ ?_ <;> intro hc <;> (first | exact Bool.noConfusion hc | (exfalso; omega) | skip)) | (intro c hc; (try (simp only [AH.none_iff] at hc; repeat (have hn := hc.1; replace hc := hc.2))); (first | (refine i64_k hc ?_ ?_ ?_ ; omega; omega; (clear hc; intro hc; subst hc)) | subst hc | skip)) | (apply Exists.intro; apply And.intro; (first | (focus (repeat (first | (with_reducible assumption))); done))) | (apply Exists.intro; apply And.intro; first | (with_reducible assumption) | ((try simp only [List.getElem?_drop, Nat.mul_one, Nat.add_zero, Nat.zero_add]); first | (with_reducible assumption) | rfl)) | (apply And.intro; (first | rfl | (with_reducible assumption) | exact Nat.le_of_ble_eq_true rfl | omega | (simp <;> omega))) | (refine ACall.to (ha9 _) ?_) | (refine ACall.to (ha1 _) ?_) | (refine ACall.to (ha2 _) ?_))) <;> (try (conv => whnf))
      exact hf1
    · have hw := edL_wrZ (b := ⟨x.a, x.a, x.d, x.w⟩) hx (j := 1) (a := .int .i64 x.a) (by decide) rfl
      have hT4 := T4 r1 r2 0 0 0 es (es.set i ⟨x.a, x.a, x.d, x.w⟩) fs hne
      have hf1 := fin r1 r2 0 0 (es.set i ⟨x.a, x.a, x.d, x.w⟩) fs hr1 hr2 hne (by rw [fE]; omega) (by omega) _ hT4
      rw [fE, ← hw] at hf1
      have g0 : (edL es)[(i : Int).toNat * 4]? = some (.int .i64 x.a) := edL_get hx 0 (by decide)
      generalize twoH H r1 0 r2 0 es fs = G at *
      (repeat' ((conv => whnf); first | refine Then.mk ?_ | left | refine OpsA.cons ?_ | refine OpsA.nil ?_ | refine AWq.seq ?_ | refine AWq.region ?_ | refine AWq.cond ?_ | refine AWq.block ?_ | refine AWq.skip ?_ | refine AWq.ret ?_ | refine AWq.exit ?_ | refine AWq.loop ?_ | (refine Both.mk ?_ ?_ <;> intro hc <;> (first | exact Bool.noConfusion hc | (exfalso; omega) | skip)) | (intro c hc; (try (simp only [AH.none_iff] at hc; repeat (have hn := hc.1; replace hc := hc.2))); (first | (refine i64_k hc ?_ ?_ ?_ ; omega; omega; (clear hc; intro hc; subst hc)) | subst hc | skip)) | (apply Exists.intro; apply And.intro; (first | (focus (repeat (first | (with_reducible assumption))); done))) | (apply Exists.intro; apply And.intro; first | (with_reducible assumption) | ((try simp only [List.getElem?_drop, Nat.mul_one, Nat.add_zero, Nat.zero_add]); first | (with_reducible assumption) | rfl)) | (apply And.intro; (first | rfl | (with_reducible assumption) | exact Nat.le_of_ble_eq_true rfl | omega | (simp <;> omega))) | (refine ACall.to (ha9 _) ?_) | (refine ACall.to (ha1 _) ?_) | (refine ACall.to (ha2 _) ?_))) <;> (try (conv => whnf))
      exact hf1
    · (repeat' ((conv => whnf); first | refine Then.mk ?_ | left | refine OpsA.cons ?_ | refine OpsA.nil ?_ | refine AWq.seq ?_ | refine AWq.region ?_ | refine AWq.cond ?_ | refine AWq.block ?_ | refine AWq.skip ?_ | refine AWq.ret ?_ | refine AWq.exit ?_ | refine AWq.loop ?_ | (refine Both.mk ?_ ?_ <;> intro hc <;> (first | exact Bool.noConfusion hc | (exfalso; omega) | skip)) | (intro c hc; (try (simp only [AH.none_iff] at hc; repeat (have hn := hc.1; replace hc := hc.2))); (first | (refine i64_k hc ?_ ?_ ?_ ; omega; omega; (clear hc; intro hc; subst hc)) | subst hc | skip)) | (apply Exists.intro; apply And.intro; (first | (focus (repeat (first | (with_reducible assumption))); done))) | (apply Exists.intro; apply And.intro; first | (with_reducible assumption) | ((try simp only [List.getElem?_drop, Nat.mul_one, Nat.add_zero, Nat.zero_add]); first | (with_reducible assumption) | rfl)) | (apply And.intro; (first | rfl | (with_reducible assumption) | exact Nat.le_of_ble_eq_true rfl | omega | (simp <;> omega))) | (refine ACall.to (ha9 _) ?_) | (refine ACall.to (ha1 _) ?_) | (refine ACall.to (ha2 _) ?_))) <;> (try (conv => whnf))
      obtain ⟨y, hy⟩ : ∃ y, fs[0]? = some y := ⟨_, List.getElem?_eq_getElem (by omega)⟩
      refine AWp_loop (σ := Nat) (11 :: 48 :: 49 :: 50 :: 51 :: 52 :: 53 :: 54 :: 55 :: 56 :: 57 :: 58 :: 59 :: []) (fun m => [(11, .sl r2 m 3 0 (fs.length + m) none)]) (fun m => twoH H r1 0 r2 m es (fs ++ List.replicate m y)) (fun m => m ≤ 9000) (fun m => 9000 - m) 0 rfl (Nat.zero_le _) ⟨rfl, trivial⟩ (HLe.of_eq (by simp)) ?_
      intro m hm
      refine AWp.of tt_ok (dok _) rfl ?_
      dsimp only at hm ⊢
      have hLl : (fs ++ List.replicate m y).length = fs.length + m := by simp
      have hfl2 : (fxL (fs ++ List.replicate m y)).length = (fs.length + m) * 3 := by rw [fxL_len, hLl]
      have hT2' := T2 r1 r2 0 m es (fs ++ List.replicate m y)
      have hy2 : (fs ++ List.replicate m y)[0]? = some y := by rw [List.getElem?_append_left (by omega)]; exact hy
      have hR : fxL (fs ++ List.replicate m y) = .int .i64 y.a :: .int .i64 y.v :: .int .i64 y.w :: fxL (fs.tail ++ List.replicate m y) := by
        cases fs with
        | nil => simp at hy
        | cons q fs => simp at hy; subst hy; rfl
      have hT3' := T3 r1 r2 0 m (m + 1) es (fs ++ List.replicate m y) (fs ++ List.replicate (m + 1) y)
      have hsn : fxL (fs ++ List.replicate (m + 1) y) = fxL (fs ++ List.replicate m y) ++ fxA y := by
        rw [List.replicate_succ', ← List.append_assoc]; exact (fL_snoc fxA _ _).symm
      have hone := fxL_one (fs ++ List.replicate m y)
      by_cases hlt : fs.length + m < 8191 + b3
      · generalize twoH H r1 0 r2 m es (fs ++ List.replicate m y) = G1 at *
        generalize hG2 : twoH H r1 0 r2 (m + 1) es (fs ++ List.replicate (m + 1) y) = G2 at *
        rw [hsn] at hT3'
        rw [hR] at hT3' hT2' hfl2 hone
        generalize fxL (fs.tail ++ List.replicate m y) = R at *
        (repeat' ((conv => whnf); first | refine Then.mk ?_ | left | refine OpsA.cons ?_ | refine OpsA.nil ?_ | refine AWq.seq ?_ | refine AWq.region ?_ | refine AWq.cond ?_ | refine AWq.block ?_ | refine AWq.skip ?_ | refine AWq.ret ?_ | refine AWq.exit ?_ | refine AWq.loop ?_ | (refine Both.mk ?_ ?_ <;> intro hc <;> (first | exact Bool.noConfusion hc | (exfalso; omega) | skip)) | (intro c hc; (try (simp only [AH.none_iff] at hc; repeat (have hn := hc.1; replace hc := hc.2))); (first | (refine i64_k hc ?_ ?_ ?_ ; omega; omega; (clear hc; intro hc; subst hc)) | subst hc | skip)) | (apply Exists.intro; apply And.intro; (first | (focus (repeat (first | (with_reducible assumption))); done))) | (apply Exists.intro; apply And.intro; first | (with_reducible assumption) | ((try simp only [List.getElem?_drop, Nat.mul_one, Nat.add_zero, Nat.zero_add]); first | (with_reducible assumption) | rfl)) | (apply And.intro; (first | rfl | (with_reducible assumption) | exact Nat.le_of_ble_eq_true rfl | omega | (simp <;> omega))) | (refine ACall.to (hb3 _) ?_))) <;> (try (conv => whnf))
        refine ⟨m + 1, by omega, by omega, ⟨rfl, trivial⟩, HLe.of_eq ?_⟩
        rw [hG2, ← hT3']
        rfl
      · have hf1 := fin r1 r2 0 m es (fs ++ List.replicate m y) hr1 hr2 hne (by omega) (by omega) _ rfl
        rw [hLl] at hf1
        (repeat' ((conv => whnf); first | refine Then.mk ?_ | left | refine OpsA.cons ?_ | refine OpsA.nil ?_ | refine AWq.seq ?_ | refine AWq.region ?_ | refine AWq.cond ?_ | refine AWq.block ?_ | refine AWq.skip ?_ | refine AWq.ret ?_ | refine AWq.exit ?_ | refine AWq.loop ?_ | (refine Both.mk ?_ ?_ <;> intro hc <;> (first | exact Bool.noConfusion hc | (exfalso; omega) | skip)) | (intro c hc; (try (simp only [AH.none_iff] at hc; repeat (have hn := hc.1; replace hc := hc.2))); (first | (refine i64_k hc ?_ ?_ ?_ ; omega; omega; (clear hc; intro hc; subst hc)) | subst hc | skip)) | (apply Exists.intro; apply And.intro; (first | (focus (repeat (first | (with_reducible assumption))); done))) | (apply Exists.intro; apply And.intro; first | (with_reducible assumption) | ((try simp only [List.getElem?_drop, Nat.mul_one, Nat.add_zero, Nat.zero_add]); first | (with_reducible assumption) | rfl)) | (apply And.intro; (first | rfl | (with_reducible assumption) | exact Nat.le_of_ble_eq_true rfl | omega | (simp <;> omega))) | (refine ACall.to (hb3 _) ?_))) <;> (try (conv => whnf))
        exact hf1
end Go.Proofs.Ytebflkgpbbjhnaa
/- The walks of the reference: Loose. -/
namespace Go.Proofs.Ytebflkgpbbjhnaa
open Go.Fw Go
set_option linter.unusedVariables false
set_option linter.unusedSimpArgs false

/-- Truths of a function. -/
def qL (n : Nat) (b : Nat → Bool) : List AV := fnL n fun v => AV.bool (b v)
@[simp] theorem qL_len (n : Nat) (b : Nat → Bool) : (qL n b).length = n := by simp [qL]
def putB (b : Nat → Bool) (i : Nat) : Nat → Bool := fun v => if v = i then true else b v
theorem qL_get {n i : Nat} (b : Nat → Bool) (h : i < n) : (qL n b)[i]? = some (.bool (b i)) := fnL_get _ h
theorem qL_wr {n i : Nat} (b : Nat → Bool) (h : i < n) : wrA (qL n b) (0 + i * 1) [.bool true] = qL n (putB b i) := by
  rw [show 0 + i * 1 = i by omega]
  unfold wrA
  have e : (qL n b).set i (.bool true) = qL n (putB b i) := by
    unfold qL
    rw [fnL_set]
    refine fnL_congr fun u _ => ?_
    unfold putB
    by_cases hu : u = i
    · rw [if_pos hu, if_pos hu]
    · rw [if_neg hu, if_neg hu]
  rw [← e, List.set_eq_take_append_cons_drop, if_pos (by simpa using h)]
  simp
theorem qL_zero (n : Nat) : (List.replicate n [AV.bool false]).flatten = qL n fun _ => false := by
  have : (List.replicate n [AV.bool false]).flatten = List.replicate n (AV.bool false) := by
    induction n with
    | zero => rfl
    | succ n ih => rw [List.replicate_succ, List.flatten_cons, ih, List.replicate_succ]; rfl
  rw [this, fnL_rep]; rfl
/-- Closed under the edges. -/
def Clo (es : List Ed) (b : Nat → Bool) : Prop := ∀ x ∈ es, b x.a.toNat = b x.b.toNat
def outN (n : Nat) (b : Nat → Bool) : Nat := sumN (fun v => cond (b v) 0 1) (n - 1)
theorem outN_0 {n i : Nat} {b : Nat → Bool} (hi : i < n) (hb : b i = true) : outN n b < n := by
  have h1 : outN n b < sumN (fun _ => 1) (n - 1) := sumN_lt (v := i) (by omega) (fun u _ => by cases b u <;> decide) (by rw [hb]; decide)
  have h2 : ∀ k, sumN (fun _ => 1) k = k + 1 := fun k => by
    induction k with
    | zero => rfl
    | succ k ih => show sumN (fun _ => 1) k + 1 = _; rw [ih]
  rw [h2] at h1; omega
theorem putB_same {b : Nat → Bool} {i : Nat} (h : b i = true) : putB b i = b := by
  funext v; unfold putB; split
  · rename_i e; rw [e, h]
  · rfl
theorem outN_put {n i : Nat} {b : Nat → Bool} (hi : i < n) (h : b i = false) : outN n (putB b i) < outN n b := by
  refine sumN_lt (v := i) (by omega) (fun u _ => ?_) ?_
  · unfold putB; split
    · exact Nat.zero_le _
    · exact Nat.le_refl _
  · unfold putB; rw [if_pos rfl, h]; decide
/-- A node that is the least of a part without a fix. -/
def LooseP (n : Nat) (es : List Ed) (fs : List Fx) (i : Nat) : Prop :=
  i < n ∧ ∃ b : Nat → Bool, b i = true ∧ Clo es b ∧ (∀ v, v < i → b v = false) ∧ ∀ x ∈ fs, b x.a.toNat = false
set_option maxHeartbeats 4000000 in
set_option maxRecDepth 8000 in
theorem loose_c (n : Nat) (hnn : n ≤ 64) (es : List Ed) (fs : List Fx) (he : es.length ≤ 8192) (hf : fs.length ≤ 8192) (hE : ∀ x ∈ es, vE n x) (hF : ∀ x ∈ fs, vF n x) (H : AH) :
    ACall Try.prog 18 [.int .i64 n, .cs (edL es) es.length, .cs (fxL fs) fs.length] H (fun y H' => ∃ L : List Nat, L.length ≤ n ∧ (∀ i ∈ L, LooseP n es fs i) ∧ y = .cs (iS .i64 (L.map fun i : Nat => (i : Int))) L.length ∧ H' = H) := by
  have hel := edL_len es
  have hfl := fxL_len fs
  have heo := edL_one es
  have hfo := fxL_one fs
  refine ACall_of tt_ok (dok _) Try.func18 rfl (by decide) rfl ?_
  (iterate 2 ((repeat' ((conv => whnf); first | left | refine OpsA.cons ?_ | refine OpsA.nil ?_ | refine AWq.seq ?_ | refine AWq.region ?_ | refine AWq.cond ?_ | refine AWq.block ?_ | refine AWq.skip ?_ | refine AWq.ret ?_ | refine AWq.exit ?_ | refine AWq.loop ?_ | (refine Both.mk ?_ ?_ <;> intro hc <;> (first | exact Bool.noConfusion hc | (exfalso; omega) | skip)) | (intro c hc; (try (simp only [AH.none_iff] at hc; repeat (have hn := hc.1; replace hc := hc.2))); (first | (refine i64_k hc ?_ ?_ ?_ ; omega; omega; (clear hc; intro hc; subst hc)) | skip)) | (apply Exists.intro; apply And.intro; (first | (focus (repeat (first | (with_reducible assumption) | (with_reducible exact AH.set_same _ _ _) | ((first | refine AH.get_ne ?_ ?_); (first | (with_reducible assumption) | exact Ne.symm (by with_reducible assumption))))); done))) | (apply Exists.intro; apply And.intro; first | (with_reducible assumption) | ((try simp only [List.getElem?_drop, Nat.mul_one, Nat.add_zero, Nat.zero_add]); first | (with_reducible assumption) | rfl)) | (apply And.intro; (first | rfl | (with_reducible assumption) | exact Nat.le_of_ble_eq_true rfl | omega | (simp <;> omega))))) <;> (try (conv => whnf)); refine Then.mk ?_))
  refine AWq.in ?_
  refine AWp_nilrow1 7 1 rfl rfl fun r1 hr1 => ?_
  refine AWp.of tt_ok (dok _) rfl ?_
  (repeat' ((conv => whnf); first | refine Then.mk ?_ | left | refine OpsA.cons ?_ | refine OpsA.nil ?_ | refine AWq.seq ?_ | refine AWq.region ?_ | refine AWq.cond ?_ | refine AWq.block ?_ | refine AWq.skip ?_ | refine AWq.ret ?_ | refine AWq.exit ?_ | refine AWq.loop ?_ | (refine Both.mk ?_ ?_ <;> intro hc <;> (first | exact Bool.noConfusion hc | (exfalso; omega) | skip)) | (intro c hc; (try (simp only [AH.none_iff] at hc; repeat (have hn := hc.1; replace hc := hc.2))); (first | (refine i64_k hc ?_ ?_ ?_ ; omega; omega; (clear hc; intro hc; subst hc)) | skip)) | (apply Exists.intro; apply And.intro; (first | (focus (repeat (first | (with_reducible assumption) | (with_reducible exact AH.set_same _ _ _) | ((first | refine AH.get_ne ?_ ?_); (first | (with_reducible assumption) | exact Ne.symm (by with_reducible assumption))))); done))) | (apply Exists.intro; apply And.intro; first | (with_reducible assumption) | ((try simp only [List.getElem?_drop, Nat.mul_one, Nat.add_zero, Nat.zero_add]); first | (with_reducible assumption) | rfl)) | (apply And.intro; (first | rfl | (with_reducible assumption) | exact Nat.le_of_ble_eq_true rfl | omega | (simp <;> omega))))) <;> (try (conv => whnf))
  refine AWp_loop (σ := List Nat × Nat) (7 :: 8 :: 9 :: 10 :: 11 :: 12 :: 13 :: 14 :: 15 :: 16 :: 17 :: 18 :: 19 :: 20 :: 21 :: 22 :: 23 :: 24 :: 25 :: 26 :: 27 :: 28 :: 29 :: 30 :: 31 :: 32 :: 33 :: 34 :: 35 :: 36 :: 37 :: 38 :: 39 :: 40 :: 41 :: 42 :: 43 :: 44 :: 45 :: 46 :: 47 :: 48 :: 49 :: 50 :: 51 :: 52 :: 53 :: 54 :: 55 :: 56 :: 57 :: 58 :: 59 :: 60 :: 61 :: 62 :: 63 :: 64 :: 65 :: 66 :: 67 :: 68 :: 69 :: 70 :: 71 :: 72 :: 73 :: 74 :: 75 :: 76 :: 77 :: 78 :: 79 :: 80 :: 81 :: 82 :: 83 :: 84 :: 85 :: 86 :: 87 :: 88 :: 89 :: 90 :: 91 :: 92 :: 93 :: 94 :: 95 :: 96 :: 97 :: 98 :: 99 :: 100 :: 101 :: 102 :: 103 :: []) (fun s => [(8, .int .i64 s.2), (7, .sl r1 s.1.length 1 0 s.1.length none)]) (fun s => H.set r1 (.row (iS .i64 (s.1.map fun i : Nat => (i : Int))) s.1.length)) (fun s => s.2 ≤ n ∧ s.1.length ≤ s.2 ∧ ∀ i ∈ s.1, LooseP n es fs i) (fun s => n - s.2) ([], 0) rfl ⟨Nat.zero_le _, Nat.le_refl _, fun i hi => by cases hi⟩ ⟨rfl, rfl, trivial⟩ (HLe.refl _) ?_
  rintro ⟨L, i⟩ ⟨hi, hLi, hL⟩
  dsimp only at hi hLi hL ⊢
  refine AWp.of tt_ok (dok _) rfl ?_
  have hRl : (iS .i64 (L.map fun i : Nat => (i : Int))).length = L.length := by simp
  have hsn : iS .i64 ((L ++ [i]).map fun i : Nat => (i : Int)) = iS .i64 (L.map fun i : Nat => (i : Int)) ++ [.int .i64 (i : Int)] := by simp [iS]
  obtain ⟨R, hR⟩ : ∃ R, R = iS .i64 (L.map fun i : Nat => (i : Int)) := ⟨_, rfl⟩
  rw [← hR] at hRl hsn ⊢
  have hg1 : (H.set r1 (.row R L.length)) r1 = some (.row R L.length) := AH.set_same _ _ _
  by_cases hil : i < n
  · (iterate 2 ((repeat' ((conv => whnf); first | left | refine OpsA.cons ?_ | refine OpsA.nil ?_ | refine AWq.seq ?_ | refine AWq.region ?_ | refine AWq.cond ?_ | refine AWq.block ?_ | refine AWq.skip ?_ | refine AWq.ret ?_ | refine AWq.exit ?_ | refine AWq.loop ?_ | (refine Both.mk ?_ ?_ <;> intro hc <;> (first | exact Bool.noConfusion hc | (exfalso; omega) | skip)) | (intro c hc; (try (simp only [AH.none_iff] at hc; repeat (have hn := hc.1; replace hc := hc.2))); (first | (refine i64_k hc ?_ ?_ ?_ ; omega; omega; (clear hc; intro hc; subst hc)) | skip)) | (apply Exists.intro; apply And.intro; (first | (focus (repeat (first | (with_reducible assumption) | (with_reducible exact AH.set_same _ _ _) | ((first | refine AH.get_ne ?_ ?_); (first | (with_reducible assumption) | exact Ne.symm (by with_reducible assumption))))); done))) | (apply Exists.intro; apply And.intro; first | (with_reducible assumption) | ((try simp only [List.getElem?_drop, Nat.mul_one, Nat.add_zero, Nat.zero_add]); first | (with_reducible assumption) | rfl)) | (apply And.intro; (first | rfl | (with_reducible assumption) | exact Nat.le_of_ble_eq_true rfl | omega | (simp <;> omega))))) <;> (try (conv => whnf)); refine Then.mk ?_))
    (repeat' ((conv => whnf); first | left | refine OpsA.cons ?_ | refine OpsA.nil ?_ | refine AWq.seq ?_ | refine AWq.region ?_ | refine AWq.cond ?_ | refine AWq.block ?_ | refine AWq.skip ?_ | refine AWq.ret ?_ | refine AWq.exit ?_ | refine AWq.loop ?_ | (refine Both.mk ?_ ?_ <;> intro hc <;> (first | exact Bool.noConfusion hc | (exfalso; omega) | skip)) | (intro c hc; (try (simp only [AH.none_iff] at hc; repeat (have hn := hc.1; replace hc := hc.2))); (first | (refine i64_k hc ?_ ?_ ?_ ; omega; omega; (clear hc; intro hc; subst hc)) | skip)) | (apply Exists.intro; apply And.intro; (first | (focus (repeat (first | (with_reducible assumption) | (with_reducible exact AH.set_same _ _ _) | ((first | refine AH.get_ne ?_ ?_); (first | (with_reducible assumption) | exact Ne.symm (by with_reducible assumption))))); done))) | (apply Exists.intro; apply And.intro; first | (with_reducible assumption) | ((try simp only [List.getElem?_drop, Nat.mul_one, Nat.add_zero, Nat.zero_add]); first | (with_reducible assumption) | rfl)) | (apply And.intro; (first | rfl | (with_reducible assumption) | exact Nat.le_of_ble_eq_true rfl | omega | (simp <;> omega))))) <;> (try (conv => whnf))
    (obtain ⟨q, hq_⟩ : ∃ q, q = c := ⟨_, rfl⟩); subst hq_
    have hc0 := hc
    have hqr : q ≠ r1 := by assumption
    have hq : AH.set H r1 (.row R L.length) q = none := by rw [AH.set_ne _ _ hqr]; exact hc
    refine Then.mk ?_
    have hq0 : ((List.replicate (n : Int).toNat [AV.bool false]).flatten).length = n := by rw [show (n : Int).toNat = n by omega, qL_zero]; simp
    (iterate 1 ((repeat' ((conv => whnf); first | left | refine OpsA.cons ?_ | refine OpsA.nil ?_ | refine AWq.seq ?_ | refine AWq.region ?_ | refine AWq.cond ?_ | refine AWq.block ?_ | refine AWq.skip ?_ | refine AWq.ret ?_ | refine AWq.exit ?_ | refine AWq.loop ?_ | (refine Both.mk ?_ ?_ <;> intro hc <;> (first | exact Bool.noConfusion hc | (exfalso; omega) | skip)) | (intro c hc; (try (simp only [AH.none_iff] at hc; repeat (have hn := hc.1; replace hc := hc.2))); (first | (refine i64_k hc ?_ ?_ ?_ ; omega; omega; (clear hc; intro hc; subst hc)) | skip)) | (apply Exists.intro; apply And.intro; (first | (focus (repeat (first | (with_reducible assumption) | (with_reducible exact AH.set_same _ _ _) | ((first | refine AH.get_ne ?_ ?_); (first | (with_reducible assumption) | exact Ne.symm (by with_reducible assumption))))); done))) | (apply Exists.intro; apply And.intro; first | (with_reducible assumption) | ((try simp only [List.getElem?_drop, Nat.mul_one, Nat.add_zero, Nat.zero_add]); first | (with_reducible assumption) | rfl)) | (apply And.intro; (first | rfl | (with_reducible assumption) | exact Nat.le_of_ble_eq_true rfl | omega | (simp <;> omega))))) <;> (try (conv => whnf)); refine Then.mk ?_))
    refine AWq.in ?_
    refine AWp_less ((H.set r1 (.row R L.length)).set q (.row (qL n (putB (fun _ => false) i)) 0)) ?_ ?_
    · refine HLe.of_eq ?_
      rw [← qL_wr (fun _ => false) hil, ← qL_zero]
      rw [show (n : Int).toNat = n by omega]
      exact (AH.set_set _ _ _ _).symm
    refine AWp.of tt_ok (dok _) rfl ?_
    (repeat' ((conv => whnf); first | refine Then.mk ?_ | left | refine OpsA.cons ?_ | refine OpsA.nil ?_ | refine AWq.seq ?_ | refine AWq.region ?_ | refine AWq.cond ?_ | refine AWq.block ?_ | refine AWq.skip ?_ | refine AWq.ret ?_ | refine AWq.exit ?_ | refine AWq.loop ?_ | (refine Both.mk ?_ ?_ <;> intro hc <;> (first | exact Bool.noConfusion hc | (exfalso; omega) | skip)) | (intro c hc; (try (simp only [AH.none_iff] at hc; repeat (have hn := hc.1; replace hc := hc.2))); (first | (refine i64_k hc ?_ ?_ ?_ ; omega; omega; (clear hc; intro hc; subst hc)) | skip)) | (apply Exists.intro; apply And.intro; (first | (focus (repeat (first | (with_reducible assumption) | (with_reducible exact AH.set_same _ _ _) | ((first | refine AH.get_ne ?_ ?_); (first | (with_reducible assumption) | exact Ne.symm (by with_reducible assumption))))); done))) | (apply Exists.intro; apply And.intro; first | (with_reducible assumption) | ((try simp only [List.getElem?_drop, Nat.mul_one, Nat.add_zero, Nat.zero_add]); first | (with_reducible assumption) | rfl)) | (apply And.intro; (first | rfl | (with_reducible assumption) | exact Nat.le_of_ble_eq_true rfl | omega | (simp <;> omega))))) <;> (try (conv => whnf))
    refine AWp_loop (σ := Nat × (Nat → Bool)) (10 :: 11 :: 25 :: 26 :: 27 :: 28 :: 29 :: 30 :: 31 :: 32 :: 33 :: 34 :: 35 :: 36 :: 37 :: 38 :: 39 :: 40 :: 41 :: 42 :: 43 :: 44 :: 45 :: 46 :: 47 :: 48 :: 49 :: 50 :: 51 :: 52 :: 53 :: 54 :: 55 :: 56 :: 57 :: 58 :: 59 :: 60 :: 61 :: 62 :: 63 :: 64 :: 65 :: 66 :: 67 :: []) (fun s => [(10, .int .i64 s.1)]) (fun s => (H.set r1 (.row R L.length)).set q (.row (qL n s.2) 0)) (fun s => s.1 ≤ n ∧ s.2 i = true ∧ (Clo es s.2 ∨ outN n s.2 + s.1 < n)) (fun s => n - s.1) (0, putB (fun _ => false) i) rfl ⟨Nat.zero_le _, if_pos rfl, .inr (outN_0 hil (if_pos rfl))⟩ ⟨rfl, trivial⟩ (HLe.refl _) ?_
    rintro ⟨k, b0⟩ ⟨hk, hb0, hcl⟩
    dsimp only at hk hb0 hcl ⊢
    refine AWp.of tt_ok (dok _) rfl ?_
    by_cases hkn : k < n
    · (repeat' ((conv => whnf); first | refine Then.mk ?_ | left | refine OpsA.cons ?_ | refine OpsA.nil ?_ | refine AWq.seq ?_ | refine AWq.region ?_ | refine AWq.cond ?_ | refine AWq.block ?_ | refine AWq.skip ?_ | refine AWq.ret ?_ | refine AWq.exit ?_ | refine AWq.loop ?_ | (refine Both.mk ?_ ?_ <;> intro hc <;> (first | exact Bool.noConfusion hc | (exfalso; omega) | skip)) | (intro c hc; (try (simp only [AH.none_iff] at hc; repeat (have hn := hc.1; replace hc := hc.2))); (first | (refine i64_k hc ?_ ?_ ?_ ; omega; omega; (clear hc; intro hc; subst hc)) | skip)) | (apply Exists.intro; apply And.intro; (first | (focus (repeat (first | (with_reducible assumption) | (with_reducible exact AH.set_same _ _ _) | ((first | refine AH.get_ne ?_ ?_); (first | (with_reducible assumption) | exact Ne.symm (by with_reducible assumption))))); done))) | (apply Exists.intro; apply And.intro; first | (with_reducible assumption) | ((try simp only [List.getElem?_drop, Nat.mul_one, Nat.add_zero, Nat.zero_add]); first | (with_reducible assumption) | rfl)) | (apply And.intro; (first | rfl | (with_reducible assumption) | exact Nat.le_of_ble_eq_true rfl | omega | (simp <;> omega))))) <;> (try (conv => whnf))
      refine AWp_loop (σ := Nat × (Nat → Bool)) (11 :: 30 :: 31 :: 32 :: 33 :: 34 :: 35 :: 36 :: 37 :: 38 :: 39 :: 40 :: 41 :: 42 :: 43 :: 44 :: 45 :: 46 :: 47 :: 48 :: 49 :: 50 :: 51 :: 52 :: 53 :: 54 :: 55 :: 56 :: 57 :: 58 :: 59 :: 60 :: 61 :: 62 :: 63 :: 64 :: 65 :: 66 :: 67 :: []) (fun s => [(11, .int .i64 s.1)]) (fun s => (H.set r1 (.row R L.length)).set q (.row (qL n s.2) 0)) (fun s => s.1 ≤ es.length ∧ s.2 i = true ∧ (Clo es b0 → s.2 = b0) ∧ (outN n s.2 < outN n b0 ∨ s.2 = b0 ∧ ∀ x ∈ es.take s.1, b0 x.a.toNat = b0 x.b.toNat)) (fun s => es.length - s.1) (0, b0) rfl ⟨Nat.zero_le _, hb0, fun _ => rfl, .inr ⟨rfl, fun x hx => by simp at hx⟩⟩ ⟨rfl, trivial⟩ (HLe.refl _) ?_
      rintro ⟨j, b⟩ ⟨hj, hb, hbc, hbo⟩
      dsimp only at hj hb hbc hbo ⊢
      refine AWp.of tt_ok (dok _) rfl ?_
      by_cases hjl : j < es.length
      · obtain ⟨x, hx⟩ : ∃ x, es[j]? = some x := ⟨_, List.getElem?_eq_getElem hjl⟩
        have hxm := List.mem_of_getElem? hx
        obtain ⟨v1, v2, v3, v4, v5⟩ := hE x hxm
        have ga : (edL es)[(j : Int).toNat * 4]? = some (.int .i64 x.a) := edL_get hx 0 (by decide)
        have gb : (edL es)[(j : Int).toNat * 4 + 1]? = some (.int .i64 x.b) := edL_get hx 1 (by decide)
        have qa := qL_get b (show x.a.toNat < n by omega)
        have qb := qL_get b (show x.b.toNat < n by omega)
        have hql := qL_len n b
        by_cases hab : b x.a.toNat = b x.b.toNat
        · have hstp : j + 1 ≤ es.length ∧ b i = true ∧ (Clo es b0 → b = b0) ∧ (outN n b < outN n b0 ∨ b = b0 ∧ ∀ x ∈ es.take (j + 1), b0 x.a.toNat = b0 x.b.toNat) := by
            refine ⟨hjl, hb, hbc, hbo.imp_right fun h => ⟨h.1, all_take hx h.2 ?_⟩⟩
            rw [← h.1]; exact hab
          cases h1 : b x.a.toNat with
          | false =>
            rw [h1] at qa hab
            rw [← hab] at qb
            (repeat' ((conv => whnf); first | refine Then.mk ?_ | left | refine OpsA.cons ?_ | refine OpsA.nil ?_ | refine AWq.seq ?_ | refine AWq.region ?_ | refine AWq.cond ?_ | refine AWq.block ?_ | refine AWq.skip ?_ | refine AWq.ret ?_ | refine AWq.exit ?_ | refine AWq.loop ?_ | (refine Both.mk ?_ ?_ <;> intro hc <;> (first | exact Bool.noConfusion hc | (exfalso; omega) | skip)) | (intro c hc; (try (simp only [AH.none_iff] at hc; repeat (have hn := hc.1; replace hc := hc.2))); (first | (refine i64_k hc ?_ ?_ ?_ ; omega; omega; (clear hc; intro hc; subst hc)) | skip)) | (apply Exists.intro; apply And.intro; (first | (focus (repeat (first | (with_reducible assumption) | (with_reducible exact AH.set_same _ _ _) | ((first | refine AH.get_ne ?_ ?_); (first | (with_reducible assumption) | exact Ne.symm (by with_reducible assumption))))); done))) | (apply Exists.intro; apply And.intro; first | (with_reducible assumption) | ((try simp only [List.getElem?_drop, Nat.mul_one, Nat.add_zero, Nat.zero_add]); first | (with_reducible assumption) | rfl)) | (apply And.intro; (first | rfl | (with_reducible assumption) | exact Nat.le_of_ble_eq_true rfl | omega | (simp <;> omega))))) <;> (try (conv => whnf))
            exact ⟨(j + 1, b), hstp, by dsimp only; omega, ⟨congrArg (AV.int .i64) (by dsimp only; omega), trivial⟩, HLe.refl _⟩
          | true =>
            rw [h1] at qa hab
            rw [← hab] at qb
            have w1 := qL_wr b (show x.a.toNat < n by omega)
            rw [putB_same h1] at w1
            have w2 := qL_wr b (show x.b.toNat < n by omega)
            rw [putB_same hab.symm] at w2
            have hfin : (((H.set r1 (.row R L.length)).set q (.row (qL n b) 0)).set q (.row (wrA (qL n b) (0 + x.a.toNat * 1) [.bool true]) 0)).set q (.row (wrA (wrA (qL n b) (0 + x.a.toNat * 1) [.bool true]) (0 + x.b.toNat * 1) [.bool true]) 0) = (H.set r1 (.row R L.length)).set q (.row (qL n b) 0) := by rw [AH.set_set, AH.set_set, w1, w2]
            (repeat' ((conv => whnf); first | refine Then.mk ?_ | left | refine OpsA.cons ?_ | refine OpsA.nil ?_ | refine AWq.seq ?_ | refine AWq.region ?_ | refine AWq.cond ?_ | refine AWq.block ?_ | refine AWq.skip ?_ | refine AWq.ret ?_ | refine AWq.exit ?_ | refine AWq.loop ?_ | (refine Both.mk ?_ ?_ <;> intro hc <;> (first | exact Bool.noConfusion hc | (exfalso; omega) | skip)) | (intro c hc; (try (simp only [AH.none_iff] at hc; repeat (have hn := hc.1; replace hc := hc.2))); (first | (refine i64_k hc ?_ ?_ ?_ ; omega; omega; (clear hc; intro hc; subst hc)) | skip)) | (apply Exists.intro; apply And.intro; (first | (focus (repeat (first | (with_reducible assumption) | (with_reducible exact AH.set_same _ _ _) | ((first | refine AH.get_ne ?_ ?_); (first | (with_reducible assumption) | exact Ne.symm (by with_reducible assumption))))); done))) | (apply Exists.intro; apply And.intro; first | (with_reducible assumption) | ((try simp only [List.getElem?_drop, Nat.mul_one, Nat.add_zero, Nat.zero_add]); first | (with_reducible assumption) | rfl)) | (apply And.intro; (first | rfl | (with_reducible assumption) | exact Nat.le_of_ble_eq_true rfl | omega | (simp <;> omega))))) <;> (try (conv => whnf))
            refine ⟨(j + 1, b), hstp, by dsimp only; omega, ⟨congrArg (AV.int .i64) (by dsimp only; omega), trivial⟩, HLe.of_eq hfin.symm⟩
        · have hnc : ¬ Clo es b0 := fun hc => by
            rw [hbc hc] at hab
            exact hab (hc x hxm)
          have w1 := qL_wr b (show x.a.toNat < n by omega)
          have w2 := qL_wr (putB b x.a.toNat) (show x.b.toNat < n by omega)
          have hfin : (((H.set r1 (.row R L.length)).set q (.row (qL n b) 0)).set q (.row (wrA (qL n b) (0 + x.a.toNat * 1) [.bool true]) 0)).set q (.row (wrA (wrA (qL n b) (0 + x.a.toNat * 1) [.bool true]) (0 + x.b.toNat * 1) [.bool true]) 0) = (H.set r1 (.row R L.length)).set q (.row (qL n (putB (putB b x.a.toNat) x.b.toNat)) 0) := by rw [AH.set_set, AH.set_set, w1, w2]
          have hlt : outN n (putB (putB b x.a.toNat) x.b.toNat) < outN n b := by
            cases h1 : b x.a.toNat with
            | false =>
              have h2 : b x.b.toNat = true := by rw [h1] at hab; revert hab; cases b x.b.toNat <;> simp
              have h3 : putB b x.a.toNat x.b.toNat = true := by unfold putB; split <;> first | rfl | exact h2
              rw [putB_same h3]
              exact outN_put (by omega) h1
            | true =>
              rw [putB_same h1]
              have h2 : b x.b.toNat = false := by rw [h1] at hab; revert hab; cases b x.b.toNat <;> simp
              exact outN_put (by omega) h2
          have hstp : j + 1 ≤ es.length ∧ putB (putB b x.a.toNat) x.b.toNat i = true ∧ (Clo es b0 → putB (putB b x.a.toNat) x.b.toNat = b0) ∧ (outN n (putB (putB b x.a.toNat) x.b.toNat) < outN n b0 ∨ putB (putB b x.a.toNat) x.b.toNat = b0 ∧ ∀ x ∈ es.take (j + 1), b0 x.a.toNat = b0 x.b.toNat) := by
            refine ⟨hjl, ?_, fun h => absurd h hnc, .inl (Nat.lt_of_lt_of_le hlt ?_)⟩
            · unfold putB; split
              · rfl
              · split
                · rfl
                · exact hb
            · rcases hbo with h | h
              · exact Nat.le_of_lt h
              · rw [h.1]; exact Nat.le_refl _
          cases h1 : b x.a.toNat with
          | false =>
            have h2 : b x.b.toNat = true := by rw [h1] at hab; revert hab; cases b x.b.toNat <;> simp
            rw [h1] at qa
            rw [h2] at qb
            (repeat' ((conv => whnf); first | refine Then.mk ?_ | left | refine OpsA.cons ?_ | refine OpsA.nil ?_ | refine AWq.seq ?_ | refine AWq.region ?_ | refine AWq.cond ?_ | refine AWq.block ?_ | refine AWq.skip ?_ | refine AWq.ret ?_ | refine AWq.exit ?_ | refine AWq.loop ?_ | (refine Both.mk ?_ ?_ <;> intro hc <;> (first | exact Bool.noConfusion hc | (exfalso; omega) | skip)) | (intro c hc; (try (simp only [AH.none_iff] at hc; repeat (have hn := hc.1; replace hc := hc.2))); (first | (refine i64_k hc ?_ ?_ ?_ ; omega; omega; (clear hc; intro hc; subst hc)) | skip)) | (apply Exists.intro; apply And.intro; (first | (focus (repeat (first | (with_reducible assumption) | (with_reducible exact AH.set_same _ _ _) | ((first | refine AH.get_ne ?_ ?_); (first | (with_reducible assumption) | exact Ne.symm (by with_reducible assumption))))); done))) | (apply Exists.intro; apply And.intro; first | (with_reducible assumption) | ((try simp only [List.getElem?_drop, Nat.mul_one, Nat.add_zero, Nat.zero_add]); first | (with_reducible assumption) | rfl)) | (apply And.intro; (first | rfl | (with_reducible assumption) | exact Nat.le_of_ble_eq_true rfl | omega | (simp <;> omega))))) <;> (try (conv => whnf))
            exact ⟨(j + 1, putB (putB b x.a.toNat) x.b.toNat), hstp, by dsimp only; omega, ⟨congrArg (AV.int .i64) (by dsimp only; omega), trivial⟩, HLe.of_eq hfin.symm⟩
          | true =>
            have h2 : b x.b.toNat = false := by rw [h1] at hab; revert hab; cases b x.b.toNat <;> simp
            rw [h1] at qa
            rw [h2] at qb
            (repeat' ((conv => whnf); first | refine Then.mk ?_ | left | refine OpsA.cons ?_ | refine OpsA.nil ?_ | refine AWq.seq ?_ | refine AWq.region ?_ | refine AWq.cond ?_ | refine AWq.block ?_ | refine AWq.skip ?_ | refine AWq.ret ?_ | refine AWq.exit ?_ | refine AWq.loop ?_ | (refine Both.mk ?_ ?_ <;> intro hc <;> (first | exact Bool.noConfusion hc | (exfalso; omega) | skip)) | (intro c hc; (try (simp only [AH.none_iff] at hc; repeat (have hn := hc.1; replace hc := hc.2))); (first | (refine i64_k hc ?_ ?_ ?_ ; omega; omega; (clear hc; intro hc; subst hc)) | skip)) | (apply Exists.intro; apply And.intro; (first | (focus (repeat (first | (with_reducible assumption) | (with_reducible exact AH.set_same _ _ _) | ((first | refine AH.get_ne ?_ ?_); (first | (with_reducible assumption) | exact Ne.symm (by with_reducible assumption))))); done))) | (apply Exists.intro; apply And.intro; first | (with_reducible assumption) | ((try simp only [List.getElem?_drop, Nat.mul_one, Nat.add_zero, Nat.zero_add]); first | (with_reducible assumption) | rfl)) | (apply And.intro; (first | rfl | (with_reducible assumption) | exact Nat.le_of_ble_eq_true rfl | omega | (simp <;> omega))))) <;> (try (conv => whnf))
            exact ⟨(j + 1, putB (putB b x.a.toNat) x.b.toNat), hstp, by dsimp only; omega, ⟨congrArg (AV.int .i64) (by dsimp only; omega), trivial⟩, HLe.of_eq hfin.symm⟩
      · have hje : j = es.length := by omega
        (repeat' ((conv => whnf); first | refine Then.mk ?_ | left | refine OpsA.cons ?_ | refine OpsA.nil ?_ | refine AWq.seq ?_ | refine AWq.region ?_ | refine AWq.cond ?_ | refine AWq.block ?_ | refine AWq.skip ?_ | refine AWq.ret ?_ | refine AWq.exit ?_ | refine AWq.loop ?_ | (refine Both.mk ?_ ?_ <;> intro hc <;> (first | exact Bool.noConfusion hc | (exfalso; omega) | skip)) | (intro c hc; (try (simp only [AH.none_iff] at hc; repeat (have hn := hc.1; replace hc := hc.2))); (first | (refine i64_k hc ?_ ?_ ?_ ; omega; omega; (clear hc; intro hc; subst hc)) | skip)) | (apply Exists.intro; apply And.intro; (first | (focus (repeat (first | (with_reducible assumption) | (with_reducible exact AH.set_same _ _ _) | ((first | refine AH.get_ne ?_ ?_); (first | (with_reducible assumption) | exact Ne.symm (by with_reducible assumption))))); done))) | (apply Exists.intro; apply And.intro; first | (with_reducible assumption) | ((try simp only [List.getElem?_drop, Nat.mul_one, Nat.add_zero, Nat.zero_add]); first | (with_reducible assumption) | rfl)) | (apply And.intro; (first | rfl | (with_reducible assumption) | exact Nat.le_of_ble_eq_true rfl | omega | (simp <;> omega))))) <;> (try (conv => whnf))
        refine ⟨(k + 1, b), ⟨hkn, hb, ?_⟩, by dsimp only; omega, ⟨congrArg (AV.int .i64) (by dsimp only; omega), trivial⟩, HLe.refl _⟩
        dsimp only
        rcases hcl with h | h
        · left; rw [hbc h]; exact h
        · rcases hbo with h2 | ⟨h2, h3⟩
          · right; omega
          · left
            rw [hje, List.take_of_length_le (Nat.le_refl _)] at h3
            rw [h2]; exact h3
    · have hkc : Clo es b0 := by
        rcases hcl with h | h
        · exact h
        · omega
      generalize b0 = b at *
      clear hcl
      (repeat' ((conv => whnf); first | refine Then.mk ?_ | left | refine OpsA.cons ?_ | refine OpsA.nil ?_ | refine AWq.seq ?_ | refine AWq.region ?_ | refine AWq.cond ?_ | refine AWq.block ?_ | refine AWq.skip ?_ | refine AWq.ret ?_ | refine AWq.exit ?_ | refine AWq.loop ?_ | (refine Both.mk ?_ ?_ <;> intro hc <;> (first | exact Bool.noConfusion hc | (exfalso; omega) | skip)) | (intro c hc; (try (simp only [AH.none_iff] at hc; repeat (have hn := hc.1; replace hc := hc.2))); (first | (refine i64_k hc ?_ ?_ ?_ ; omega; omega; (clear hc; intro hc; subst hc)) | skip)) | (apply Exists.intro; apply And.intro; (first | (focus (repeat (first | (with_reducible assumption) | (with_reducible exact AH.set_same _ _ _) | ((first | refine AH.get_ne ?_ ?_); (first | (with_reducible assumption) | exact Ne.symm (by with_reducible assumption))))); done))) | (apply Exists.intro; apply And.intro; first | (with_reducible assumption) | ((try simp only [List.getElem?_drop, Nat.mul_one, Nat.add_zero, Nat.zero_add]); first | (with_reducible assumption) | rfl)) | (apply And.intro; (first | rfl | (with_reducible assumption) | exact Nat.le_of_ble_eq_true rfl | omega | (simp <;> omega))))) <;> (try (conv => whnf))
      refine AWp_loop (σ := Nat × Bool) (12 :: 13 :: 68 :: 69 :: 70 :: 71 :: 72 :: 73 :: 74 :: 75 :: 76 :: 77 :: 78 :: 79 :: 80 :: []) (fun s => [(13, .int .i64 s.1), (12, .bool s.2)]) (fun s => (H.set r1 (.row R L.length)).set q (.row (qL n b) 0)) (fun s => s.1 ≤ i ∧ (s.2 = true → ∀ v, v < s.1 → b v = false)) (fun s => i - s.1) (0, true) rfl ⟨Nat.zero_le _, fun _ v hv => absurd hv (Nat.not_lt_zero v)⟩ ⟨rfl, rfl, trivial⟩ (HLe.refl _) ?_
      rintro ⟨j, al⟩ ⟨hj, hal⟩
      dsimp only at hj hal ⊢
      refine AWp.of tt_ok (dok _) rfl ?_
      have hql := qL_len n b
      by_cases hji : j < i
      · have qj : (qL n b)[(j : Int).toNat]? = some (.bool (b j)) := qL_get b (show j < n by omega)
        cases al with
        | false =>
          (repeat' ((conv => whnf); first | refine Then.mk ?_ | left | refine OpsA.cons ?_ | refine OpsA.nil ?_ | refine AWq.seq ?_ | refine AWq.region ?_ | refine AWq.cond ?_ | refine AWq.block ?_ | refine AWq.skip ?_ | refine AWq.ret ?_ | refine AWq.exit ?_ | refine AWq.loop ?_ | (refine Both.mk ?_ ?_ <;> intro hc <;> (first | exact Bool.noConfusion hc | (exfalso; omega) | skip)) | (intro c hc; (try (simp only [AH.none_iff] at hc; repeat (have hn := hc.1; replace hc := hc.2))); (first | (refine i64_k hc ?_ ?_ ?_ ; omega; omega; (clear hc; intro hc; subst hc)) | skip)) | (apply Exists.intro; apply And.intro; (first | (focus (repeat (first | (with_reducible assumption) | (with_reducible exact AH.set_same _ _ _) | ((first | refine AH.get_ne ?_ ?_); (first | (with_reducible assumption) | exact Ne.symm (by with_reducible assumption))))); done))) | (apply Exists.intro; apply And.intro; first | (with_reducible assumption) | ((try simp only [List.getElem?_drop, Nat.mul_one, Nat.add_zero, Nat.zero_add]); first | (with_reducible assumption) | rfl)) | (apply And.intro; (first | rfl | (with_reducible assumption) | exact Nat.le_of_ble_eq_true rfl | omega | (simp <;> omega))))) <;> (try (conv => whnf))
          exact ⟨(j + 1, false), ⟨hji, fun h => Bool.noConfusion h⟩, by dsimp only; omega, ⟨congrArg (AV.int .i64) (by dsimp only; omega), rfl, trivial⟩, HLe.refl _⟩
        | true =>
          cases h1 : b j with
          | true =>
            rw [h1] at qj
            (repeat' ((conv => whnf); first | refine Then.mk ?_ | left | refine OpsA.cons ?_ | refine OpsA.nil ?_ | refine AWq.seq ?_ | refine AWq.region ?_ | refine AWq.cond ?_ | refine AWq.block ?_ | refine AWq.skip ?_ | refine AWq.ret ?_ | refine AWq.exit ?_ | refine AWq.loop ?_ | (refine Both.mk ?_ ?_ <;> intro hc <;> (first | exact Bool.noConfusion hc | (exfalso; omega) | skip)) | (intro c hc; (try (simp only [AH.none_iff] at hc; repeat (have hn := hc.1; replace hc := hc.2))); (first | (refine i64_k hc ?_ ?_ ?_ ; omega; omega; (clear hc; intro hc; subst hc)) | skip)) | (apply Exists.intro; apply And.intro; (first | (focus (repeat (first | (with_reducible assumption) | (with_reducible exact AH.set_same _ _ _) | ((first | refine AH.get_ne ?_ ?_); (first | (with_reducible assumption) | exact Ne.symm (by with_reducible assumption))))); done))) | (apply Exists.intro; apply And.intro; first | (with_reducible assumption) | ((try simp only [List.getElem?_drop, Nat.mul_one, Nat.add_zero, Nat.zero_add]); first | (with_reducible assumption) | rfl)) | (apply And.intro; (first | rfl | (with_reducible assumption) | exact Nat.le_of_ble_eq_true rfl | omega | (simp <;> omega))))) <;> (try (conv => whnf))
            exact ⟨(j + 1, false), ⟨hji, fun h => Bool.noConfusion h⟩, by dsimp only; omega, ⟨congrArg (AV.int .i64) (by dsimp only; omega), rfl, trivial⟩, HLe.refl _⟩
          | false =>
            rw [h1] at qj
            (repeat' ((conv => whnf); first | refine Then.mk ?_ | left | refine OpsA.cons ?_ | refine OpsA.nil ?_ | refine AWq.seq ?_ | refine AWq.region ?_ | refine AWq.cond ?_ | refine AWq.block ?_ | refine AWq.skip ?_ | refine AWq.ret ?_ | refine AWq.exit ?_ | refine AWq.loop ?_ | (refine Both.mk ?_ ?_ <;> intro hc <;> (first | exact Bool.noConfusion hc | (exfalso; omega) | skip)) | (intro c hc; (try (simp only [AH.none_iff] at hc; repeat (have hn := hc.1; replace hc := hc.2))); (first | (refine i64_k hc ?_ ?_ ?_ ; omega; omega; (clear hc; intro hc; subst hc)) | skip)) | (apply Exists.intro; apply And.intro; (first | (focus (repeat (first | (with_reducible assumption) | (with_reducible exact AH.set_same _ _ _) | ((first | refine AH.get_ne ?_ ?_); (first | (with_reducible assumption) | exact Ne.symm (by with_reducible assumption))))); done))) | (apply Exists.intro; apply And.intro; first | (with_reducible assumption) | ((try simp only [List.getElem?_drop, Nat.mul_one, Nat.add_zero, Nat.zero_add]); first | (with_reducible assumption) | rfl)) | (apply And.intro; (first | rfl | (with_reducible assumption) | exact Nat.le_of_ble_eq_true rfl | omega | (simp <;> omega))))) <;> (try (conv => whnf))
            refine ⟨(j + 1, true), ⟨hji, fun _ v hv => ?_⟩, by dsimp only; omega, ⟨congrArg (AV.int .i64) (by dsimp only; omega), rfl, trivial⟩, HLe.refl _⟩
            dsimp only at hv
            by_cases hvj : v = j
            · rw [hvj]; exact h1
            · exact hal rfl v (by omega)
      · have hje : j = i := by omega
        subst hje
        (repeat' ((conv => whnf); first | refine Then.mk ?_ | left | refine OpsA.cons ?_ | refine OpsA.nil ?_ | refine AWq.seq ?_ | refine AWq.region ?_ | refine AWq.cond ?_ | refine AWq.block ?_ | refine AWq.skip ?_ | refine AWq.ret ?_ | refine AWq.exit ?_ | refine AWq.loop ?_ | (refine Both.mk ?_ ?_ <;> intro hc <;> (first | exact Bool.noConfusion hc | (exfalso; omega) | skip)) | (intro c hc; (try (simp only [AH.none_iff] at hc; repeat (have hn := hc.1; replace hc := hc.2))); (first | (refine i64_k hc ?_ ?_ ?_ ; omega; omega; (clear hc; intro hc; subst hc)) | skip)) | (apply Exists.intro; apply And.intro; (first | (focus (repeat (first | (with_reducible assumption) | (with_reducible exact AH.set_same _ _ _) | ((first | refine AH.get_ne ?_ ?_); (first | (with_reducible assumption) | exact Ne.symm (by with_reducible assumption))))); done))) | (apply Exists.intro; apply And.intro; first | (with_reducible assumption) | ((try simp only [List.getElem?_drop, Nat.mul_one, Nat.add_zero, Nat.zero_add]); first | (with_reducible assumption) | rfl)) | (apply And.intro; (first | rfl | (with_reducible assumption) | exact Nat.le_of_ble_eq_true rfl | omega | (simp <;> omega))))) <;> (try (conv => whnf))
        refine AWp_loop (σ := Nat × Bool) (12 :: 14 :: 81 :: 82 :: 83 :: 84 :: 85 :: 86 :: 87 :: 88 :: 89 :: 90 :: 91 :: 92 :: 93 :: 94 :: 95 :: 96 :: 97 :: 98 :: []) (fun s => [(14, .int .i64 s.1), (12, .bool s.2)]) (fun s => (H.set r1 (.row R L.length)).set q (.row (qL n b) 0)) (fun s => s.1 ≤ fs.length ∧ (s.2 = true → (∀ v, v < j → b v = false) ∧ ∀ x ∈ fs.take s.1, b x.a.toNat = false)) (fun s => fs.length - s.1) (0, al) rfl ⟨Nat.zero_le _, fun h => ⟨hal h, fun x hx => by simp at hx⟩⟩ ⟨rfl, rfl, trivial⟩ (HLe.refl _) ?_
        rintro ⟨m, al2⟩ ⟨hm, hal2⟩
        dsimp only at hm hal2 ⊢
        refine AWp.of tt_ok (dok _) rfl ?_
        by_cases hml : m < fs.length
        · obtain ⟨x, hx⟩ : ∃ x, fs[m]? = some x := ⟨_, List.getElem?_eq_getElem hml⟩
          have hxm := List.mem_of_getElem? hx
          obtain ⟨v1, v2, v5⟩ := hF x hxm
          have ga : (fxL fs)[(m : Int).toNat * 3]? = some (.int .i64 x.a) := fxL_get hx 0 (by decide)
          have qa := qL_get b (show x.a.toNat < n by omega)
          cases al2 with
          | false =>
            (repeat' ((conv => whnf); first | refine Then.mk ?_ | left | refine OpsA.cons ?_ | refine OpsA.nil ?_ | refine AWq.seq ?_ | refine AWq.region ?_ | refine AWq.cond ?_ | refine AWq.block ?_ | refine AWq.skip ?_ | refine AWq.ret ?_ | refine AWq.exit ?_ | refine AWq.loop ?_ | (refine Both.mk ?_ ?_ <;> intro hc <;> (first | exact Bool.noConfusion hc | (exfalso; omega) | skip)) | (intro c hc; (try (simp only [AH.none_iff] at hc; repeat (have hn := hc.1; replace hc := hc.2))); (first | (refine i64_k hc ?_ ?_ ?_ ; omega; omega; (clear hc; intro hc; subst hc)) | skip)) | (apply Exists.intro; apply And.intro; (first | (focus (repeat (first | (with_reducible assumption) | (with_reducible exact AH.set_same _ _ _) | ((first | refine AH.get_ne ?_ ?_); (first | (with_reducible assumption) | exact Ne.symm (by with_reducible assumption))))); done))) | (apply Exists.intro; apply And.intro; first | (with_reducible assumption) | ((try simp only [List.getElem?_drop, Nat.mul_one, Nat.add_zero, Nat.zero_add]); first | (with_reducible assumption) | rfl)) | (apply And.intro; (first | rfl | (with_reducible assumption) | exact Nat.le_of_ble_eq_true rfl | omega | (simp <;> omega))))) <;> (try (conv => whnf))
            exact ⟨(m + 1, false), ⟨hml, fun h => Bool.noConfusion h⟩, by dsimp only; omega, ⟨congrArg (AV.int .i64) (by dsimp only; omega), rfl, trivial⟩, HLe.refl _⟩
          | true =>
            cases h1 : b x.a.toNat with
            | true =>
              rw [h1] at qa
              (repeat' ((conv => whnf); first | refine Then.mk ?_ | left | refine OpsA.cons ?_ | refine OpsA.nil ?_ | refine AWq.seq ?_ | refine AWq.region ?_ | refine AWq.cond ?_ | refine AWq.block ?_ | refine AWq.skip ?_ | refine AWq.ret ?_ | refine AWq.exit ?_ | refine AWq.loop ?_ | (refine Both.mk ?_ ?_ <;> intro hc <;> (first | exact Bool.noConfusion hc | (exfalso; omega) | skip)) | (intro c hc; (try (simp only [AH.none_iff] at hc; repeat (have hn := hc.1; replace hc := hc.2))); (first | (refine i64_k hc ?_ ?_ ?_ ; omega; omega; (clear hc; intro hc; subst hc)) | skip)) | (apply Exists.intro; apply And.intro; (first | (focus (repeat (first | (with_reducible assumption) | (with_reducible exact AH.set_same _ _ _) | ((first | refine AH.get_ne ?_ ?_); (first | (with_reducible assumption) | exact Ne.symm (by with_reducible assumption))))); done))) | (apply Exists.intro; apply And.intro; first | (with_reducible assumption) | ((try simp only [List.getElem?_drop, Nat.mul_one, Nat.add_zero, Nat.zero_add]); first | (with_reducible assumption) | rfl)) | (apply And.intro; (first | rfl | (with_reducible assumption) | exact Nat.le_of_ble_eq_true rfl | omega | (simp <;> omega))))) <;> (try (conv => whnf))
              exact ⟨(m + 1, false), ⟨hml, fun h => Bool.noConfusion h⟩, by dsimp only; omega, ⟨congrArg (AV.int .i64) (by dsimp only; omega), rfl, trivial⟩, HLe.refl _⟩
            | false =>
              rw [h1] at qa
              (repeat' ((conv => whnf); first | refine Then.mk ?_ | left | refine OpsA.cons ?_ | refine OpsA.nil ?_ | refine AWq.seq ?_ | refine AWq.region ?_ | refine AWq.cond ?_ | refine AWq.block ?_ | refine AWq.skip ?_ | refine AWq.ret ?_ | refine AWq.exit ?_ | refine AWq.loop ?_ | (refine Both.mk ?_ ?_ <;> intro hc <;> (first | exact Bool.noConfusion hc | (exfalso; omega) | skip)) | (intro c hc; (try (simp only [AH.none_iff] at hc; repeat (have hn := hc.1; replace hc := hc.2))); (first | (refine i64_k hc ?_ ?_ ?_ ; omega; omega; (clear hc; intro hc; subst hc)) | skip)) | (apply Exists.intro; apply And.intro; (first | (focus (repeat (first | (with_reducible assumption) | (with_reducible exact AH.set_same _ _ _) | ((first | refine AH.get_ne ?_ ?_); (first | (with_reducible assumption) | exact Ne.symm (by with_reducible assumption))))); done))) | (apply Exists.intro; apply And.intro; first | (with_reducible assumption) | ((try simp only [List.getElem?_drop, Nat.mul_one, Nat.add_zero, Nat.zero_add]); first | (with_reducible assumption) | rfl)) | (apply And.intro; (first | rfl | (with_reducible assumption) | exact Nat.le_of_ble_eq_true rfl | omega | (simp <;> omega))))) <;> (try (conv => whnf))
              exact ⟨(m + 1, true), ⟨hml, fun h => ⟨(hal2 rfl).1, all_take hx (hal2 rfl).2 h1⟩⟩, by dsimp only; omega, ⟨congrArg (AV.int .i64) (by dsimp only; omega), rfl, trivial⟩, HLe.refl _⟩
        · have hme : m = fs.length := by omega
          rw [hme, List.take_of_length_le (Nat.le_refl _)] at hal2
          have hdrop := HLe.fresh (H := H.set r1 (.row R L.length)) (.row (qL n b) 0) hq
          cases al2 with
          | false =>
            (repeat' ((conv => whnf); first | refine Then.mk ?_ | left | refine OpsA.cons ?_ | refine OpsA.nil ?_ | refine AWq.seq ?_ | refine AWq.region ?_ | refine AWq.cond ?_ | refine AWq.block ?_ | refine AWq.skip ?_ | refine AWq.ret ?_ | refine AWq.exit ?_ | refine AWq.loop ?_ | (refine Both.mk ?_ ?_ <;> intro hc <;> (first | exact Bool.noConfusion hc | (exfalso; omega) | skip)) | (intro c hc; (try (simp only [AH.none_iff] at hc; repeat (have hn := hc.1; replace hc := hc.2))); (first | (refine i64_k hc ?_ ?_ ?_ ; omega; omega; (clear hc; intro hc; subst hc)) | skip)) | (apply Exists.intro; apply And.intro; (first | (focus (repeat (first | (with_reducible assumption) | (with_reducible exact AH.set_same _ _ _) | ((first | refine AH.get_ne ?_ ?_); (first | (with_reducible assumption) | exact Ne.symm (by with_reducible assumption))))); done))) | (apply Exists.intro; apply And.intro; first | (with_reducible assumption) | ((try simp only [List.getElem?_drop, Nat.mul_one, Nat.add_zero, Nat.zero_add]); first | (with_reducible assumption) | rfl)) | (apply And.intro; (first | rfl | (with_reducible assumption) | exact Nat.le_of_ble_eq_true rfl | omega | (simp <;> omega))))) <;> (try (conv => whnf))
            exact ⟨(L, j + 1), ⟨hil, by dsimp only; omega, hL⟩, by dsimp only; omega, ⟨congrArg (AV.int .i64) (by dsimp only; omega), rfl, trivial⟩, by dsimp only; rw [← hR]; exact hdrop⟩
          | true =>
            have hnew : ∀ i ∈ L ++ [j], LooseP n es fs i := fun i hi => by
              rcases List.mem_append.1 hi with h | h
              · exact hL i h
              · rw [List.mem_singleton.1 h]
                exact ⟨hil, b, hb0, hkc, (hal2 rfl).1, (hal2 rfl).2⟩
            have hll : (L ++ [j]).length = L.length + 1 := by simp
            generalize L ++ [j] = L2 at *
            (repeat' ((conv => whnf); first | refine Then.mk ?_ | left | refine OpsA.cons ?_ | refine OpsA.nil ?_ | refine AWq.seq ?_ | refine AWq.region ?_ | refine AWq.cond ?_ | refine AWq.block ?_ | refine AWq.skip ?_ | refine AWq.ret ?_ | refine AWq.exit ?_ | refine AWq.loop ?_ | (refine Both.mk ?_ ?_ <;> intro hc <;> (first | exact Bool.noConfusion hc | (exfalso; omega) | skip)) | (intro c hc; (try (simp only [AH.none_iff] at hc; repeat (have hn := hc.1; replace hc := hc.2))); (first | (refine i64_k hc ?_ ?_ ?_ ; omega; omega; (clear hc; intro hc; subst hc)) | skip)) | (apply Exists.intro; apply And.intro; (first | (focus (repeat (first | (with_reducible assumption) | (with_reducible exact AH.set_same _ _ _) | ((first | refine AH.get_ne ?_ ?_); (first | (with_reducible assumption) | exact Ne.symm (by with_reducible assumption))))); done))) | (apply Exists.intro; apply And.intro; first | (with_reducible assumption) | ((try simp only [List.getElem?_drop, Nat.mul_one, Nat.add_zero, Nat.zero_add]); first | (with_reducible assumption) | rfl)) | (apply And.intro; (first | rfl | (with_reducible assumption) | exact Nat.le_of_ble_eq_true rfl | omega | (simp <;> omega))))) <;> (try (conv => whnf))
            refine ⟨(L2, j + 1), ⟨hil, by dsimp only; omega, hnew⟩, by dsimp only; omega, ⟨congrArg (AV.int .i64) (by dsimp only; omega), ?_, trivial⟩, ?_⟩
            · first | exact congrArg (fun k => AV.sl r1 k 1 0 k none) hll | exact congrArg (fun k => AV.sl r1 k 1 0 k none) hll.symm
            · dsimp only
              rw [hsn, hll, AH.set_back _ (Ne.symm hqr)]
              exact HLe.fresh _ (by rw [AH.set_ne _ _ hqr]; exact hc0)
  · have hie : i = n := by omega
    (iterate 1 ((repeat' ((conv => whnf); first | left | refine OpsA.cons ?_ | refine OpsA.nil ?_ | refine AWq.seq ?_ | refine AWq.region ?_ | refine AWq.cond ?_ | refine AWq.block ?_ | refine AWq.skip ?_ | refine AWq.ret ?_ | refine AWq.exit ?_ | refine AWq.loop ?_ | (refine Both.mk ?_ ?_ <;> intro hc <;> (first | exact Bool.noConfusion hc | (exfalso; omega) | skip)) | (intro c hc; (try (simp only [AH.none_iff] at hc; repeat (have hn := hc.1; replace hc := hc.2))); (first | (refine i64_k hc ?_ ?_ ?_ ; omega; omega; (clear hc; intro hc; subst hc)) | skip)) | (apply Exists.intro; apply And.intro; (first | (focus (repeat (first | (with_reducible assumption) | (with_reducible exact AH.set_same _ _ _) | ((first | refine AH.get_ne ?_ ?_); (first | (with_reducible assumption) | exact Ne.symm (by with_reducible assumption))))); done))) | (apply Exists.intro; apply And.intro; first | (with_reducible assumption) | ((try simp only [List.getElem?_drop, Nat.mul_one, Nat.add_zero, Nat.zero_add]); first | (with_reducible assumption) | rfl)) | (apply And.intro; (first | rfl | (with_reducible assumption) | exact Nat.le_of_ble_eq_true rfl | omega | (simp <;> omega))))) <;> (try (conv => whnf)); refine Then.mk ?_))
    refine AWq.in ?_
    refine AWp_freeze1 7 (r := r1) (v := L.length) (es := 1) (n := L.length) (lim := none) (cells := R) rfl rfl hg1 (by omega) ?_
    refine AWp_less H (HLe.del _ (HLe.fresh _ hr1) hr1) ?_
    refine AWp.of tt_ok (dok _) rfl ?_
    (repeat' ((conv => whnf); first | refine Then.mk ?_ | left | refine OpsA.cons ?_ | refine OpsA.nil ?_ | refine AWq.seq ?_ | refine AWq.region ?_ | refine AWq.cond ?_ | refine AWq.block ?_ | refine AWq.skip ?_ | refine AWq.ret ?_ | refine AWq.exit ?_ | refine AWq.loop ?_ | (refine Both.mk ?_ ?_ <;> intro hc <;> (first | exact Bool.noConfusion hc | (exfalso; omega) | skip)) | (intro c hc; (try (simp only [AH.none_iff] at hc; repeat (have hn := hc.1; replace hc := hc.2))); (first | (refine i64_k hc ?_ ?_ ?_ ; omega; omega; (clear hc; intro hc; subst hc)) | skip)) | (apply Exists.intro; apply And.intro; (first | (focus (repeat (first | (with_reducible assumption) | (with_reducible exact AH.set_same _ _ _) | ((first | refine AH.get_ne ?_ ?_); (first | (with_reducible assumption) | exact Ne.symm (by with_reducible assumption))))); done))) | (apply Exists.intro; apply And.intro; first | (with_reducible assumption) | ((try simp only [List.getElem?_drop, Nat.mul_one, Nat.add_zero, Nat.zero_add]); first | (with_reducible assumption) | rfl)) | (apply And.intro; (first | rfl | (with_reducible assumption) | exact Nat.le_of_ble_eq_true rfl | omega | (simp <;> omega))))) <;> (try (conv => whnf))
    exact ⟨L, by omega, hL, by rw [hR], rfl⟩
end Go.Proofs.Ytebflkgpbbjhnaa
/- The law BalanceScales: the contract of the law's function. -/
namespace Go.Proofs.Ytebflkgpbbjhnaa
open Go.Fw Go
set_option linter.unusedVariables false
set_option linter.unusedSimpArgs false

/-- Solve's cost, the least one. -/
structure Least (es : List Ed) (fs : List Fx) (c : Int) : Prop where
  hit : ∃ q, costP es fs q = c
  low : ∀ q, c ≤ costP es fs q
theorem Least.one {es : List Ed} {fs : List Fx} {c d : Int} (h : Least es fs c) (k : Least es fs d) : c = d := by
  obtain ⟨p, hp⟩ := h.hit
  obtain ⟨q, hq⟩ := k.hit
  have := h.low q
  have := k.low p
  omega
theorem pr_valid {n most : Nat} (hn : n ≤ 10) (hm : most ≤ 65535) (l : List Int) : (∀ x ∈ prES n most l, (vE n x ∧ (-(most : Int) ≤ x.d ∧ x.d ≤ most) ∧ x.w ≤ 9)) ∧ (∀ x ∈ prFS n most l, (vF n x ∧ (-(most : Int) ≤ x.v ∧ x.v ≤ most) ∧ x.w ≤ 9)) ∧ (prES n most l).length ≤ 12 ∧ (prFS n most l).length ≤ 5 := by
  have p0 := pickV_lt (l := l) (i := 0) (m := 12) (by decide)
  have p1 := pickV_lt (l := l) (i := 1) (m := 5) (by decide)
  refine ⟨fun x hx => ?_, fun x hx => ?_, ?_, ?_⟩
  · obtain ⟨i, hi, rfl⟩ := List.mem_map.1 hx
    have hi : i < prN n l := by simpa using hi
    have h1n : 1 < n := by unfold prN at hi; split at hi <;> omega
    have lA := pickV_lt (l := l) (i := 4 * (i : Int) + 1) (m := n) (by omega)
    have lB := pickV_lt (l := l) (i := 4 * (i : Int) + 2) (m := n - 1) (by omega)
    have lD := pickV_lt (l := l) (i := 4 * (i : Int) + 3) (m := 2 * most + 1) (by omega)
    have lW := pickV_lt (l := l) (i := 4 * (i : Int) + 4) (m := 9) (by omega)
    unfold prE vE
    dsimp only
    generalize pickV l (4 * (i : Int) + 1) n = a at *
    generalize pickV l (4 * (i : Int) + 2) (n - 1) = b at *
    have hab : a ≠ (a + 1 + b) % n := by
      by_cases h : a + 1 + b < n
      · rw [Nat.mod_eq_of_lt h]; omega
      · rw [Nat.mod_eq_sub_mod (by omega), Nat.mod_eq_of_lt (by omega)]; omega
    have hlt := Nat.mod_lt (a + 1 + b) (show n > 0 by omega)
    generalize (a + 1 + b) % n = m at *
    refine ⟨⟨by omega, by omega, by omega, by omega, by omega⟩, by omega, by omega⟩
  · obtain ⟨i, hi, rfl⟩ := List.mem_map.1 hx
    have hi : i < prM n l := by simpa using hi
    have h1n : 0 < n := by unfold prM at hi; split at hi <;> omega
    have lA := pickV_lt (l := l) (i := 3 * (i : Int) + 2) (m := n) (by omega)
    have lD := pickV_lt (l := l) (i := 3 * (i : Int) + 5) (m := 2 * most + 1) (by omega)
    have lW := pickV_lt (l := l) (i := 3 * (i : Int) + 4) (m := 7) (by omega)
    unfold prF vF
    dsimp only
    refine ⟨⟨by omega, by omega, by omega⟩, by omega, by omega⟩
  · unfold prES; rw [fnL_len]; unfold prN; split <;> omega
  · unfold prFS; rw [fnL_len]; unfold prM; split <;> omega
theorem valid0 {n : Nat} {es : List Ed} {fs : List Fx} (hn : n ≤ 64) (he : es.length ≤ 8192) (hf : fs.length ≤ 8192) (hE : ∀ x ∈ es, vE n x) (hF : ∀ x ∈ fs, vF n x) : validV n es fs = 0 := by
  unfold validV
  rw [if_neg (by omega), if_neg (by omega), if_pos ⟨hE, hF⟩]
end Go.Proofs.Ytebflkgpbbjhnaa
